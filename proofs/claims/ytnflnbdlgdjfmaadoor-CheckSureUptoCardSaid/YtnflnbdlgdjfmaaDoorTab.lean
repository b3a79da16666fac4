/-
  The types that the operations ask for. Conditions: none.
-/
import Derived.Test.YtnflnbdlgdjfmaaDoorTac
import Derived.Test.YtnflnbdlgdjfmaaDoorProg
namespace Go.Proofs.YtnflnbdlgdjfmaaDoor
instance : TOne Tryd.prog 3 := ⟨by kernel_rfl⟩
instance : TOne Tryd.prog 4 := ⟨by kernel_rfl⟩
instance : TOne Tryd.prog 22 := ⟨by kernel_rfl⟩
instance : TOne Tryd.prog 9 := ⟨by kernel_rfl⟩
instance : TStr Tryd.prog 9 := ⟨by kernel_rfl⟩
instance : TOne Tryd.prog 30 := ⟨by kernel_rfl⟩
instance : TOne Tryd.prog 25 := ⟨by kernel_rfl⟩
instance : TOne Tryd.prog 40 := ⟨by kernel_rfl⟩
instance : TOne Tryd.prog 71 := ⟨by kernel_rfl⟩
instance : TAgg Tryd.prog 24 2 := ⟨by kernel_rfl⟩
instance : TField Tryd.prog 24 0 0 := ⟨by kernel_rfl⟩
instance : TField Tryd.prog 24 1 1 := ⟨by kernel_rfl⟩
instance : TStruct Tryd.prog 24 [(0, 1), (1, 1)] := ⟨by kernel_rfl⟩
instance : TZero Tryd.prog 24 [.int .i64 0, .nilsl] := ⟨[.int .i64 0, .slice none 0 0], by kernel_rfl, by (repeat' (first | exact trivial | exact rfl | refine ⟨?_, ?_⟩)); done⟩
instance : TAgg Tryd.prog 27 7 := ⟨by kernel_rfl⟩
instance : TField Tryd.prog 27 0 0 := ⟨by kernel_rfl⟩
instance : TField Tryd.prog 27 1 1 := ⟨by kernel_rfl⟩
instance : TField Tryd.prog 27 2 2 := ⟨by kernel_rfl⟩
instance : TField Tryd.prog 27 3 4 := ⟨by kernel_rfl⟩
instance : TField Tryd.prog 27 4 6 := ⟨by kernel_rfl⟩
instance : TStruct Tryd.prog 27 [(0, 1), (1, 1), (2, 2), (4, 2), (6, 1)] := ⟨by kernel_rfl⟩
instance : TZero Tryd.prog 27 [.int .i64 0, .int .i64 0, .int .i64 0, .nilsl, .int .i64 0, .nilsl, .nilsl] := ⟨[.int .i64 0, .int .i64 0, .int .i64 0, .slice none 0 0, .int .i64 0, .slice none 0 0, .slice none 0 0], by kernel_rfl, by (repeat' (first | exact trivial | exact rfl | refine ⟨?_, ?_⟩)); done⟩
instance : TAgg Tryd.prog 48 5 := ⟨by kernel_rfl⟩
instance : TField Tryd.prog 48 0 0 := ⟨by kernel_rfl⟩
instance : TField Tryd.prog 48 1 1 := ⟨by kernel_rfl⟩
instance : TField Tryd.prog 48 2 3 := ⟨by kernel_rfl⟩
instance : TStruct Tryd.prog 48 [(0, 1), (1, 2), (3, 2)] := ⟨by kernel_rfl⟩
instance : TZero Tryd.prog 48 [.int .i64 0, .int .i64 0, .nilsl, .int .i64 0, .nilsl] := ⟨[.int .i64 0, .int .i64 0, .slice none 0 0, .int .i64 0, .slice none 0 0], by kernel_rfl, by (repeat' (first | exact trivial | exact rfl | refine ⟨?_, ?_⟩)); done⟩
instance : TAgg Tryd.prog 29 3 := ⟨by kernel_rfl⟩
instance : TField Tryd.prog 29 0 0 := ⟨by kernel_rfl⟩
instance : TField Tryd.prog 29 1 1 := ⟨by kernel_rfl⟩
instance : TField Tryd.prog 29 2 2 := ⟨by kernel_rfl⟩
instance : TStruct Tryd.prog 29 [(0, 1), (1, 1), (2, 1)] := ⟨by kernel_rfl⟩
instance : TZero Tryd.prog 29 [.int .i64 0, .int .i64 0, .bool false] := ⟨[.int .i64 0, .int .i64 0, .bool false], by kernel_rfl, by (repeat' (first | exact trivial | exact rfl | refine ⟨?_, ?_⟩)); done⟩
instance : TAgg Tryd.prog 73 10 := ⟨by kernel_rfl⟩
instance : TField Tryd.prog 73 0 0 := ⟨by kernel_rfl⟩
instance : TField Tryd.prog 73 1 7 := ⟨by kernel_rfl⟩
instance : TField Tryd.prog 73 2 9 := ⟨by kernel_rfl⟩
instance : TStruct Tryd.prog 73 [(0, 7), (7, 2), (9, 1)] := ⟨by kernel_rfl⟩
instance : TZero Tryd.prog 73 [.int .i64 0, .int .i64 0, .int .i64 0, .nilsl, .int .i64 0, .nilsl, .nilsl, .int .i64 0, .nilsl, .int .i64 0] := ⟨[.int .i64 0, .int .i64 0, .int .i64 0, .slice none 0 0, .int .i64 0, .slice none 0 0, .slice none 0 0, .int .i64 0, .slice none 0 0, .int .i64 0], by kernel_rfl, by (repeat' (first | exact trivial | exact rfl | refine ⟨?_, ?_⟩)); done⟩
instance : TAgg Tryd.prog 54 1 := ⟨by kernel_rfl⟩
instance : TField Tryd.prog 54 0 0 := ⟨by kernel_rfl⟩
instance : TStruct Tryd.prog 54 [(0, 1)] := ⟨by kernel_rfl⟩
instance : TZero Tryd.prog 54 [.int .i64 0] := ⟨[.int .i64 0], by kernel_rfl, by (repeat' (first | exact trivial | exact rfl | refine ⟨?_, ?_⟩)); done⟩
instance : TElem Tryd.prog 22 24 2 32 := ⟨by kernel_rfl⟩
instance : TElem Tryd.prog 25 27 7 104 := ⟨by kernel_rfl⟩
instance : TElem Tryd.prog 40 48 5 72 := ⟨by kernel_rfl⟩
instance : TElem Tryd.prog 71 73 10 144 := ⟨by kernel_rfl⟩
instance : TArr Tryd.prog 93 10 1 := ⟨by kernel_rfl⟩
end Go.Proofs.YtnflnbdlgdjfmaaDoor
