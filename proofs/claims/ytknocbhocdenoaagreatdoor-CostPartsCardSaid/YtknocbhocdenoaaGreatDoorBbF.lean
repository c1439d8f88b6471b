/- Contracts: ref12.literal, ref12.one, tree.node's own part. -/
import Derived.Test.YtknocbhocdenoaaGreatDoorBbE
namespace Go.Proofs.YtknocbhocdenoaaGreatDoor
open Go Go.RowKit

theorem fold_nd (k o t n f : Int) (nm : ByteArray) (ks : List Nd) (p : Int) : AV.agg [.val (.int .u8 k), .val (.int .u8 o), .val (.int .u8 t), .val (.int .i64 n), .val (.int .u8 f), .val (.string nm), .slice .ro (flat ks) ks.length, .val (.int .i64 p)] = (Nd.mk k o t n f nm ks p).av := rfl
theorem zero_mk (k o t n f : Int) (nm : ByteArray) (ks : List Nd) (p : Int) : (Nd.mk k o t n f nm ks p).zero = (o == 0 && (t == 0 && (n == 0 && (f == 0 && nm.toList == [])))) := rfl
theorem nil_list : (ByteArray.mk #[]).toList = [] := by simp [ByteArray.toList_eq]
theorem nil_beq (l : List UInt8) : ((ByteArray.mk #[]).toList == l) = (l == []) := by rw [nil_list]; cases l <;> rfl
theorem cast_beq (n m : Nat) : ((n : Int) == (m : Int)) = (n == m) := by
  rw [Bool.eq_iff_iff]; simp; omega
theorem cast_beq0 (n : Nat) : ((n : Int) == 0) = (n == 0) := cast_beq n 0
theorem cast_beq1 (n : Nat) : ((n : Int) == 1) = (n == 1) := cast_beq n 1
theorem cast_beq2 (n : Nat) : ((n : Int) == 2) = (n == 2) := cast_beq n 2
theorem cast_beq3 (n : Nat) : ((n : Int) == 3) = (n == 3) := cast_beq n 3
theorem g191 (d : Nd) (st : St) : Good Tryz.prog 191 [d.av] st (.ret (.val (.bool (litB d && (d.oper == 0 && (d.field == 0 && (noName d && d.kids.length == 0))))))) st := by
  refine gd Tryz.func191 fok191 rfl rfl (s191 d st) ?_
  simp only [SX.holds, holds_cond, QE, fold_nd, ndA_av, g192, cast_beq0, true_and, and_true, AEnd.ret.injEq, AV.val.injEq, Value.bool.injEq]
  simp only [noName, litB, Nd.zero]
  repeat' (first | (refine ⟨?_, ?_⟩) | intro h)
  all_goals (first | (simp_all; done) | grind)
theorem g123 (d : Nd) (st : St) : Good Tryz.prog 123 [d.av] st (.ret (.val (.bool (oneB d)))) st := by
  refine gd Tryz.func123 fok123 rfl rfl (s123 d st) ?_
  simp only [SX.holds, holds_cond, QE, fold_nd, ndA_av, g191, g192, g110, cast_beq0, cast_beq1, cast_beq2, cast_beq3, true_and, and_true, AEnd.ret.injEq, AV.val.injEq, Value.bool.injEq]
  simp only [oneB, noName, Nd.zero, nil_list]
  repeat' (first | (refine ⟨?_, ?_⟩) | intro h)
  all_goals (first | (simp_all; done) | grind)
end Go.Proofs.YtknocbhocdenoaaGreatDoor
