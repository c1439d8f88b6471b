/- Contracts: tree.node, depth, expr, CheckExpr; cost.weight, Expr. -/
import Derived.Test.YtknocbhocdenoaaGreatDoorBbF
namespace Go.Proofs.YtknocbhocdenoaaGreatDoor
open Go Go.RowKit

theorem sum_mem {l : List Nat} {x : Nat} (h : x ∈ l) : x ≤ l.sum := by
  induction l with
  | nil => cases h
  | cons a l ih =>
    rw [List.sum_cons]
    rcases List.mem_cons.1 h with rfl | h
    · omega
    · have := ih h; omega
theorem mass_kid {d k : Nd} (h : k ∈ d.kids) : k.mass < d.mass := by
  rw [Nd.mass_eq d]
  have := sum_mem (List.mem_map_of_mem (f := Nd.mass) h)
  omega
theorem mass_pos (d : Nd) : 1 ≤ d.mass := by rw [Nd.mass_eq]; omega
theorem sum_len {l : List Nat} (h : ∀ x ∈ l, 1 ≤ x) : l.length ≤ l.sum := by
  induction l with
  | nil => simp
  | cons a l ih =>
    rw [List.sum_cons, List.length_cons]
    have := h a (by simp)
    have := ih fun x hx => h x (by simp [hx])
    omega
theorem mass_len (d : Nd) : d.kids.length < d.mass := by
  rw [Nd.mass_eq]
  have := sum_len (l := d.kids.map Nd.mass) (by simp only [List.mem_map]; rintro x ⟨k, _, rfl⟩; exact mass_pos k)
  simp at this
  omega
theorem formed_all (d : Nd) : d.formed = (oneB d && d.kids.all Nd.formed) := by
  rw [Nd.formed_eq]; simp [List.all_map, Function.comp_def]
theorem g135c {b : Bool} (h : b = true) (e : Int) (st : St) : Good Tryz.prog 135 [.val (.bool b), .val (.int .i64 e)] st (.ret (.tuple [])) st := by subst h; exact g135t e st
theorem g135d {b : Bool} (h : b = false) (e : Int) (st : St) : Good Tryz.prog 135 [.val (.bool b), .val (.int .i64 e)] st (.panic (.iface 278 (.agg [.val (.int .i64 e)]))) st := by subst h; exact g135f e st
theorem kid_side {ds : List Nd} {i : Nat} (h : i < ds.length) : ld Tryz.prog 35 (flat ds) (i * 8) = some ds[i].av ∧ ndAt (flat ds) (i * 8) = ds[i] := ⟨ld_node shp_nd h, ndAt_flat h⟩

/-! ### tree.node -/
def nodeEnd (d : Nd) : AEnd := bif d.formed then .ret (.tuple []) else .panic (.iface 278 (.agg [.val (.int .i64 120)]))
theorem l196r {K : AExit → Fr → St → Prop} (hKP : ∀ v fr fr' st, K (.panic v) fr st → K (.panic v) fr' st) (w : Own) (ds : List Nd) (hs : ds.length ≤ 8388608) (st : St) (hk : ∀ k ∈ ds, Good Tryz.prog 196 [k.av] st (nodeEnd k) st) : ∀ (n i : Nat), i + n = ds.length →
    ((ds.drop i).all Nd.formed = true → WideA K (.exit 1) (Fr.mk [] [] 136 [] []) st) → ((ds.drop i).all Nd.formed = false → WideA K (.panic (AV.iface 278 (AV.agg [AV.val (Value.int IntKind.i64 120)]))) (Fr.mk [] [] 136 [] []) st) →
    LoopA Tryz.prog (loopAt Tryz.f196 32) (WideA K) (n + 1) (Fr.mk [(127, Tv.v (AV.slice w (flat ds) ds.length)), (128, Tv.v (AV.val (Value.int IntKind.i64 (ds.length : Int)))), (129, Tv.v (AV.val (Value.int IntKind.i64 (i : Int))))] [] 136 [] []) st
  | 0, i, hi, h0, _ => lp_step fok196 rfl hKP (sl196_32 w ds i ds.length st) (by
      have e : i = ds.length := by omega
      simp [SX.holds, holds_cond, QL, e]
      exact h0 (by simp [e]))
  | n + 1, i, hi, h0, h1 => lp_step fok196 rfl hKP (sl196_32 w ds i ds.length st) (by
      have hlt : i < ds.length := by omega
      have ih := l196r hKP w ds hs st hk n (i + 1) (by omega)
      rw [List.drop_eq_getElem_cons hlt] at h0 h1
      simp only [List.all_cons] at h0 h1
      obtain ⟨e1, e2⟩ := kid_side hlt
      have hg := hk ds[i] (List.getElem_mem hlt)
      simp only [SX.holds, holds_cond, QL, Int.toNat_natCast, e1, e2, ndA_av, wr1 i (by omega), decide_eq_true_eq, Int.ofNat_lt, hlt, true_and, true_implies]
      unfold nodeEnd at hg
      cases hc : ds[i].formed with
      | true =>
        simp only [hc, Bool.true_and, cond_true] at h0 h1 hg
        simp [hg]
        simpa using ih h0 h1
      | false =>
        simp only [hc, Bool.false_and, cond_false] at h0 h1 hg
        simp [hg]
        exact h1 trivial)
set_option maxHeartbeats 8000000 in
theorem g196 (st : St) : ∀ d : Nd, d.mass ≤ 8388608 → Good Tryz.prog 196 [d.av] st (nodeEnd d) st := by
  refine Nd.ind fun d ih hm => ?_
  have hlen := mass_len d
  have hk : ∀ k ∈ d.kids, Good Tryz.prog 196 [k.av] st (nodeEnd k) st := fun k hk => ih k hk (by have := mass_kid hk; omega)
  refine gd Tryz.func196 fok196 rfl rfl (s196 d st) ?_
  have L1 : d.kids.all Nd.formed = true → LoopG Tryz.prog (loopAt Tryz.f196 32) (Fr.mk [(127, Tv.v (AV.slice Own.ro (flat d.kids) d.kids.length)), (128, Tv.v (AV.val (Value.int IntKind.i64 (d.kids.length : Int)))), (129, Tv.v (AV.val (Value.int IntKind.i64 0)))] [] 136 [] []) st (AExit.exit 1) (Fr.mk [] [] 136 [] []) st := fun h =>
    loopG_of (d.kids.length + 1) fun K hKP hK => l196r hKP .ro d.kids (by omega) st hk d.kids.length 0 (by omega) (fun _ => hK) (fun h' => by rw [List.drop_zero, h] at h'; cases h')
  have L2 : d.kids.all Nd.formed = false → LoopG Tryz.prog (loopAt Tryz.f196 32) (Fr.mk [(127, Tv.v (AV.slice Own.ro (flat d.kids) d.kids.length)), (128, Tv.v (AV.val (Value.int IntKind.i64 (d.kids.length : Int)))), (129, Tv.v (AV.val (Value.int IntKind.i64 0)))] [] 136 [] []) st (AExit.panic (AV.iface 278 (AV.agg [AV.val (Value.int IntKind.i64 120)]))) (Fr.mk [] [] 136 [] []) st := fun h =>
    loopG_of (d.kids.length + 1) fun K hKP hK => l196r hKP .ro d.kids (by omega) st hk d.kids.length 0 (by omega) (fun h' => by rw [List.drop_zero, h] at h'; cases h') (fun _ => hK)
  have F1 : oneB d = true → d.kids.all Nd.formed = true → nodeEnd d = .ret (.tuple []) := fun h1 h2 => by unfold nodeEnd; rw [formed_all, h1, h2]; rfl
  have F2 : oneB d = false → nodeEnd d = .panic (.iface 278 (.agg [.val (.int .i64 120)])) := fun h1 => by unfold nodeEnd; rw [formed_all, h1]; rfl
  have F3 : d.kids.all Nd.formed = false → nodeEnd d = .panic (.iface 278 (.agg [.val (.int .i64 120)])) := fun h2 => by unfold nodeEnd; rw [formed_all, h2]; simp
  simp only [SX.holds, holds_cond, QE, ndA_av, kidsA_flat, g224, g195, g225, nil_beq, cast_beq0, cast_beq1, cast_beq2, cast_beq3, true_and, and_true]
  repeat' (first | (refine ⟨?_, ?_⟩) | intro h)
  all_goals first
    | exact L1 (by assumption)
    | exact L2 (by assumption)
    | exact F3 (by assumption)
    | exact g135c (by assumption) _ _
    | exact g135d (by assumption) _ _
    | exact g135f _ _
    | (refine F1 ?_ (by assumption); simp only [oneB, noName]; first | (simp_all; done) | grind)
    | (refine F2 ?_; simp only [oneB, noName]; first | (simp_all; done) | grind)

end Go.Proofs.YtknocbhocdenoaaGreatDoor
