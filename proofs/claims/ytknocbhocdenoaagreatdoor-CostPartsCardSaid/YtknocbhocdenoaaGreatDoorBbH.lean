/- Contracts: tree.depth, expr, CheckExpr; cost.weight, cost.Expr. -/
import Derived.Test.YtknocbhocdenoaaGreatDoorBbG
namespace Go.Proofs.YtknocbhocdenoaaGreatDoor
open Go Go.RowKit

theorem depthStep_le (d : Nd) (i : Nat) (k : Nd) (r most : Int) : most ≤ depthStep d i k r most ∧ depthStep d i k r most ≤ max most (r + 2) := by
  simp only [depthStep]
  split <;> split <;> (try split) <;> (try split) <;> (try split) <;> omega
theorem depthGo_le (d : Nd) (B : Int) : ∀ (ks : List Nd) (rs : List Int) (i : Nat) (most : Int), (∀ r ∈ rs, r + 2 ≤ B) → most ≤ B → most ≤ depthGo d i ks rs most ∧ depthGo d i ks rs most ≤ B
  | k :: ks, r :: rs, i, most, h, hm => by
    have h1 := depthStep_le d i k r most
    have hr := h r (by simp)
    have h2 := depthGo_le d B ks rs (i + 1) (depthStep d i k r most) (fun x hx => h x (by simp [hx])) (by omega)
    have e : ((i + 1 : Nat) : Int) = (i : Int) + 1 := by omega
    rw [e] at h2
    show most ≤ depthGo d (i + 1) ks rs (depthStep d i k r most) ∧ depthGo d (i + 1) ks rs (depthStep d i k r most) ≤ B
    omega
  | [], rs, i, most, h, hm => by simp only [depthGo]; omega
  | k :: ks, [], i, most, h, hm => by simp only [depthGo]; omega
theorem depth_le : ∀ d : Nd, 0 ≤ d.depth ∧ d.depth ≤ 2 * d.mass := by
  refine Nd.ind fun d ih => ?_
  rw [Nd.depth_eq]
  refine depthGo_le d _ _ _ 0 0 (fun r hr => ?_) (by omega)
  obtain ⟨k, hk, rfl⟩ := List.mem_map.1 hr
  have := ih k hk
  have := mass_kid hk
  omega

theorem l202r {K : AExit → Fr → St → Prop} (hKP : ∀ v fr fr' st, K (.panic v) fr st → K (.panic v) fr' st) (w : Own) (d : Nd) (ds : List Nd) (hs : ds.length ≤ 8388608) (st : St) (hm : ∀ k ∈ ds, k.mass ≤ 8388608) (hk : ∀ k ∈ ds, Good Tryz.prog 202 [k.av] st (.ret (.val (.int .i64 k.depth))) st) : ∀ (n i : Nat) (most : Int), i + n = ds.length →
    WideA K (.exit 0) (Fr.mk [(3, Tv.v (AV.val (Value.int IntKind.i64 (depthGo d i (ds.drop i) ((ds.drop i).map Nd.depth) most))))] [] 42 [] []) st →
    LoopA Tryz.prog (loopAt Tryz.f202 3) (WideA K) (n + 1) (Fr.mk [(1, Tv.l 1 0), (3, Tv.v (AV.val (Value.int IntKind.i64 most))), (8, Tv.v (AV.slice w (flat ds) ds.length)), (9, Tv.v (AV.val (Value.int IntKind.i64 (ds.length : Int)))), (10, Tv.v (AV.val (Value.int IntKind.i64 (i : Int))))] [(1, d.cells)] 42 [] []) st
  | 0, i, most, hi, h0 => lp_step fok202 rfl hKP (sl202_3 w d ds most i ds.length st) (by
      have e : i = ds.length := by omega
      simp [SX.holds, QL, e]
      simpa [e, depthGo] using h0)
  | n + 1, i, most, hi, h0 => lp_step fok202 rfl hKP (sl202_3 w d ds most i ds.length st) (by
      have hlt : i < ds.length := by omega
      have ih := l202r hKP w d ds hs st hm hk n (i + 1)
      rw [List.drop_eq_getElem_cons hlt] at h0
      obtain ⟨e1, e2⟩ := kid_side hlt
      have hg := hk ds[i] (List.getElem_mem hlt)
      have hmm := hm ds[i] (List.getElem_mem hlt)
      have hd := depth_le ds[i]
      have ec : ((i + 1 : Nat) : Int) = (i : Int) + 1 := by omega
      have key : WideA K (.exit 0) (Fr.mk [(3, Tv.v (AV.val (Value.int IntKind.i64 (depthGo d (i + 1 : Nat) (ds.drop (i + 1)) ((ds.drop (i + 1)).map Nd.depth) (depthStep d i ds[i] ds[i].depth most)))))] [] 42 [] []) st := by
        rw [ec]; exact h0
      have ih := ih (depthStep d i ds[i] ds[i].depth most) (by omega) key
      have w1 : IntKind.i64.wrap (ds[i].depth + 1) = ds[i].depth + 1 := wr _ (by omega)
      have w2 : IntKind.i64.wrap (ds[i].depth + 1 + 1) = ds[i].depth + 1 + 1 := wr _ (by omega)
      have w3 : IntKind.i64.wrap (ds[i].depth + if 1 < (i : Int) then 1 else (i : Int)) = ds[i].depth + if 1 < (i : Int) then 1 else (i : Int) := wr _ (by split <;> omega)
      have w4 : IntKind.i64.wrap (ds[i].depth + 1 + if 1 < (i : Int) then 1 else (i : Int)) = ds[i].depth + 1 + if 1 < (i : Int) then 1 else (i : Int) := wr _ (by split <;> omega)
      simp only [SX.holds, holds_cond, QL, Int.toNat_natCast, e1, e2, ndA_av, wr1 i (by omega), decide_eq_true_eq, decide_eq_false_iff_not, Int.ofNat_lt, hlt, not_true_eq_false, true_and, and_true, true_implies, false_implies, hg, g228, g229, w1, w2, w3, w4]
      simp only [depthStep] at ih
      refine ⟨fun h1 => ⟨fun h2 => ?_, fun h2 => ⟨fun h3 => ?_, fun h3 => ?_⟩⟩, fun h1 => ⟨fun h2 => ?_, fun h2 => ⟨fun h3 => ?_, fun h3 => ?_⟩⟩⟩
      all_goals
        simp at h2
        try simp at h3
        simp only [h1, h2, if_true, if_false] at ih
        try simp only [h3, if_true, if_false] at ih
        exact ih)
theorem g202 (st : St) : ∀ d : Nd, d.mass ≤ 8388608 → Good Tryz.prog 202 [d.av] st (.ret (.val (.int .i64 d.depth))) st := by
  refine Nd.ind fun d ih hm => ?_
  have hlen := mass_len d
  have hmk : ∀ k ∈ d.kids, k.mass ≤ 8388608 := fun k hk => by have := mass_kid hk; omega
  refine gd Tryz.func202 fok202 rfl rfl (s202 d st) ?_
  simp only [SX.holds, QE, ndA_av, kidsA_flat, Nd.depth_eq d, and_true]
  exact loopG_of (d.kids.length + 1) fun K hKP hK => l202r hKP .ro d d.kids (by omega) st hmk (fun k hk => ih k hk (hmk k hk)) d.kids.length 0 0 (by omega) hK
def exprEnd (d : Nd) : AEnd := bif d.formed then (bif decide (d.depth ≤ 24) then .ret (.tuple []) else .panic (.iface 278 (.agg [.val (.int .i64 122)]))) else .panic (.iface 278 (.agg [.val (.int .i64 120)]))
theorem g154 (d : Nd) (hm : d.mass ≤ 8388608) (st : St) : Good Tryz.prog 154 [d.av] st (exprEnd d) st := by
  refine gd Tryz.func154 fok154 rfl rfl (s154 d st) ?_
  have h1 := g196 st d hm
  have h2 := g202 st d hm
  unfold nodeEnd at h1
  unfold exprEnd
  rw [ndA_av]
  cases hf : d.formed with
  | false =>
    rw [hf] at h1
    exact ⟨h1, rfl, rfl⟩
  | true =>
    rw [hf] at h1
    refine ⟨h1, h2, holds_cond.2 ⟨fun h => ⟨g135c h _ _, ?_, rfl⟩, fun h => ⟨g135d h _ _, ?_, rfl⟩⟩⟩
    · rw [h]; rfl
    · rw [h]; rfl
theorem ndAt_cells (d : Nd) : ndAt [AV.val (.int .u8 d.kind), .val (.int .u8 d.oper), .val (.int .u8 d.typ), .val (.int .i64 d.n), .val (.int .u8 d.field), .val (.string d.name), .slice .ro (flat d.kids) d.kids.length, .val (.int .i64 d.pos)] 0 = d := decC_eq (fun _ _ => Nd.cells_inj) d
theorem ld_cells (d : Nd) : ld Tryz.prog 35 [AV.val (.int .u8 d.kind), .val (.int .u8 d.oper), .val (.int .u8 d.typ), .val (.int .i64 d.n), .val (.int .u8 d.field), .val (.string d.name), .slice .ro (flat d.kids) d.kids.length, .val (.int .i64 d.pos)] 0 = some d.av := by unfold ld; rw [shp_nd]; rfl
theorem g153 (d : Nd) (hm : d.mass ≤ 8388608) (st : St) : Good Tryz.prog 153 [.rptr d.cells 0] st (exprEnd d) st := by
  refine gd Tryz.func153 fok153 rfl rfl (s153 d st) ?_
  have h1 := g154 d hm st
  unfold exprEnd at h1 ⊢
  rw [ndAt_cells, ndA_av]
  refine ⟨ld_cells d, fun _ => ?_⟩
  cases hf : d.formed with
  | false =>
    rw [hf] at h1
    exact ⟨h1, rfl, rfl⟩
  | true =>
    rw [hf] at h1
    simp only [cond_true] at h1 ⊢
    refine holds_cond.2 ⟨fun h => ?_, fun h => ?_⟩
    · rw [h] at h1 ⊢; exact ⟨h1, rfl, rfl⟩
    · rw [h] at h1 ⊢; exact ⟨h1, rfl, rfl⟩
theorem call153 : callable Tryz.prog 153 := callB_ok (by kernel_rfl)
theorem g132 (d : Nd) (hm : d.mass ≤ 8388608) (st : St) : Good Tryz.prog 132 [.func (.func 153) [] [.rptr d.cells 0]] st (.ret (.val (.int .i64 (checkE d)))) st := by
  refine caught_good (e := exprEnd d) call153 (by simpa using g153 d hm st) ?_
  unfold exprEnd checkE caughtEnd
  cases d.formed <;> cases decide (d.depth ≤ 24) <;> rfl
theorem g79 (d : Nd) (hm : d.mass ≤ 8388608) (st : St) : Good Tryz.prog 79 [d.av] st (.ret (.val (.int .i64 (checkE d)))) st := by
  refine gd Tryz.func79 fok79 rfl rfl (s79 d st) ?_
  have h1 := g132 d hm st
  simp only [Nd.cells] at h1
  simp only [SX.holds, QE, ndA_av, h1, true_and, and_true]
end Go.Proofs.YtknocbhocdenoaaGreatDoor
