/- Contracts: cost.weight, cost.Expr; ref12.Formed, ref12.Size; WeighNode, farExpr. -/
import Derived.Test.YtknocbhocdenoaaGreatDoorBbH
namespace Go.Proofs.YtknocbhocdenoaaGreatDoor
open Go Go.RowKit

theorem sum_le {α : Type} {f g : α → Nat} {c : Nat} : ∀ {l : List α}, (∀ x ∈ l, f x ≤ c * g x) → (l.map f).sum ≤ c * (l.map g).sum
  | [], _ => by simp
  | x :: l, h => by
    have h1 := h x (by simp)
    have h2 := sum_le (l := l) fun y hy => h y (by simp [hy])
    simp only [List.map_cons, List.sum_cons, Nat.mul_add]
    omega
theorem get3 (l : List Nat) : l.getD 0 0 + l.getD 1 0 + l.getD 2 0 ≤ l.sum := by
  rcases l with _ | ⟨a, _ | ⟨b, _ | ⟨c, l⟩⟩⟩ <;> simp <;> omega
theorem weight_le : ∀ d : Nd, d.weight ≤ 2 * d.size := by
  refine Nd.ind fun d ih => ?_
  rw [Nd.weight_eq, Nd.size_eq]
  have h := sum_le (l := d.kids) ih
  have h3 := get3 (d.kids.map Nd.weight)
  split
  · omega
  · split
    · omega
    · omega
theorem size_mass : ∀ d : Nd, d.size ≤ d.mass := by
  refine Nd.ind fun d ih => ?_
  rw [Nd.mass_eq, Nd.size_eq]
  have h := sum_le (c := 1) (l := d.kids) (f := Nd.size) (g := Nd.mass) (fun x hx => by have := ih x hx; omega)
  omega
theorem formed_one {d : Nd} (h : d.formed = true) : oneB d = true ∧ ∀ k ∈ d.kids, k.formed = true := by
  rw [formed_all] at h
  simp only [Bool.and_eq_true, List.all_eq_true] at h
  exact h
theorem one_kids {d : Nd} (h : oneB d = true) : (d.kind = 7 → d.kids.length = 3) ∧ (d.kind = 9 → d.kids.length = 1) := by
  refine ⟨fun hk => ?_, fun hk => ?_⟩
  · simp [oneB, hk] at h; exact h.2.2.2.2.2
  · simp [oneB, hk] at h; exact h.2.2.2.2.2.2
theorem l121r {K : AExit → Fr → St → Prop} (hKP : ∀ v fr fr' st, K (.panic v) fr st → K (.panic v) fr' st) (w : Own) (ds : List Nd) (hs : ds.length ≤ 8388608) (st : St) (hm : (ds.map Nd.weight).sum ≤ 16777216) (hk : ∀ k ∈ ds, Good Tryz.prog 121 [k.av] st (.ret (.val (.int .i64 k.weight))) st) : ∀ (n i : Nat) (sum : Nat), i + n = ds.length → sum + ((ds.drop i).map Nd.weight).sum = 1 + (ds.map Nd.weight).sum →
    WideA K (.exit 1) (Fr.mk [(3, Tv.v (AV.val (Value.int IntKind.i64 (1 + ((ds.map Nd.weight).sum : Nat)))))] [] 49 [] []) st →
    LoopA Tryz.prog (loopAt Tryz.f121 8) (WideA K) (n + 1) (Fr.mk [(3, Tv.v (AV.val (Value.int IntKind.i64 (sum : Int)))), (37, Tv.v (AV.slice w (flat ds) ds.length)), (38, Tv.v (AV.val (Value.int IntKind.i64 (ds.length : Int)))), (39, Tv.v (AV.val (Value.int IntKind.i64 (i : Int))))] [] 49 [] []) st
  | 0, i, sum, hi, hsum, h0 => lp_step fok121 rfl hKP (sl121_8 w ds sum i ds.length st) (by
      have e : i = ds.length := by omega
      have e2 : (sum : Int) = 1 + ((ds.map Nd.weight).sum : Nat) := by rw [e] at hsum; simp at hsum; omega
      simp [SX.holds, QL, e, e2]
      exact h0)
  | n + 1, i, sum, hi, hsum, h0 => lp_step fok121 rfl hKP (sl121_8 w ds sum i ds.length st) (by
      have hlt : i < ds.length := by omega
      have ih := l121r hKP w ds hs st hm hk n (i + 1) (sum + ds[i].weight) (by omega)
      rw [List.drop_eq_getElem_cons hlt, List.map_cons, List.sum_cons] at hsum
      obtain ⟨e1, e2⟩ := kid_side hlt
      have hg := hk ds[i] (List.getElem_mem hlt)
      have ec : ((i + 1 : Nat) : Int) = (i : Int) + 1 := by omega
      have w1 : IntKind.i64.wrap ((sum : Int) + (ds[i].weight : Int)) = ((sum + ds[i].weight : Nat) : Int) := by rw [wr _ (by omega)]; omega
      simp only [SX.holds, holds_cond, QL, Int.toNat_natCast, e1, e2, ndA_av, wr1 i (by omega), decide_eq_true_eq, decide_eq_false_iff_not, Int.ofNat_lt, hlt, not_true_eq_false, true_and, and_true, true_implies, false_implies, hg, w1]
      exact ih (by omega) h0)
theorem g121 (st : St) : ∀ d : Nd, d.mass ≤ 8388608 → d.formed = true → Good Tryz.prog 121 [d.av] st (.ret (.val (.int .i64 d.weight))) st := by
  refine Nd.ind fun d ih hm hf => ?_
  obtain ⟨h1, h2⟩ := formed_one hf
  obtain ⟨h7, h9⟩ := one_kids h1
  have hlen := mass_len d
  have hk : ∀ k ∈ d.kids, Good Tryz.prog 121 [k.av] st (.ret (.val (.int .i64 k.weight))) st := fun k hk => ih k hk (by have := mass_kid hk; omega) (h2 k hk)
  have hw : ∀ k ∈ d.kids, k.weight ≤ 16777216 := fun k hk => by have := weight_le k; have := size_mass k; have := mass_kid hk; omega
  refine gd Tryz.func121 fok121 rfl rfl (s121 d st) ?_
  by_cases e7 : d.kind = 7
  · have l3 := h7 e7
    obtain ⟨a, b, c, hks⟩ : ∃ a b c, d.kids = [a, b, c] := by
      rcases hd : d.kids with _ | ⟨a, _ | ⟨b, _ | ⟨c, _ | ⟨x, l⟩⟩⟩⟩ <;> rw [hd] at l3 <;> simp at l3
      exact ⟨a, b, c, rfl⟩
    obtain ⟨p1, q1⟩ := kid_side (ds := d.kids) (i := 0) (by omega)
    obtain ⟨p2, q2⟩ := kid_side (ds := d.kids) (i := 1) (by omega)
    obtain ⟨p3, q3⟩ := kid_side (ds := d.kids) (i := 2) (by omega)
    have ka := hk a (by simp [hks]); have kb := hk b (by simp [hks]); have kc := hk c (by simp [hks])
    have wa := hw a (by simp [hks]); have wb := hw b (by simp [hks]); have wc := hw c (by simp [hks])
    have ew : d.weight = a.weight + max b.weight c.weight + 2 := by rw [Nd.weight_eq, if_pos e7, hks]; rfl
    simp only [hks, Nat.reduceMul, Nat.zero_mul, Nat.one_mul, List.getElem_cons_zero, List.getElem_cons_succ] at p1 p2 p3 q1 q2 q3
    have w1 : IntKind.i64.wrap (IntKind.i64.wrap ((a.weight : Int) + if (c.weight : Int) > (b.weight : Int) then (c.weight : Int) else (b.weight : Int)) + 2) = (d.weight : Int) := by
      have e : ((a.weight : Int) + if (c.weight : Int) > (b.weight : Int) then (c.weight : Int) else (b.weight : Int)) = ((a.weight + max b.weight c.weight : Nat) : Int) := by split <;> omega
      rw [e, wr ((a.weight + max b.weight c.weight : Nat) : Int) (by omega), wr _ (by omega), ew]; omega
    simp only [SX.holds, holds_cond, QE, e7, hks, p1, p2, p3, q1, q2, q3, ndA_av, ka, kb, kc, g128, w1, true_and, and_true, true_implies, beq_self_eq_true, List.length_cons, List.length_nil]
    simp
  · by_cases e9 : d.kind = 9
    · have l1 := h9 e9
      obtain ⟨a, hks⟩ : ∃ a, d.kids = [a] := by
        rcases hd : d.kids with _ | ⟨a, _ | ⟨b, l⟩⟩ <;> rw [hd] at l1 <;> simp at l1
        exact ⟨a, rfl⟩
      obtain ⟨p1, q1⟩ := kid_side (ds := d.kids) (i := 0) (by omega)
      have ka := hk a (by simp [hks])
      have ew : d.weight = a.weight := by rw [Nd.weight_eq, if_neg e7, if_pos e9, hks]; rfl
      simp only [hks, Nat.zero_mul, List.getElem_cons_zero] at p1 q1
      simp [-ld, SX.holds, holds_cond, QE, e9, hks, p1, q1, ndA_av, ka, ew]
    · have ew : d.weight = 1 + (d.kids.map Nd.weight).sum := by rw [Nd.weight_eq, if_neg e7, if_neg e9]
      have hb : (d.kids.map Nd.weight).sum ≤ 16777216 := by have := weight_le d; have := size_mass d; omega
      simp only [SX.holds, holds_cond, QE, kidsA_flat, beq_iff_eq, e7, e9, beq_eq_false_iff_ne, ne_eq, not_false_eq_true, false_implies, true_implies, true_and, and_true]
      refine ⟨loopG_of (d.kids.length + 1) fun K hKP hK => l121r hKP .ro d.kids (by omega) st hb hk d.kids.length 0 1 (by omega) (by simp) hK, ?_⟩
      rw [ew]; congr 3
theorem g54 (d : Nd) (hm : d.mass ≤ 8388608) (st : St) : Good Tryz.prog 54 [d.av] st (.ret (.val (.int .i64 (exprW d)))) st := by
  refine gd Tryz.func54 fok54 rfl rfl (s54 d st) ?_
  simp only [SX.holds, holds_cond, QE, ndA_av, g79 d hm st, true_and, and_true]
  unfold checkE exprW
  cases hf : d.formed with
  | false => exact ⟨fun _ => rfl, fun h => by cases h⟩
  | true =>
    refine ⟨fun h => ?_, fun _ => ⟨g121 st d hm hf, rfl⟩⟩
    exfalso
    revert h
    cases decide (d.depth ≤ 24) <;> simp
/-! ### ref12.Formed, Size -/
theorem l56r {K : AExit → Fr → St → Prop} (hKP : ∀ v fr fr' st, K (.panic v) fr st → K (.panic v) fr' st) (d : Nd) (hs : d.kids.length ≤ 8388608) (st : St) (hk : ∀ k ∈ d.kids, Good Tryz.prog 56 [k.av] st (.ret (.val (.bool k.formed))) st) : ∀ (n i : Nat) (b : Bool), i + n = d.kids.length →
    WideA K (.exit 0) (Fr.mk [(3, Tv.v (AV.val (Value.bool (b && (d.kids.drop i).all Nd.formed))))] [] 24 [] []) st →
    LoopA Tryz.prog (loopAt Tryz.f56 3) (WideA K) (n + 1) (Fr.mk [(1, Tv.l 1 0), (3, Tv.v (AV.val (Value.bool b))), (4, Tv.v (AV.val (Value.int IntKind.i64 (i : Int))))] [(1, d.cells)] 24 [] []) st
  | 0, i, b, hi, h0 => lp_step fok56 rfl hKP (sl56_3 d b i st) (by
      have e : i = d.kids.length := by omega
      simp [SX.holds, QL, e]
      simpa [e] using h0)
  | n + 1, i, b, hi, h0 => lp_step fok56 rfl hKP (sl56_3 d b i st) (by
      have hlt : i < d.kids.length := by omega
      obtain ⟨e1, e2⟩ := kid_side hlt
      have hg := hk d.kids[i] (List.getElem_mem hlt)
      cases b with
      | false => simpa [SX.holds, QL, hlt] using h0
      | true =>
        have ih := l56r hKP d hs st hk n (i + 1) (d.kids[i].formed) (by omega)
        rw [List.drop_eq_getElem_cons hlt] at h0
        simp only [SX.holds, holds_cond, QL, Int.toNat_natCast, e1, e2, ndA_av, wr1 i (by omega), decide_eq_true_eq, decide_eq_false_iff_not, Int.ofNat_lt, hlt, not_true_eq_false, true_and, and_true, true_implies, false_implies, hg, reduceCtorEq]
        exact ih h0)
theorem g56 (st : St) : ∀ d : Nd, d.mass ≤ 8388608 → Good Tryz.prog 56 [d.av] st (.ret (.val (.bool d.formed))) st := by
  refine Nd.ind fun d ih hm => ?_
  have hlen := mass_len d
  refine gd Tryz.func56 fok56 rfl rfl (s56 d st) ?_
  simp only [SX.holds, QE, ndA_av, g123, true_and, and_true]
  refine loopG_of (d.kids.length + 1) fun K hKP hK => l56r hKP d (by omega) st (fun k hk => ih k hk (by have := mass_kid hk; omega)) d.kids.length 0 (oneB d) (by omega) ?_
  rw [List.drop_zero, ← formed_all]
  exact hK
theorem l57r {K : AExit → Fr → St → Prop} (hKP : ∀ v fr fr' st, K (.panic v) fr st → K (.panic v) fr' st) (d : Nd) (hs : d.kids.length ≤ 8388608) (st : St) (hm : d.size ≤ 8388608) (hk : ∀ k ∈ d.kids, Good Tryz.prog 57 [k.av] st (.ret (.val (.int .i64 k.size))) st) : ∀ (n i : Nat) (sum : Nat), i + n = d.kids.length → sum + ((d.kids.drop i).map Nd.size).sum = d.size →
    WideA K (.exit 0) (Fr.mk [(3, Tv.v (AV.val (Value.int IntKind.i64 (d.size : Int))))] [] 21 [] []) st →
    LoopA Tryz.prog (loopAt Tryz.f57 3) (WideA K) (n + 1) (Fr.mk [(1, Tv.l 1 0), (3, Tv.v (AV.val (Value.int IntKind.i64 (sum : Int)))), (4, Tv.v (AV.val (Value.int IntKind.i64 (i : Int))))] [(1, d.cells)] 21 [] []) st
  | 0, i, sum, hi, hsum, h0 => lp_step fok57 rfl hKP (sl57_3 d sum i st) (by
      have e : i = d.kids.length := by omega
      have e2 : sum = d.size := by rw [e] at hsum; simpa using hsum
      simp [SX.holds, QL, e, e2]
      exact h0)
  | n + 1, i, sum, hi, hsum, h0 => lp_step fok57 rfl hKP (sl57_3 d sum i st) (by
      have hlt : i < d.kids.length := by omega
      have ih := l57r hKP d hs st hm hk n (i + 1) (sum + d.kids[i].size) (by omega)
      rw [List.drop_eq_getElem_cons hlt, List.map_cons, List.sum_cons] at hsum
      obtain ⟨e1, e2⟩ := kid_side hlt
      have hg := hk d.kids[i] (List.getElem_mem hlt)
      have w1 : IntKind.i64.wrap ((sum : Int) + (d.kids[i].size : Int)) = ((sum + d.kids[i].size : Nat) : Int) := by rw [wr _ (by omega)]; omega
      simp only [SX.holds, holds_cond, QL, Int.toNat_natCast, e1, e2, ndA_av, wr1 i (by omega), decide_eq_true_eq, decide_eq_false_iff_not, Int.ofNat_lt, hlt, not_true_eq_false, true_and, and_true, true_implies, false_implies, hg, w1]
      exact ih (by omega) h0)
theorem g57 (st : St) : ∀ d : Nd, d.mass ≤ 8388608 → Good Tryz.prog 57 [d.av] st (.ret (.val (.int .i64 d.size))) st := by
  refine Nd.ind fun d ih hm => ?_
  have hlen := mass_len d
  have hsz := size_mass d
  refine gd Tryz.func57 fok57 rfl rfl (s57 d st) ?_
  simp only [SX.holds, QE, ndA_av, and_true]
  exact loopG_of (d.kids.length + 1) fun K hKP hK => l57r hKP d (by omega) st (by omega) (fun k hk => ih k hk (by have := mass_kid hk; omega)) d.kids.length 0 1 (by omega) (by rw [List.drop_zero, Nd.size_eq d]) hK
end Go.Proofs.YtknocbhocdenoaaGreatDoor
