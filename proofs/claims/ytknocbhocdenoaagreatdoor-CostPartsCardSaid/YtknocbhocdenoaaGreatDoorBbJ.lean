/- Contracts: WeighNode, farExpr; what is not too much. -/
import Derived.Test.YtknocbhocdenoaaGreatDoorBbI
namespace Go.Proofs.YtknocbhocdenoaaGreatDoor
open Go Go.RowKit

theorem weighGo_le {deep : Int} : ∀ {fs : List (Int → Int → Int)} {n : Int}, weighGo fs n deep ≤ 1048576 → n ≤ 1048576
  | [], n, h => h
  | f :: fs, n, h => by
    unfold weighGo at h
    split at h
    · assumption
    · exact h
theorem weigh_mass : ∀ (d : Nd) (n deep : Int), d.weigh n deep ≤ 1048576 → d.weigh n deep = n + d.mass := by
  refine Nd.ind fun d ih n deep h => ?_
  rw [Nd.weigh_eq] at h ⊢
  split at h
  · omega
  · rename_i hd
    rw [if_neg hd]
    have key : ∀ (ks : List Nd) (m : Int), (∀ k ∈ ks, k ∈ d.kids) → weighGo (ks.map Nd.weigh) m deep ≤ 1048576 → weighGo (ks.map Nd.weigh) m deep = m + ((ks.map Nd.mass).sum : Nat) := by
      intro ks
      induction ks with
      | nil => intro m _ _; simp [weighGo]
      | cons k ks ihk =>
        intro m hk hle
        have hm := weighGo_le hle
        simp only [List.map_cons, weighGo] at hle ⊢
        rw [if_pos hm] at hle ⊢
        have h1 := weighGo_le hle
        rw [ihk _ (fun x hx => hk x (by simp [hx])) hle, ih k (hk k (by simp)) _ _ h1, List.sum_cons]
        omega
    rw [key d.kids _ (fun _ h => h) h, Nd.mass_eq]
    omega
theorem weighGo_pos {deep : Int} : ∀ {fs : List (Int → Int → Int)} {n : Int}, (∀ f ∈ fs, ∀ n, 0 ≤ n → 0 ≤ f n (deep + 1)) → 0 ≤ n → 0 ≤ weighGo fs n deep
  | [], n, _, h => h
  | f :: fs, n, hf, h => by
    unfold weighGo
    split
    · exact weighGo_pos (fun g hg => hf g (by simp [hg])) (hf f (by simp) n h)
    · exact h
theorem weigh_pos : ∀ (d : Nd) (n deep : Int), 0 ≤ n → 0 ≤ d.weigh n deep := by
  refine Nd.ind fun d ih n deep h => ?_
  rw [Nd.weigh_eq]
  split
  · omega
  · refine weighGo_pos (fun f hf m hm => ?_) (by omega)
    obtain ⟨k, hk, rfl⟩ := List.mem_map.1 hf
    exact ih k hk _ _ hm
theorem fit_one {d : Nd} (h : d.fit = true) : d.name.size ≤ 140737488355328 ∧ d.kids.length ≤ 140737488355328 ∧ ∀ k ∈ d.kids, k.fit = true := by
  rw [Nd.fit_eq] at h
  simp only [Bool.and_eq_true, decide_eq_true_eq, List.all_eq_true, List.mem_map, id] at h
  exact ⟨h.1, h.2.1, fun k hk => h.2.2 _ ⟨k, hk, rfl⟩⟩
theorem l66r {K : AExit → Fr → St → Prop} (hKP : ∀ v fr fr' st, K (.panic v) fr st → K (.panic v) fr' st) (d : Nd) (hs : d.kids.length ≤ 140737488355328) (deep : Int) (hd : 0 ≤ deep ∧ deep ≤ 60000) (st : St)
    (hk : ∀ k ∈ d.kids, ∀ n, 0 ≤ n → n ≤ 1048576 → Good Tryz.prog 66 [k.av, .val (.int .i64 n), .val (.int .i64 (deep + 1))] st (.ret (.val (.int .i64 (k.weigh n (deep + 1))))) st) : ∀ (m i : Nat) (n : Int), i + m = d.kids.length → 0 ≤ n →
    WideA K (.exit 0) (Fr.mk [(1, Tv.v (AV.val (Value.int IntKind.i64 (weighGo ((d.kids.drop i).map Nd.weigh) n deep))))] [] 37 [] []) st →
    LoopA Tryz.prog (loopAt Tryz.f66 5) (WideA K) (m + 1) (Fr.mk [(1, Tv.v (AV.val (Value.int IntKind.i64 n))), (2, Tv.v (AV.val (Value.int IntKind.i64 deep))), (3, Tv.l 3 0), (7, Tv.v (AV.val (Value.int IntKind.i64 (i : Int))))] [(3, d.cells)] 37 [] []) st
  | 0, i, n, hi, hn, h0 => lp_step fok66 rfl hKP (sl66_5 d n deep i st) (by
      have e : i = d.kids.length := by omega
      simp [SX.holds, QL, e]
      simpa [e, weighGo] using h0)
  | m + 1, i, n, hi, hn, h0 => lp_step fok66 rfl hKP (sl66_5 d n deep i st) (by
      have hlt : i < d.kids.length := by omega
      obtain ⟨e1, e2⟩ := kid_side hlt
      rw [List.drop_eq_getElem_cons hlt, List.map_cons] at h0
      by_cases hc : n ≤ 1048576
      · have ih := l66r hKP d hs deep hd st hk m (i + 1) (d.kids[i].weigh n (deep + 1)) (by omega) (weigh_pos _ _ _ hn)
        have hg := hk d.kids[i] (List.getElem_mem hlt) n hn hc
        have w1 : IntKind.i64.wrap (deep + 1) = deep + 1 := wr _ (by omega)
        simp only [weighGo, if_pos hc] at h0
        simp only [SX.holds, holds_cond, QL, Int.toNat_natCast, e1, e2, ndA_av, wr1 i (by omega), decide_eq_true_eq, decide_eq_false_iff_not, Int.ofNat_lt, hlt, hc, not_true_eq_false, true_and, and_true, true_implies, false_implies, w1, hg]
        exact ih h0
      · simp only [weighGo, if_neg hc] at h0
        simp [SX.holds, QL, hlt, hc]
        exact h0)
theorem g66 (st : St) : ∀ d : Nd, d.fit = true → ∀ n deep : Int, 0 ≤ n → n ≤ 1048576 → 0 ≤ deep → deep ≤ 60001 → Good Tryz.prog 66 [d.av, .val (.int .i64 n), .val (.int .i64 deep)] st (.ret (.val (.int .i64 (d.weigh n deep)))) st := by
  refine Nd.ind fun d ih hf n deep h0 h1 h2 h3 => ?_
  obtain ⟨f1, f2, f3⟩ := fit_one hf
  refine gd Tryz.func66 fok66 rfl rfl (s66 d n deep st) ?_
  have w1 : IntKind.i64.wrap (IntKind.i64.wrap (n + 1) + (d.name.size : Int)) = n + 1 + (d.name.size : Int) := by rw [wr (n + 1) (by omega), wr _ (by omega)]
  simp only [SX.holds, holds_cond, QE, ndA_av, w1, decide_eq_true_eq, decide_eq_false_iff_not, and_true]
  rw [Nd.weigh_eq]
  refine ⟨fun h => by rw [if_pos h], fun h => ?_⟩
  rw [if_neg h]
  refine ⟨loopG_of (d.kids.length + 1) fun K hKP hK => l66r hKP d f2 deep ⟨h2, by omega⟩ st (fun k hk m hm hm' => ih k hk (f3 k hk) m (deep + 1) hm hm' (by omega) (by omega)) d.kids.length 0 _ (by omega) (by omega) hK, rfl⟩
theorem g53 (d : Nd) (hf : d.fit = true) (st : St) : Good Tryz.prog 53 [d.av] st (.ret (.val (.bool (decide (d.weigh 0 0 > 1048576))))) st := by
  refine gd Tryz.func53 fok53 rfl rfl (s53 d st) ?_
  simp only [SX.holds, QE, ndA_av, g66 st d hf 0 0 (by omega) (by omega) (by omega) (by omega), true_and, and_true]
theorem near {d : Nd} (h : ¬ d.weigh 0 0 > 1048576) : d.mass ≤ 1048576 := by
  have := weigh_mass d 0 0 (by omega)
  omega
theorem weight_pos : ∀ d : Nd, d.formed = true → 1 ≤ d.weight := by
  refine Nd.ind fun d ih hf => ?_
  obtain ⟨h1, h2⟩ := formed_one hf
  obtain ⟨h7, h9⟩ := one_kids h1
  rw [Nd.weight_eq]
  split
  · omega
  · split
    · rename_i _ e9
      have l1 := h9 e9
      obtain ⟨a, hks⟩ : ∃ a, d.kids = [a] := by
        rcases hd : d.kids with _ | ⟨a, _ | ⟨b, l⟩⟩ <;> rw [hd] at l1 <;> simp at l1
        exact ⟨a, rfl⟩
      rw [hks]
      exact ih a (by simp [hks]) (h2 a (by simp [hks]))
    · omega
/-- CostSizes, over awake. -/
theorem g17 (ha : ∀ st, Good Tryz.prog 52 [] st (.ret (.val (.bool true))) st) (d : Nd) (hf : d.fit = true) (st : St) : Good Tryz.prog 17 [d.av] st (.ret (.val (.bool true))) st := by
  refine gd Tryz.func17 fok17 rfl rfl (s17 d st) ?_
  simp only [SX.holds, ndA_av]
  refine ⟨ha st, g53 d hf st, holds_cond.2 ⟨fun _ => ⟨rfl, rfl⟩, fun h => ?_⟩⟩
  have hm := near (of_decide_eq_false h)
  refine ⟨g54 d (by omega) st, g56 st d (by omega), g57 st d (by omega), ?_⟩
  have hsz := size_mass d
  have hw := weight_le d
  cases hfm : d.formed with
  | false => simp [SX.holds, QE, exprW, hfm]
  | true =>
    have hp := weight_pos d hfm
    have e1 : exprW d = (d.weight : Int) := by unfold exprW; rw [hfm]; rfl
    have w1 : IntKind.i64.wrap (2 * (d.size : Int)) = 2 * (d.size : Int) := wr _ (by omega)
    have c1 : decide ((d.weight : Int) ≥ 1) = true := decide_eq_true (by omega)
    have c2 : decide ((d.weight : Int) ≤ 2 * (d.size : Int)) = true := decide_eq_true (by omega)
    simp only [e1, w1, c1, c2, cond_true]
    exact ⟨rfl, rfl⟩
end Go.Proofs.YtknocbhocdenoaaGreatDoor
