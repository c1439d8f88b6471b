/- Contracts: names, by their loops; must; parts of nodes. -/
import Derived.Test.YtknocbhocdenoaaGreatDoorBbC
import Derived.IntWalk
namespace Go.Proofs.YtknocbhocdenoaaGreatDoor
open Go Go.RowKit

theorem lp_step {f : FuncId} {fn : Func} (hok : funcOk cfg f fn = true) {id : Nat} {C : SCfg} (hC : C.tr = trs f) {K : AExit → Fr → St → Prop} (hKP : ∀ v fr fr' st, K (.panic v) fr st → K (.panic v) fr' st) {live out : List Nat × List Nat} {n : Nat} {fr : Fr} {st : St} {T : SX}
    (ht : symC Tryz.prog C (loopAt fn id) fr st (k0 live out) = T) (h : T.holds Tryz.prog (QL Tryz.prog (loopAt fn id) (WideA K) n)) : LoopA Tryz.prog (loopAt fn id) (WideA K) (n + 1) fr st :=
  loop_step hmix (C := C) (by rw [hC]; exact loopAt_ok hok id) hKP (by rw [ht]; exact h)
theorem wr (n : Int) (h : -9223372036854775808 ≤ n ∧ n ≤ 9223372036854775807) : IntKind.i64.wrap n = n := IntWalk.i64_in n h
theorem wr1 (i : Nat) (h : i ≤ 9000000000000000000) : IntKind.i64.wrap ((i : Int) + 1) = ((i + 1 : Nat) : Int) := by rw [wr _ (by omega)]; omega

theorem l195r {K : AExit → Fr → St → Prop} (hKP : ∀ v fr fr' st, K (.panic v) fr st → K (.panic v) fr' st) (s : ByteArray) (hs : s.size ≤ 9000000000000000000) (st : St) : ∀ (n i : Nat), i + n = s.size →
    (allP innerP s n i = true → WideA K (.exit 0) (Fr.mk [(2, Tv.u)] [] 32 [] []) st) → (allP innerP s n i = false → WideA K .ret (Fr.mk [(2, Tv.v (AV.val (Value.bool false)))] [] 32 [] []) st) →
    LoopA Tryz.prog (loopAt Tryz.f195 4) (WideA K) (n + 1) (Fr.mk [(0, Tv.v (AV.val (Value.string s))), (22, Tv.v (AV.val (Value.int IntKind.i64 (s.size : Int)))), (23, Tv.v (AV.val (Value.int IntKind.i64 (i : Int))))] [] 32 [] []) st
  | 0, i, hi, h0, _ => lp_step fok195 rfl hKP (sl195_4 s i s.size st) (by
      have e : i = s.size := by omega
      simp [SX.holds, holds_cond, QL, e]
      exact h0 rfl)
  | n + 1, i, hi, h0, h1 => lp_step fok195 rfl hKP (sl195_4 s i s.size st) (by
      have hlt : i < s.size := by omega
      have ih := l195r hKP s hs st n (i + 1) (by omega)
      simp only [allP] at h0 h1
      simp [SX.holds, holds_cond, QL, hlt, g223, wr1 i (by omega)]
      cases hc : innerP (bt s i) with
      | true => simp [hc] at h0 h1 ⊢; simpa using ih h0 h1
      | false => simp [hc] at h0 h1 ⊢; exact h1)
theorem l195a (s : ByteArray) (hs : s.size ≤ 9000000000000000000) (st : St) (h : allP innerP s s.size 0 = true) : LoopG Tryz.prog (loopAt Tryz.f195 4) (Fr.mk [(0, Tv.v (AV.val (Value.string s))), (22, Tv.v (AV.val (Value.int IntKind.i64 (s.size : Int)))), (23, Tv.v (AV.val (Value.int IntKind.i64 0)))] [] 32 [] []) st (.exit 0) (Fr.mk [(2, Tv.u)] [] 32 [] []) st :=
  loopG_of (s.size + 1) fun K hKP hK => l195r hKP s hs st s.size 0 (by omega) (fun _ => hK) (fun h' => by rw [h] at h'; cases h')
theorem l195b (s : ByteArray) (hs : s.size ≤ 9000000000000000000) (st : St) (h : allP innerP s s.size 0 = false) : LoopG Tryz.prog (loopAt Tryz.f195 4) (Fr.mk [(0, Tv.v (AV.val (Value.string s))), (22, Tv.v (AV.val (Value.int IntKind.i64 (s.size : Int)))), (23, Tv.v (AV.val (Value.int IntKind.i64 0)))] [] 32 [] []) st .ret (Fr.mk [(2, Tv.v (AV.val (Value.bool false)))] [] 32 [] []) st :=
  loopG_of (s.size + 1) fun K hKP hK => l195r hKP s hs st s.size 0 (by omega) (fun h' => by rw [h] at h'; cases h') (fun _ => hK)
theorem size_list (s : ByteArray) : s.toList.length = s.size := by rw [ByteArray.toList_eq]; rfl
theorem g195 (s : ByteArray) (st : St) : Good Tryz.prog 195 [.val (.string s)] st (.ret (.val (.bool (nameP s)))) st := by
  refine gd Tryz.func195 fok195 rfl rfl (s195 s st) ?_
  simp only [SX.holds, holds_cond, g221, g222, true_and, QE, and_true]
  refine ⟨fun h => ?_, fun h => ⟨fun h2 => ?_, fun h2 => ⟨fun h3 => ⟨fun h4 => ?_, fun h4 => ⟨fun h5 => ?_, fun h5 => ⟨fun h6 => ⟨l195a s (by simp at h2; omega) st h6, ?_⟩, fun h6 => ⟨l195b s (by simp at h2; omega) st h6, ?_⟩⟩⟩⟩, fun h3 => ?_⟩⟩⟩
  · have : s.size = 0 := by
      have h' : s.toList = (ByteArray.mk #[]).toList := by simpa using h
      rw [← size_list, h', size_list]; rfl
    simp [nameP, this]
  · simp at h2; simp [nameP]; omega
  · simp at h4; simp [nameP, h4]
  · simp [nameP, h5]
  · have a2 : s.size ≤ 16 := by have := of_decide_eq_false h2; omega
    have a3 : 1 ≤ s.size := by have := of_decide_eq_true h3; omega
    simp at h4
    simp [nameP, h4, h5, h6, a2, a3]
  · simp [nameP, h6]
  · have : s.size = 0 := by have := of_decide_eq_false h3; omega
    have h' : s.toList = [] := by rw [← List.length_eq_zero_iff, size_list]; exact this
    rw [h'] at h
    exact absurd h (by simp [ByteArray.toList_eq])

theorem l110r {K : AExit → Fr → St → Prop} (hKP : ∀ v fr fr' st, K (.panic v) fr st → K (.panic v) fr' st) (s : ByteArray) (hs : s.size ≤ 9000000000000000000) (st : St) : ∀ (n i : Nat), i + n = s.size →
    (allP innerP s n i = true → WideA K (.exit 0) (Fr.mk [(2, Tv.u)] [] 35 [] []) st) → (allP innerP s n i = false → WideA K .ret (Fr.mk [(2, Tv.v (AV.val (Value.bool false)))] [] 35 [] []) st) →
    LoopA Tryz.prog (loopAt Tryz.f110 5) (WideA K) (n + 1) (Fr.mk [(0, Tv.v (AV.val (Value.string s))), (4, Tv.v (AV.val (Value.int IntKind.i64 (i : Int))))] [] 35 [] []) st
  | 0, i, hi, h0, _ => lp_step fok110 rfl hKP (sl110_5 s i st) (by
      have e : i = s.size := by omega
      simp [SX.holds, holds_cond, QL, e]
      exact h0 rfl)
  | n + 1, i, hi, h0, h1 => lp_step fok110 rfl hKP (sl110_5 s i st) (by
      have hlt : i < s.size := by omega
      have ih := l110r hKP s hs st n (i + 1) (by omega)
      simp only [allP] at h0 h1
      simp [SX.holds, holds_cond, QL, hlt, g186, wr1 i (by omega)]
      cases hc : innerP (bt s i) with
      | true => simp [hc] at h0 h1 ⊢; simpa using ih h0 h1
      | false => simp [hc] at h0 h1 ⊢; exact h1)
theorem shp_str : shp Tryz.prog 9 = some (false, 1) := by kernel_rfl
theorem shp_nd : shp Tryz.prog 35 = some (true, 8) := by kernel_rfl
theorem word_cell {i : Nat} (h : i < 41) : (wordL.map fun w => AV.val (.string w))[i]? = some (.val (.string (wd i))) := by
  rw [List.getElem?_map, List.getElem?_eq_getElem (show i < wordL.length from h), wd_get]; rfl
theorem word_none {s : ByteArray} (h : ∀ j, j < 41 → (wd j).toList ≠ s.toList) : wordP s = false := Bool.eq_false_iff.2 fun hc => by
  obtain ⟨j, hj, he⟩ := (wordP_iff s).1 hc
  exact h j hj he
theorem l185r {K : AExit → Fr → St → Prop} (hKP : ∀ v fr fr' st, K (.panic v) fr st → K (.panic v) fr' st) (s : ByteArray) (st : St) (h1 : wordP s = true → WideA K .ret (Fr.mk [(2, Tv.v (AV.val (Value.bool true)))] [] 18 [] []) st) (h0 : wordP s = false → WideA K (.exit 0) (Fr.mk [(2, Tv.u)] [] 18 [] []) st) : ∀ (n i : Nat), i + n = 41 → (∀ j, j < i → (wd j).toList ≠ s.toList) →
    LoopA Tryz.prog (loopAt Tryz.f185 3) (WideA K) (n + 1) (Fr.mk [(0, Tv.v (AV.val (Value.string s))), (3, Tv.v (AV.slice .ro (wordL.map fun w => .val (.string w)) 41)), (4, Tv.v (AV.val (Value.int IntKind.i64 (i : Int))))] [] 18 [] []) st
  | 0, i, hi, hj => lp_step fok185 rfl hKP (sl185_3 .ro s _ i 41 st) (by
      have e : i = 41 := by omega
      subst e
      simp [SX.holds, holds_cond, QL]
      exact h0 (word_none hj))
  | n + 1, i, hi, hj => lp_step fok185 rfl hKP (sl185_3 .ro s _ i 41 st) (by
      have hlt : i < 41 := by omega
      have hlt' : (i : Int) < 41 := by omega
      have ih := l185r hKP s st h1 h0 n (i + 1) (by omega)
      have hcell := word_cell hlt
      have hld : ld Tryz.prog 9 (wordL.map fun w => AV.val (.string w)) i = some (.val (.string (wd i))) := by unfold ld; rw [shp_str]; exact hcell
      have hst : strAt (wordL.map fun w => AV.val (.string w)) i = wd i := by unfold strAt; rw [hcell]
      simp only [SX.holds, holds_cond, QL, Int.toNat_natCast, Nat.mul_one, hst, hld, wr1 i (by omega), true_and, true_implies]
      refine ⟨fun _ => ⟨fun _ => ⟨fun h => ?_, fun h => ?_⟩, fun h => ?_⟩, fun h => ?_⟩
      · exact h1 ((wordP_iff s).2 ⟨i, hlt, by simpa using h⟩)
      · refine ih fun j hji => ?_
        rcases Nat.lt_or_ge j i with g | g
        · exact hj j g
        · have : j = i := by omega
          subst this
          simpa using h
      · exact absurd hlt' (by simpa using h)
      · exact absurd hlt' (by simpa using h))
theorem g185 (s : ByteArray) (st : St) : Good Tryz.prog 185 [.val (.string s)] st (.ret (.val (.bool (wordP s)))) st := by
  refine gd Tryz.func185 fok185 rfl rfl (s185 s st) ?_
  refine ⟨g218 st, holds_cond.2 ⟨fun h => ⟨?_, ?_⟩, fun h => ⟨?_, ?_⟩⟩⟩
  · exact loopG_of 42 fun K hKP hK => l185r hKP s st (fun _ => hK) (fun h' => by rw [h] at h'; cases h') 41 0 rfl (fun j hj => by omega)
  · exact ⟨by rw [h], rfl⟩
  · exact loopG_of 42 fun K hKP hK => l185r hKP s st (fun h' => by rw [h] at h'; cases h') (fun _ => hK) 41 0 rfl (fun j hj => by omega)
  · exact ⟨by rw [h], rfl⟩
theorem g110 (s : ByteArray) (st : St) : Good Tryz.prog 110 [.val (.string s)] st (.ret (.val (.bool (nameP s)))) st := by
  refine gd Tryz.func110 fok110 rfl rfl (s110 s st) ?_
  simp only [SX.holds, holds_cond, g114, g185, true_and, QE, and_true]
  refine ⟨fun h => ?_, fun h => ⟨fun h2 => ?_, fun h2 => ⟨fun h3 => ?_, fun h3 => ⟨fun h4 => ⟨fun h5 => ?_, fun h5 => ⟨fun h6 => ⟨?_, ?_⟩, fun h6 => ⟨?_, ?_⟩⟩⟩, fun h4 => ?_⟩⟩⟩⟩
  · simp [nameP, h]
  · have a2 : s.size = 0 := by have := of_decide_eq_true h2; omega
    simp [nameP, a2]
  · have a2 : 16 < s.size := by have := of_decide_eq_true h3; omega
    simp [nameP]; omega
  · simp at h5; simp [nameP, h5]
  · have a2 : s.size ≤ 16 := by have := of_decide_eq_false h3; omega
    exact loopG_of (s.size + 1) fun K hKP hK => l110r hKP s (by omega) st s.size 0 (by omega) (fun _ => hK) (fun h' => by rw [h6] at h'; cases h')
  · have a2 : s.size ≤ 16 := by have := of_decide_eq_false h3; omega
    have a3 : 1 ≤ s.size := by have := of_decide_eq_true h4; omega
    simp at h5
    simp [nameP, h, h5, h6, a2, a3]
  · have a2 : s.size ≤ 16 := by have := of_decide_eq_false h3; omega
    exact loopG_of (s.size + 1) fun K hKP hK => l110r hKP s (by omega) st s.size 0 (by omega) (fun h' => by rw [h6] at h'; cases h') (fun _ => hK)
  · simp [nameP, h6]
  · have a1 := of_decide_eq_false h2
    have a2 := of_decide_eq_false h4
    omega

/-! ### Parts of nodes -/
theorem g135 (b : Bool) (e : Int) (st : St) : Good Tryz.prog 135 [.val (.bool b), .val (.int .i64 e)] st (bif b then .ret (.tuple []) else .panic (.iface 278 (.agg [.val (.int .i64 e)]))) st := gd Tryz.func135 fok135 rfl rfl (s135 b e st) (by cases b <;> simp [SX.holds, holds_cond, QE])
theorem g135t (e : Int) (st : St) : Good Tryz.prog 135 [.val (.bool true), .val (.int .i64 e)] st (.ret (.tuple [])) st := g135 true e st
theorem g135f (e : Int) (st : St) : Good Tryz.prog 135 [.val (.bool false), .val (.int .i64 e)] st (.panic (.iface 278 (.agg [.val (.int .i64 e)]))) st := g135 false e st
theorem g224 (d : Nd) (st : St) : Good Tryz.prog 224 [d.av] st (.ret (.val (.bool (litB d)))) st := gd Tryz.func224 fok224 rfl rfl (s224 d st) (by
  simp [SX.holds, holds_cond, QE, litB]
  grind)
theorem g225 (d : Nd) (st : St) : Good Tryz.prog 225 [d.av] st (.ret (.agg [.val (.int .u8 d.kind), .val (.int .u8 d.oper), .val (.int .u8 d.typ), .val (.int .i64 d.n), .val (.int .u8 d.field), .val (.string d.name)])) st := gd Tryz.func225 fok225 rfl rfl (s225 d st) (by simp [SX.holds, QE])
theorem g228 (d : Nd) (st : St) : Good Tryz.prog 228 [d.av] st (.ret (.val (.int .i64 (levelI d)))) st := gd Tryz.func228 fok228 rfl rfl (s228 d st) (by
  simp [SX.holds, holds_cond, QE, levelI]
  grind)
theorem g229 (d : Nd) (i : Int) (st : St) : Good Tryz.prog 229 [d.av, .val (.int .i64 i)] st (.ret (.val (.int .i64 (placeI d i)))) st := gd Tryz.func229 fok229 rfl rfl (s229 d i st) (by
  simp only [SX.holds, holds_cond, QE, placeI, g228, ndA_av, true_and, and_true]
  generalize levelI d = l
  repeat' (first | (refine ⟨?_, ?_⟩) | intro h)
  all_goals grind)
theorem g128 (w : Own) (a b : Int) (st : St) : Good Tryz.prog 128 [.val (.int .i64 a), .slice w [.val (.int .i64 b)] 1] st (.ret (.val (.int .i64 (if b > a then b else a)))) st := gd Tryz.func128 fok128 rfl rfl (s128 w a b st) (by
  have hs : shp Tryz.prog 3 = some (false, 1) := by kernel_rfl
  simp [SX.holds, QE, ld, hs, intAt])
theorem g192 (d : Nd) (st : St) : Good Tryz.prog 192 [d.av] st (.ret (.val (.bool d.zero))) st := gd Tryz.func192 fok192 rfl rfl (s192 d st) (by
  simp [SX.holds, holds_cond, QE, Nd.zero]
  grind)
end Go.Proofs.YtknocbhocdenoaaGreatDoor
