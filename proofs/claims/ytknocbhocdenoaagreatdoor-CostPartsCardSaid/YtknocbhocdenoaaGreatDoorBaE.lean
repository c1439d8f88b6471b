/- Calls with nothing open: what the interpreter answers, without what was made on the way; in whatever state. -/
import Derived.Test.YtknocbhocdenoaaGreatDoorAwX
import Derived.Test.YtknocbhocdenoaaGreatDoorAwZ
namespace Go.Proofs.YtknocbhocdenoaaGreatDoor
open Go Go.RowKit

mutual
/-- A value that names no object: what is read is kept. -/
def AV.roV : AV → AV
  | .undef => .undef
  | .val v => .val v
  | .ptr _ _ => .undef
  | .rptr cs off => .rptr (AV.roL cs) off
  | .slice _ cs n => .slice .ro (AV.roL cs) n
  | .map _ => .undef
  | .osl _ _ _ _ => .undef
  | .iface t a => .iface t a.roV
  | .func fn f c => .func fn (AV.roL f) (AV.roL c)
  | .agg cs => .agg (AV.roL cs)
  | .tuple cs => .tuple (AV.roL cs)
def AV.roL : List AV → List AV
  | [] => []
  | a :: l => a.roV :: AV.roL l
end
theorem roL_eq : ∀ l : List AV, AV.roL l = l.map AV.roV
  | [] => by simp [AV.roL]
  | a :: l => by simp [AV.roL, roL_eq l]
theorem roL_get {l : List AV} {j : Nat} {a : AV} (h : (AV.roL l)[j]? = some a) : ∃ b, l[j]? = some b ∧ a = b.roV := by
  rw [roL_eq, List.getElem?_map] at h
  cases hb : l[j]? with
  | none => rw [hb] at h; cases h
  | some b => rw [hb] at h; exact ⟨b, rfl, by simpa using h.symm⟩
theorem roL_len (l : List AV) : (AV.roL l).length = l.length := by rw [roL_eq, List.length_map]
theorem vrel_roV {S : Sit} {a : AV} {v : Value} (h : VRel S a v) : VRel (S.cut 0 0) a.roV v := by
  induction h with
  | undef v => simp only [AV.roV]; exact .undef v
  | val v => simp only [AV.roV]; exact .val v
  | ptr i off h => simp only [AV.roV]; exact .undef _
  | rptr cells off ad us hl hs hr ih =>
    simp only [AV.roV]
    exact .rptr _ _ _ us (by rw [roL_len]; exact hl) hs fun j a u ha hu => by
      obtain ⟨b, hb, rfl⟩ := roL_get ha
      exact ih j b u hb hu
  | nil own h => simp only [AV.roV, AV.roL]; exact .nil _ (by intro r hr; cases hr)
  | slice own cells n ad cap us hn hc hl hs hr ho ih =>
    simp only [AV.roV]
    exact .slice _ _ _ ad cap us (by intro h; cases h) hc (by rw [roL_len]; exact hl) hs (fun j a u ha hu => by
      obtain ⟨b, hb, rfl⟩ := roL_get ha
      exact ih j b u hb hu) (fun r hr => by cases hr)
  | map i h => simp only [AV.roV]; exact .undef _
  | osl i off n c h => simp only [AV.roV]; exact .undef _
  | iface t a v h ih => simp only [AV.roV]; exact .iface _ _ _ ih
  | func fn first cap us vs h1 h2 hr1 hr2 ih1 ih2 =>
    simp only [AV.roV]
    exact .func _ _ _ us vs (by rw [roL_len]; exact h1) (by rw [roL_len]; exact h2) (fun j a u ha hu => by
      obtain ⟨b, hb, rfl⟩ := roL_get ha
      exact ih1 j b u hb hu) (fun j a u ha hu => by
      obtain ⟨b, hb, rfl⟩ := roL_get ha
      exact ih2 j b u hb hu)
  | agg cs vs hl hr ih =>
    simp only [AV.roV]
    exact .agg _ vs (by rw [roL_len]; exact hl) fun j a u ha hu => by
      obtain ⟨b, hb, rfl⟩ := roL_get ha
      exact ih j b u hb hu
  | tuple cs vs hl hr ih =>
    simp only [AV.roV]
    exact .tuple _ vs (by rw [roL_len]; exact hl) fun j a u ha hu => by
      obtain ⟨b, hb, rfl⟩ := roL_get ha
      exact ih j b u hb hu
mutual
theorem cln_roV : ∀ a : AV, Cln a.roV
  | .undef => by simp only [AV.roV]; exact .undef
  | .val v => by simp only [AV.roV]; exact .val v
  | .ptr _ _ => by simp only [AV.roV]; exact .undef
  | .rptr cs off => by simp only [AV.roV]; exact .rptr _ _ (cln_roL cs)
  | .slice _ cs n => by simp only [AV.roV]; exact .slice _ _ (cln_roL cs)
  | .map _ => by simp only [AV.roV]; exact .undef
  | .osl _ _ _ _ => by simp only [AV.roV]; exact .undef
  | .iface t a => by simp only [AV.roV]; exact .iface _ _ (cln_roV a)
  | .func fn f c => by simp only [AV.roV]; exact .func _ _ _ (cln_roL f) (cln_roL c)
  | .agg cs => by simp only [AV.roV]; exact .agg _ (cln_roL cs)
  | .tuple cs => by simp only [AV.roV]; exact .tuple _ (cln_roL cs)
theorem cln_roL : ∀ l : List AV, ∀ x ∈ AV.roL l, Cln x
  | [], x, h => by simp [AV.roL] at h
  | a :: l, x, h => by
    simp only [AV.roL, List.mem_cons] at h
    rcases h with rfl | h
    · exact cln_roV a
    · exact cln_roL l x h
end
theorem good_end {P : Program} {f : FuncId} {args : List AV} {st st' st1 : St} {a b : AV} (h : Good P f args st (.ret a) st1) (hl : Lv st st' (.ret b) (.ret a) st1) : Good P f args st (.ret b) st' := by
  rcases h with ⟨hc, h⟩ | ⟨r, hr, h⟩
  · refine .inl ⟨hc, fun S vs hst hv => (h S vs hst hv).mono ?_⟩
    rintro en w' ⟨S', rfl, hx, hst', he⟩
    exact hl S S' en hst hx hst' he
  · cases hr
    refine .inr ⟨b, rfl, fun S vs hst hv => ?_⟩
    obtain ⟨v, S', hrun, hx, hst', hv'⟩ := h S vs hst hv
    obtain ⟨S2, e1, e2, e3, e4⟩ := hl S S' (.returned v) hst hx hst' hv'
    exact ⟨v, S2, by rw [e1]; exact hrun, e2, e3, e4⟩
def St.nil : St := ⟨[], []⟩

/-! ### What was made is read only from now on -/
mutual
/-- g: what lies in an object. -/
def AV.frzG (g : Nat → Option (List AV)) : AV → AV
  | .undef => .undef
  | .val v => .val v
  | .ptr i off => match g i with | some cs => .rptr cs off | none => .undef
  | .rptr cs off => .rptr (AV.frzL g cs) off
  | .slice _ cs n => .slice .ro (AV.frzL g cs) n
  | .map _ => .undef
  | .osl i off n c => match g i with | some cs => bif Nat.ble n c then .slice .ro (cs.drop off) n else .undef | none => .undef
  | .iface t a => .iface t (a.frzG g)
  | .func fn f c => .func fn (AV.frzL g f) (AV.frzL g c)
  | .agg cs => .agg (AV.frzL g cs)
  | .tuple cs => .tuple (AV.frzL g cs)
def AV.frzL (g : Nat → Option (List AV)) : List AV → List AV
  | [] => []
  | a :: l => a.frzG g :: AV.frzL g l
end
theorem frzL_eq (g : Nat → Option (List AV)) : ∀ l : List AV, AV.frzL g l = l.map (AV.frzG g)
  | [] => by simp [AV.frzL]
  | a :: l => by simp [AV.frzL, frzL_eq g l]
theorem frzL_get {g : Nat → Option (List AV)} {l : List AV} {j : Nat} {a : AV} (h : (AV.frzL g l)[j]? = some a) : ∃ b, l[j]? = some b ∧ a = b.frzG g := by
  rw [frzL_eq, List.getElem?_map] at h
  cases hb : l[j]? with
  | none => rw [hb] at h; cases h
  | some b => rw [hb] at h; exact ⟨b, rfl, by simpa using h.symm⟩
theorem frzL_len (g : Nat → Option (List AV)) (l : List AV) : (AV.frzL g l).length = l.length := by rw [frzL_eq, List.length_map]
def AV.frz (mem : List AObj) : Nat → AV → AV
  | 0, a => a.frzG fun _ => none
  | n + 1, a => a.frzG fun i => match mem[i]? with | some (.cells cs) => some (cs.map (AV.frz mem n)) | _ => none
def Sit.back2 (S S1 : Sit) : Sit := { w := S1.w, k := fun b => if b < S.w.heap.size then S.k b else match S1.k b with | .obj => .fixed | κ => κ, o := S.o, r := S.r, no := S.no, nr := S.nr }
theorem back2_old {S S1 : Sit} {b : Nat} (h : b < S.w.heap.size) : (S.back2 S1).k b = S.k b := if_pos h
theorem back2_new {S S1 : Sit} {b : Nat} (h : ¬ b < S.w.heap.size) : (S.back2 S1).k b = match S1.k b with | .obj => .fixed | κ => κ := if_neg h
theorem see_none {S : Sit} {b : Nat} : kSee S S.no b ≠ .obj := by
  intro h
  unfold kSee at h
  split at h
  · cases h
  · split at h
    · rename_i he; obtain ⟨i, h1, h2, _⟩ := he; omega
    · cases h
  · rename_i h1 h2; exact h2 h
theorem see_still {S : Sit} {b : Nat} (h : kSee S S.no b ≠ .obj) : (kSee S S.no b).still = true := by
  unfold kSee at h ⊢
  split
  · rfl
  · split
    · rename_i hk he; rw [hk] at h; simp only at h; rw [if_pos he] at h; exact absurd rfl h
    · rfl
  · rename_i h1 h2
    cases hk : S.k b with
    | row m => exact absurd hk (h1 m)
    | obj => exact absurd hk h2
    | _ => rfl
theorem see_all {S S1 : Sit} (hx : Ext (S.see S.no) S1) {b : Nat} (hb : b < S.w.heap.size) : S1.w.heap[b]? = S.w.heap[b]? ∧ S1.k b = kSee S S.no b := hx.keep b hb (see_still see_none)
theorem stable_back2 {S S1 : Sit} (hx : Ext (S.see S.no) S1) {ad : Addr} {u : Value} (h : Stable S1 ad u) : Stable (S.back2 S1) ad u := by
  refine ⟨h.1, ?_⟩
  by_cases hb : ad.block < S.w.heap.size
  · rw [back2_old hb]
    have h2 := h.2
    rw [(see_all hx hb).2] at h2
    unfold kSee at h2
    split at h2
    · rename_i m hk; rw [hk]; exact h2
    · split at h2 <;> exact h2.elim
    · exact h2
  · rw [back2_new hb]
    have h2 := h.2
    split
    · trivial
    · exact h2
theorem frzG_ok {S S1 : Sit} (hx : Ext (S.see S.no) S1) {g : Nat → Option (List AV)} (hg : ∀ i cs, i < S1.no → g i = some cs → ∃ vs e, S1.w.heap[S1.o i]? = some (.cells vs e (0, 0)) ∧ Rels (S.back2 S1) cs vs.toList ∧ (S.back2 S1).k (S1.o i) = .fixed) {a : AV} {v : Value} (h : VRel S1 a v) : VRel (S.back2 S1) (a.frzG g) v := by
  have cell : ∀ i cs, i < S1.no → g i = some cs → ∃ us : List Value, us.length = cs.length ∧ (∀ j u, us[j]? = some u → Stable (S.back2 S1) ((⟨S1.o i, 0, none⟩ : Addr).add j) u) ∧ ∀ (j : Nat) a u, cs[j]? = some a → us[j]? = some u → VRel (S.back2 S1) a u := fun i cs hi hc => by
    obtain ⟨vs, e, h1, h2, h3⟩ := hg i cs hi hc
    refine ⟨vs.toList, h2.1, fun j u hj => ⟨?_, ?_⟩, h2.2⟩
    · rw [addr_zero_add]
      show S1.w.cell? _ = _
      rw [cell_of_row _ _ _ _ _ _ h1]; simpa using hj
    · rw [addr_zero_add]
      show ((S.back2 S1).k (S1.o i)).safe j
      rw [h3]; trivial
  induction h with
  | undef v => simp only [AV.frzG]; exact .undef v
  | val v => simp only [AV.frzG]; exact .val v
  | ptr i off h =>
    simp only [AV.frzG]
    split
    · rename_i cs hc
      obtain ⟨us, h1, h2, h3⟩ := cell i cs h hc
      have := VRel.rptr (S := S.back2 S1) cs off ⟨S1.o i, 0, none⟩ us h1 h2 h3
      rwa [addr_zero_add] at this
    · exact .undef _
  | rptr cells off ad us hl hs hr ih =>
    simp only [AV.frzG]
    exact .rptr _ _ _ us (by rw [frzL_len]; exact hl) (fun j u hj => stable_back2 hx (hs j u hj)) fun j a u ha hu => by
      obtain ⟨b, hb, rfl⟩ := frzL_get ha
      exact ih j b u hb hu
  | nil own h => simp only [AV.frzG, AV.frzL]; exact .nil _ (by intro r hr; cases hr)
  | slice own cells n ad cap us hn hc hl hs hr ho ih =>
    simp only [AV.frzG]
    exact .slice _ _ _ ad cap us (by intro h; cases h) hc (by rw [frzL_len]; exact hl) (fun j u hj => stable_back2 hx (hs j u hj)) (fun j a u ha hu => by
      obtain ⟨b, hb, rfl⟩ := frzL_get ha
      exact ih j b u hb hu) (fun r hr => by cases hr)
  | map i h => simp only [AV.frzG]; exact .undef _
  | osl i off n c h =>
    simp only [AV.frzG]
    split
    · rename_i cs hc
      cases hnc : Nat.ble n c with
      | false => exact .undef _
      | true =>
        obtain ⟨us, h1, h2, h3⟩ := cell i cs h hc
        refine .slice _ _ n ⟨S1.o i, off, none⟩ c (us.drop off) (by intro h; cases h) (Nat.le_of_ble_eq_true hnc) (by simp [h1]) (fun j u hj => ?_) (fun j a u ha hu => ?_) (fun r hr => by cases hr)
        · rw [List.getElem?_drop] at hj
          have := h2 _ _ hj
          rw [addr_zero_add] at this
          rw [Addr.add_lit]
          exact this
        · rw [List.getElem?_drop] at ha hu
          exact h3 _ a u ha hu
    · exact .undef _
  | iface t a v h ih => simp only [AV.frzG]; exact .iface _ _ _ ih
  | func fn first cap us vs h1 h2 hr1 hr2 ih1 ih2 =>
    simp only [AV.frzG]
    exact .func _ _ _ us vs (by rw [frzL_len]; exact h1) (by rw [frzL_len]; exact h2) (fun j a u ha hu => by
      obtain ⟨b, hb, rfl⟩ := frzL_get ha
      exact ih1 j b u hb hu) (fun j a u ha hu => by
      obtain ⟨b, hb, rfl⟩ := frzL_get ha
      exact ih2 j b u hb hu)
  | agg cs vs hl hr ih =>
    simp only [AV.frzG]
    exact .agg _ vs (by rw [frzL_len]; exact hl) fun j a u ha hu => by
      obtain ⟨b, hb, rfl⟩ := frzL_get ha
      exact ih j b u hb hu
  | tuple cs vs hl hr ih =>
    simp only [AV.frzG]
    exact .tuple _ vs (by rw [frzL_len]; exact hl) fun j a u ha hu => by
      obtain ⟨b, hb, rfl⟩ := frzL_get ha
      exact ih j b u hb hu
theorem frz_ok {S S1 : Sit} {st1 : St} (hx : Ext (S.see S.no) S1) (h1 : StOk S1 st1) : ∀ (n : Nat) {a : AV} {v : Value}, VRel S1 a v → VRel (S.back2 S1) (a.frz st1.mem n) v
  | 0, a, v, h => frzG_ok hx (fun i cs _ hc => by cases hc) h
  | n + 1, a, v, h => frzG_ok hx (fun i cs hi hc => by
      split at hc
      · rename_i ds hm
        cases hc
        obtain ⟨hk, vs, e, hh, hr⟩ := h1.obj i _ hm
        refine ⟨vs, e, hh, ⟨by simp [hr.1], fun j b u hb hu => ?_⟩, ?_⟩
        · rw [List.getElem?_map] at hb
          cases hd : ds[j]? with
          | none => rw [hd] at hb; cases hb
          | some d =>
            rw [hd] at hb
            cases hb
            exact frz_ok hx h1 n (hr.2 j d u hd hu)
        · by_cases hb : S1.o i < S.w.heap.size
          · rw [(see_all hx hb).2] at hk
            exact absurd hk see_none
          · rw [back2_new hb, hk]
      · cases hc) h
theorem ext_back2 {S S1 : Sit} (hx : Ext (S.see S.no) S1) : Ext S (S.back2 S1) := by
  refine ⟨⟨fun ad u h => ?_, fun i hi => rfl, fun _ _ => rfl, Nat.le_refl _, Nat.le_refl _, fun b cur e m hk hb => ?_⟩, hx.os, hx.tape, hx.output, hx.size, fun b hb hk => ⟨(see_all hx hb).1, back2_old hb⟩, fun b m hb hk => ⟨m, Nat.le_refl _, by rw [back2_old hb]; exact hk⟩, fun b hb hk => by rw [back2_old hb]; exact hk⟩
  · have hb := cell_lt h.1
    refine ⟨?_, by rw [back2_old hb]; exact h.2⟩
    have : S1.w.cell? ad = S.w.cell? ad := World.cell?_of_block (see_all hx hb).1
    exact this.trans h.1
  · have hlt : b < S.w.heap.size := (Array.getElem?_eq_some_iff.1 hb).1
    exact ⟨⟨m, by rw [back2_old hlt]; exact hk⟩, cur, (see_all hx hlt).1.trans hb, rfl⟩
theorem stOk_back2 {S S1 : Sit} {st : St} (h : StOk S st) (hx : Ext (S.see S.no) S1) : StOk (S.back2 S1) st := by
  have hX := ext_back2 hx
  refine ⟨hX.wk.cell _ _ h.glob, h.no, h.nr, fun i ob hi => ?_, h.inj, fun r m hr => ?_, h.rinj⟩
  · obtain ⟨g1, g2⟩ := h.obj i ob hi
    have hlt := g2.lt
    exact ⟨by show (S.back2 S1).k (S.o i) = _; rw [back2_old hlt]; exact g1, g2.heap hX.wk (see_all hx hlt).1⟩
  · obtain ⟨g1, g2⟩ := h.row r m hr
    exact ⟨by show (S.back2 S1).k (S.r r) = _; rw [back2_old g2]; exact g1, Nat.lt_of_lt_of_le g2 hx.size⟩
/-- A call without memory of its own ahead: in whatever state, what it made is read only from now on. -/
theorem good_frz {P : Program} {f : FuncId} {args : List AV} {v1 : AV} {st1 : St} (h : Good P f args ⟨[], []⟩ (.ret v1) st1) (ha : ∀ x ∈ args, Cln x) (n : Nat) (st : St) : Good P f args st (.ret (v1.frz st1.mem n)) st := by
  have hs : ∀ {S : Sit}, StOk S st → StOk (S.see S.no) ⟨[], []⟩ := fun {S} hst => by
    have := stOk_see (A := st.mem) (M := []) (N := []) (R := st.rows) (by simpa using hst) (.nil _)
    rw [hst.no]; exact this
  have hr : ∀ {S : Sit} {vs : List Value}, Rels S args vs → Rels (S.see S.no) args vs := fun {S vs} hv => ⟨hv.1, fun j x u hx hu => vrel_see (hv.2 j x u hx hu) (ha x (List.mem_iff_getElem?.2 ⟨j, hx⟩)).sh⟩
  rcases h with ⟨hc, h⟩ | ⟨r, e, h⟩
  · refine .inl ⟨hc, fun S vs hst hv => (h (S.see S.no) vs (hs hst) (hr hv)).mono ?_⟩
    rintro en w' ⟨S1, rfl, hx, hst1, hend⟩
    cases en with
    | returned u => exact ⟨S.back2 S1, rfl, ext_back2 hx, stOk_back2 hst hx, frz_ok hx hst1 n hend⟩
    | panicked c => exact hend.elim
    | outgrown => exact hend.elim
  · cases e
    refine .inr ⟨_, rfl, fun S vs hst hv => ?_⟩
    obtain ⟨v, S1, hrun, hx, hst1, hv1⟩ := h (S.see S.no) vs (hs hst) (hr hv)
    exact ⟨v, S.back2 S1, hrun, ext_back2 hx, stOk_back2 hst hx, frz_ok hx hst1 n hv1⟩
end Go.Proofs.YtknocbhocdenoaaGreatDoor
