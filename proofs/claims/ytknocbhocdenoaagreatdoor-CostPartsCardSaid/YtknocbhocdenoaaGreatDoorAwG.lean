/- A row that is added to: in place or in new memory, the abstract machine sees the same. -/
import Derived.Test.YtknocbhocdenoaaGreatDoorAwF
namespace Go.Proofs.YtknocbhocdenoaaGreatDoor
open Go Go.RowKit

def Sit.growRow (S : Sit) (w : World) (b m : Nat) : Sit := { S with w := w, k := upd S.k b (.row m) }
theorem wk_row (S : Sit) {w : World} {b m m' : Nat} (hk : S.k b = .row m) (hm : m ≤ m') (hh : ∀ i, i ≠ b → w.heap[i]? = S.w.heap[i]?) {cur cur' : Array Value} {e : TypeId}
    (hb : S.w.heap[b]? = some (.cells cur e (0, 0))) (hb' : w.heap[b]? = some (.cells cur' e (0, 0))) (hsz : cur'.size = cur.size) (hpre : ∀ j, j < m → cur'[j]? = cur[j]?) : Wk S (S.growRow w b m') :=
  ⟨fun a u h => by
      by_cases hab : a.block = b
      · have hs := h.2
        rw [hab, hk] at hs
        refine ⟨?_, ?_⟩
        · have h1 := h.1
          simp only [World.cell?, hab, hb] at h1
          show w.cell? a = some u
          simp only [World.cell?, hab, hb']
          split at h1
          · cases h1
          · rename_i hsp
            rw [if_neg hsp, hpre _ hs]; exact h1
        · show (upd S.k b (.row m') a.block).safe a.off
          rw [hab, upd_same]
          exact Nat.lt_of_lt_of_le hs hm
      · refine ⟨?_, ?_⟩
        · have : (S.growRow w b m').w.cell? a = S.w.cell? a := World.cell?_of_block (hh _ hab)
          rw [this]; exact h.1
        · show (upd S.k b (.row m') a.block).safe a.off
          rw [upd_other _ _ hab]; exact h.2,
    fun _ _ => rfl, fun _ _ => rfl, Nat.le_refl _, Nat.le_refl _, fun c cc ee mm hm' hc => by
      by_cases hcb : c = b
      · subst hcb
        rw [hb] at hc
        cases hc
        exact ⟨⟨m', upd_same _ _ _⟩, cur', hb', hsz⟩
      · exact ⟨⟨mm, by show upd S.k b _ c = _; rw [upd_other _ _ hcb]; exact hm'⟩, cc, (hh c hcb).trans hc, rfl⟩⟩
theorem ext_row {S0 S : Sit} (hx : Ext S0 S) {w : World} {b m m' : Nat} (hk : S.k b = .row m) (hm : m ≤ m') (hw : Wk S (S.growRow w b m')) (hh : ∀ i, i ≠ b → w.heap[i]? = S.w.heap[i]?)
    (hs : w.heap.size = S.w.heap.size) (ho : w.os = S.w.os) (ht : w.tape = S.w.tape) (hp : w.output = S.w.output) : Ext S0 (S.growRow w b m') where
  wk := hx.wk.trans hw
  os := ho.trans hx.os
  tape := ht.trans hx.tape
  output := hp.trans hx.output
  size := by show _ ≤ w.heap.size; rw [hs]; exact hx.size
  keep := fun c hc hkc => by
    obtain ⟨h1, h2⟩ := hx.keep c hc hkc
    have hne : c ≠ b := by
      intro e
      subst e
      rw [h2] at hk
      rw [hk] at hkc; cases hkc
    exact ⟨(hh c hne).trans h1, by show upd S.k b _ c = _; rw [upd_other _ _ hne]; exact h2⟩
  row := fun c mm hc hkc => by
    obtain ⟨m1, hm1, hk1⟩ := hx.row c mm hc hkc
    by_cases hcb : c = b
    · subst hcb
      rw [hk] at hk1
      cases hk1
      exact ⟨m', by omega, upd_same _ _ _⟩
    · exact ⟨m1, hm1, by show upd S.k b _ c = _; rw [upd_other _ _ hcb]; exact hk1⟩
  obj := fun c hc hkc => by
    have h1 := hx.obj c hc hkc
    have hcb : c ≠ b := by intro e; subst e; rw [hk] at h1; cases h1
    show upd S.k b _ c = _
    rw [upd_other _ _ hcb]; exact h1
theorem StOk.growRow {S : Sit} {st : St} (h : StOk S st) {w : World} {b m m' r : Nat} (hr : st.rows[r]? = some (some m)) (hb : S.r r = b) (hw : Wk S (S.growRow w b m')) (hh : ∀ i, i ≠ b → w.heap[i]? = S.w.heap[i]?)
    (hs : w.heap.size = S.w.heap.size) : StOk (S.growRow w b m') (st.kill r) := by
  have hk := (h.row r m hr).1
  rw [hb] at hk
  refine ⟨hw.cell _ _ h.glob, h.no, by simp [St.kill, Sit.growRow, h.nr], fun i ob hi => ?_, h.inj, fun r' m1 h1 => ?_, fun r1 r2 m1 m2 h1 h2 he => h.rinj r1 r2 m1 m2 (kill_get h1).1 (kill_get h2).1 he⟩
  · have hne : S.o i ≠ b := fun e => by have := (h.obj i ob hi).1; rw [e, hk] at this; cases this
    exact ⟨by show upd S.k b _ (S.o i) = _; rw [upd_other _ _ hne]; exact (h.obj i ob hi).1, (h.obj i ob hi).2.heap hw (hh _ hne)⟩
  · obtain ⟨h2, hne⟩ := kill_get h1
    have hne' : S.r r' ≠ b := fun e => hne (h.rinj r' r m1 m h2 hr (by rw [e, hb]))
    exact ⟨by show upd S.k b _ (S.r r') = _; rw [upd_other _ _ hne']; exact (h.row r' m1 h2).1, by show _ < w.heap.size; rw [hs]; exact (h.row r' m1 h2).2⟩

theorem rels_nil_len {cs : List AV} {us : List Value} (h : us.length = cs.length) (h0 : cs.length = 0) : us = [] := by
  have : us.length = 0 := by omega
  exact List.length_eq_zero_iff.1 this

theorem setCells_heap (b : Nat) (e : TypeId) (f : Nat × Nat) : ∀ (vs : List Value) (o : Nat) (w : World) (cur : Array Value), w.heap[b]? = some (.cells cur e f) → o + vs.length ≤ cur.size →
    ∃ cur', (w.setCells b o vs).heap[b]? = some (.cells cur' e f) ∧ cur'.size = cur.size ∧ (∀ j : Nat, j < o → cur'[j]? = cur[j]?) ∧ ∀ (j : Nat) (u : Value), vs[j]? = some u → cur'[o + j]? = some u
  | [], o, w, cur, h, _ => ⟨cur, h, rfl, fun _ _ => rfl, fun j u hj => by simp at hj⟩
  | v :: vs, o, w, cur, h, hl => by
    simp only [List.length_cons] at hl
    obtain ⟨cur', h1, h2, h3, h4⟩ := setCells_heap b e f vs (o + 1) (w.setCell ⟨b, o, none⟩ v) (cur.setIfInBounds o v) (heap_setCell_same w b o v h) (by simp; omega)
    refine ⟨cur', h1, by simpa using h2, fun j hj => ?_, fun j u hj => ?_⟩
    · rw [h3 j (by omega), Array.getElem?_setIfInBounds, if_neg (by omega)]
    · cases j with
      | zero =>
        simp at hj
        subst hj
        rw [Nat.add_zero, h3 o (by omega), Array.getElem?_setIfInBounds, if_pos rfl, if_pos (by omega)]
      | succ j => rw [show o + (j + 1) = o + 1 + j by omega]; exact h4 j u (by simpa using hj)
theorem setCells_other (b : Nat) : ∀ (vs : List Value) (o : Nat) (w : World) (i : Nat), i ≠ b → (w.setCells b o vs).heap[i]? = w.heap[i]?
  | [], _, _, _, _ => rfl
  | v :: vs, o, w, i, h => (setCells_other b vs (o + 1) _ i h).trans (Below.heap_setCell w ⟨b, o, none⟩ v i h)
theorem setCells_rest (b : Nat) : ∀ (vs : List Value) (o : Nat) (w : World), (w.setCells b o vs).heap.size = w.heap.size ∧ (w.setCells b o vs).os = w.os ∧ (w.setCells b o vs).tape = w.tape ∧ (w.setCells b o vs).output = w.output
  | [], _, _ => ⟨rfl, rfl, rfl, rfl⟩
  | v :: vs, o, w => by
    obtain ⟨h1, h2, h3, h4⟩ := setCells_rest b vs (o + 1) (w.setCell ⟨b, o, none⟩ v)
    exact ⟨h1.trans (heap_setCell_size _ _ _), h2, h3, h4⟩

/-- What an append's source gives. -/
theorem src_of {P : Program} {S : Sit} {tx e' : TypeId} (hk : P.underlying tx = some (.slice e')) {size : Nat} {own : Own} {news : List AV} {m : Nat} {v : Value} (hv : VRel S (.slice own news m) v) (hl : news.length = m * size) (hs : news.all AV.scalar = true) :
    ∃ us, Src P size tx v m us S.w ∧ Rels S news us ∧ (0 < m → ∃ ad c, v = .slice (some ad) m c ∧ ∀ j u, us[j]? = some u → S.w.cell? (ad.add j) = some u) := by
  have key : ∀ {as : List AV} {vs : List Value}, as.all AV.scalar = true → Rels S as vs → ∀ v ∈ vs, v.oneCell' = true := by
    intro as vs ha hrr v hv
    obtain ⟨j, hj⟩ := List.mem_iff_getElem?.1 hv
    have hlt : j < as.length := by rw [← hrr.1]; exact (List.getElem?_eq_some_iff.1 hj).1
    have h1 := List.getElem?_eq_getElem hlt
    exact scalar_one (List.all_eq_true.1 ha _ (List.mem_iff_getElem?.2 ⟨j, h1⟩)) (hrr.2 j _ v h1 hj)
  cases hv with
  | nil => exact ⟨[], Src.ofNil S.w hk 0, Rels.nil S, fun h => absurd h (by omega)⟩
  | slice _ _ _ ad cap us hn hc hlen hst hr ho =>
    have hR : Rels S news us := ⟨hlen, hr⟩
    exact ⟨us, Src.ofSlice S.w hk ad m cap us (by rw [hlen, hl]) (fun j u hj => (hst j u hj).1) (key hs hR), hR, fun _ => ⟨ad, cap, rfl, fun j u hj => (hst j u hj).1⟩⟩

theorem stable_newRow (S : Sit) (vs : Array Value) (e : TypeId) (m : Nat) (j : Nat) (u : Value) (hj : j < m) (h : vs[j]? = some u) : Stable (S.new (.cells vs e) (.row m)) ((⟨S.w.heap.size, 0, none⟩ : Addr).add j) u := by
  rw [addr_zero_add]
  refine ⟨?_, ?_⟩
  · rw [cell_of_row _ _ _ _ _ _ (S.new_heap (.cells vs e) (.row m))]; exact h
  · show ((S.new (.cells vs e) (.row m)).k S.w.heap.size).safe _
    rw [S.new_kind]; exact hj

theorem append_ok {P : Program} {t tx ty : TypeId} {s x r : AV} {st st' : St} (h : appendF P t tx s x st = some (r, st')) {S0 S : Sit} {β : Nat → Nat} {fr : Fr} {a : Act} (hi : Inv S0 S β fr st a) {vs vx : Value} (hs : VRel S s vs) (hx : VRel S x vx) :
    ∃ S' v, (Builtin.append_ #[t, tx] ty #[vs, vx]).run P S.w = .ok v S'.w ∧ VRel S' r v ∧ Inv S0 S' β fr st' a ∧ Ext S S' := by
  unfold appendF at h
  split at h
  · rename_i sz by_ own cells n own' news m happ
    obtain ⟨e, e', i, hu, hux, hinf, hz, hpos, rfl, rfl⟩ := appI_inv happ
    · split at h
      · rename_i hc
        obtain ⟨hcl, hnl, hsc, hby, h63⟩ := hc
        rw [Option.map_eq_some_iff] at hz
        obtain ⟨z, hz, hzc⟩ := hz
        obtain ⟨us, hsrc, hR, hsome⟩ := src_of (P := P) hux hx hnl hsc
        have hul : us.length = news.length := hR.1
        -- a new row
        have grow : ∀ (olds : List Value) (oldA : List AV) (base : Option Addr) (sLen sCap : Nat), Rels S oldA olds → oldA.length = sLen * i.size → (Builtin.firstCells i.size sLen (.slice base sLen sCap)).run P S.w.drew = .ok olds.toArray S.w.drew → sCap < sLen + m → (sLen + m) * i.bytes ≤ 140737488355328 → sLen + m ≤ maxLen →
            ∀ st1, StOk S st1 → ∃ S' v, (Builtin.append_ #[t, tx] ty #[.slice base sLen sCap, vx]).run P S.w = .ok v S'.w ∧ VRel S' (.slice (.row st1.rows.length) (oldA ++ news) (sLen + m)) v ∧ Inv S0 S' β fr { st1 with rows := st1.rows ++ [some (oldA.length + news.length)] } a ∧ Ext S S' := by
          intro olds oldA base sLen sCap hO hOl hold hg hby' h63' st1 hst1
          have hrun := run_append_grow_src (P := P) S.w t tx ty e i z hu hinf hz base sLen sCap olds hold vx m us hsrc hg (by unfold maxLen at h63'; omega) (growslice_fits hg hby')
          have hge := grownCap_ge S.w (sLen + m) sCap e
          have hle := grownCap_le_maxLen S.w (sLen + m) sCap e h63'
          generalize grownCap S.w (sLen + m) sCap e = cap at hrun hge hle
          generalize harr : (olds ++ us).toArray ++ Builtin.zeroCells z.cells (cap - (sLen + m)) = arr at hrun
          have hxd := ext_onW S (w := S.w.drew) rfl rfl rfl rfl
          have hxn := ext_new (S.onW S.w.drew) (.cells arr e) (.row (oldA.length + news.length))
          have hxa := ext_addRow ((S.onW S.w.drew).new (.cells arr e) (.row (oldA.length + news.length))) S.w.heap.size
          have hx1 := (hxd.trans hxn).trans hxa
          have hall : (olds ++ us).length = (oldA ++ news).length := (hO.append hR).1
          have hal : (oldA ++ news).length = oldA.length + news.length := by simp
          have hget : ∀ (j : Nat) (u : Value), (olds ++ us)[j]? = some u → arr[j]? = some u := by
            intro j u hj
            have hlt := (List.getElem?_eq_some_iff.1 hj).1
            rw [← harr, Array.getElem?_append_left (by simpa using hlt)]
            simpa using hj
          have hsize : arr.size = cap * i.size := by
            rw [← harr]
            simp only [Array.size_append, List.size_toArray, List.length_append, hO.1, hul, hOl, hnl, size_zeroCells, hzc, ← Nat.add_mul]
            congr 1
            omega
          refine ⟨(((S.onW S.w.drew).new (.cells arr e) (.row (oldA.length + news.length))).addRow S.w.heap.size), _, hrun, ?_, ?_⟩
          · refine .slice _ _ _ ⟨S.w.heap.size, 0, none⟩ cap (olds ++ us) (by intro h; cases h) hge hall (fun j u hj => ?_) ((hO.append hR).mono hx1.wk).2 (fun r hr => ?_)
            · have hlt := (List.getElem?_eq_some_iff.1 hj).1
              exact hxa.wk.cell _ _ (stable_newRow (S.onW S.w.drew) arr e _ j u (by omega) (hget j u hj))
            · cases hr
              have hr0 : st1.rows.length = S.nr := hst1.nr.symm
              refine ⟨by rw [hr0]; show S.nr < S.nr + 1; omega, ?_, arr, e, i.size, oldA.length + news.length, ?_, hsize, ?_, hpos, hle, ?_⟩
              · rw [hr0]; show _ = (⟨upd S.r S.nr S.w.heap.size S.nr, 0, none⟩ : Addr); rw [upd_same]
              · rw [hr0]; show _ = _
                have e1 : ((((S.onW S.w.drew).new (.cells arr e) (.row (oldA.length + news.length))).addRow S.w.heap.size)).r S.nr = S.w.heap.size := upd_same _ _ _
                rw [e1]
                exact (S.onW S.w.drew).new_heap (.cells arr e) (.row (oldA.length + news.length))
              · simp [hOl, hnl, Nat.add_mul]
              · rw [hr0]
                have e1 : ((((S.onW S.w.drew).new (.cells arr e) (.row (oldA.length + news.length))).addRow S.w.heap.size)).r S.nr = S.w.heap.size := upd_same _ _ _
                rw [e1]
                exact (S.onW S.w.drew).new_kind (.cells arr e) (.row (oldA.length + news.length))
          · refine ⟨⟨hi.ext.trans hx1, ((hst1.onW (w := S.w.drew) rfl rfl rfl rfl).new _ _).addRow ((S.onW S.w.drew).new_kind _ _) (by rw [(S.onW S.w.drew).new_size]; show S.w.heap.size < S.w.heap.size + 1; omega) (fun r m' hr he => ?_), hi.fr.ext hx1⟩, hx1⟩
            have := (hst1.row r m' hr).2
            have he' : S.r r = S.w.heap.size := he
            omega
        split at h
        · -- nil
          generalize hsv : vs = vs' at hs
          cases hs with
          | slice _ _ _ _ _ _ hn => exact absurd rfl hn
          | nil =>
            split at h
            · rename_i hm
              cases h
              subst hm
              have hus : us = [] := rels_nil_len hul (by rw [hnl]; omega)
              subst hus
              exact ⟨S, _, run_append_nothing S.w t tx ty e i hu hinf none 0 0 (Nat.le_refl _) vx hsrc, .nil _ (by intro r h; cases h), hi, .refl S⟩
            · rename_i hm
              cases h
              obtain ⟨S', v, h1, h2, h3, h4⟩ := grow [] [] none 0 0 (Rels.nil S) (by simp) (run_firstCells_none _ _ _ _ _) (by omega) (by simpa using hby) (by simpa using h63) st hi.st
              exact ⟨S', v, h1, by simpa using h2, by simpa using h3, h4⟩
        · rename_i r0
          split at h
          · rename_i hrow
            obtain ⟨hn0, hrow⟩ := hrow
            cases h
            have hks := hi.st.row r0 _ hrow
            generalize hsv : vs = vs' at hs
            cases hs with
            | nil => omega
            | slice _ _ _ ad cap os hn hnc hol hos hor hoo =>
              obtain ⟨hr1, rfl, cur, e1, size1, m1, hh, hcs, hcl1, hp1, hcm, hk1⟩ := hoo r0 rfl
              have hO : Rels S cells os := ⟨hol, hor⟩
              have hsz : size1 = i.size := by
                have : n * size1 = n * i.size := by rw [← hcl1, hcl]
                exact Nat.eq_of_mul_eq_mul_left hn0 this
              subst hsz
              have hm1 : m1 = cells.length := by
                have := hks.1
                rw [hk1] at this
                cases this; rfl
              have hst1 := hi.st.kill r0
              have hlr : (st.kill r0).rows.length = st.rows.length := by simp [St.kill]
              by_cases hm0 : m = 0
              · -- nothing is added
                subst hm0
                have hus : us = [] := rels_nil_len hul (by rw [hnl]; omega)
                subst hus
                have hnw : news = [] := by have : news.length = 0 := by rw [hnl]; omega
                                           exact List.length_eq_zero_iff.1 this
                subst hnw
                have hxa := ext_addRow S (S.r r0)
                refine ⟨S.addRow (S.r r0), _, run_append_nothing S.w t tx ty e i hu hinf _ n cap hnc vx hsrc, ?_, ⟨hi.ext.trans hxa, hst1.addRow hks.1 hks.2 (fun r m' hr he => ?_), hi.fr.ext hxa⟩, hxa⟩
                · simp only [List.append_nil, Nat.add_zero]
                  refine .slice _ _ _ ⟨S.r r0, 0, none⟩ cap os (by intro h; cases h) hnc hol hos (hO.mono hxa.wk).2 (fun r hr => ?_)
                  cases hr
                  have e2 : (S.addRow (S.r r0)).r st.rows.length = S.r r0 := by rw [← hi.st.nr]; exact upd_same _ _ _
                  exact ⟨by rw [← hi.st.nr]; show S.nr < S.nr + 1; omega, by rw [e2], cur, e1, i.size, m1, by rw [e2]; exact hh, hcs, hcl1, hp1, hcm, by rw [e2]; exact hk1⟩
                · obtain ⟨h2, hne⟩ := kill_get hr
                  exact hne (hi.st.rinj r r0 m' _ h2 hrow he)
              · by_cases hroom : n + m ≤ cap
                · -- in place
                  have hfit : n * i.size + us.length ≤ cur.size := by
                    rw [hul, hnl, hcs, ← Nat.add_mul]; exact Nat.mul_le_mul_right _ hroom
                  have hcell : ∀ j, S.w.cell? ⟨S.r r0, j, none⟩ = cur[j]? := fun j => cell_of_row _ _ _ _ _ _ hh
                  have hfz : ∀ j, S.w.frozen? ⟨S.r r0, j, none⟩ = false := fun j => by simp [World.frozen?, hh]
                  have hrun := run_append_room_src (P := P) S.w t tx ty e i hu hinf (S.r r0) 0 n cap vx m us hsrc hroom
                    (fun j hj => by rw [hcell, Array.getElem?_eq_getElem (by omega)]; rfl) (fun j _ => hfz _)
                  rw [Nat.zero_add, ← hcl] at hrun
                  rw [← hcl] at hfit
                  obtain ⟨cur', g1, g2, g3, g4⟩ := setCells_heap (S.r r0) e1 (0, 0) us cells.length S.w cur hh hfit
                  obtain ⟨q1, q2, q3, q4⟩ := setCells_rest (S.r r0) us cells.length S.w
                  have hoth : ∀ i, i ≠ S.r r0 → (S.w.setCells (S.r r0) cells.length us).heap[i]? = S.w.heap[i]? := fun i hne => setCells_other _ _ _ _ _ hne
                  generalize S.w.setCells (S.r r0) cells.length us = w1 at hrun g1 q1 q2 q3 q4 hoth
                  have hwk := wk_row S (w := w1) (m' := cells.length + news.length) hks.1 (by omega) hoth hh g1 g2 g3
                  have hx1 := ext_row (Ext.refl S) hks.1 (by omega) hwk hoth q1 q2 q3 q4
                  have hst2 := hi.st.growRow hrow rfl hwk hoth q1
                  have hxa := ext_addRow (S.growRow w1 (S.r r0) (cells.length + news.length)) (S.r r0)
                  have hx2 := hx1.trans hxa
                  have hkind : (S.growRow w1 (S.r r0) (cells.length + news.length)).k (S.r r0) = .row (cells.length + news.length) := upd_same _ _ _
                  have e2 : ((S.growRow w1 (S.r r0) (cells.length + news.length)).addRow (S.r r0)).r st.rows.length = S.r r0 := by rw [← hi.st.nr]; exact upd_same _ _ _
                  refine ⟨(S.growRow w1 (S.r r0) (cells.length + news.length)).addRow (S.r r0), _, hrun, ?_, ⟨hi.ext.trans hx2, ?_, hi.fr.ext hx2⟩, hx2⟩
                  · refine .slice _ _ _ ⟨S.r r0, 0, none⟩ cap (os ++ us) (by intro h; cases h) hroom (hO.append hR).1 (fun j u hj => ?_) ((hO.append hR).mono hx2.wk).2 (fun r hr => ?_)
                    · rw [addr_zero_add]
                      have hlt := (List.getElem?_eq_some_iff.1 hj).1
                      have hlt2 : j < cells.length + news.length := by simp only [List.length_append, hol, hul] at hlt; exact hlt
                      refine hxa.wk.cell _ _ ⟨?_, ?_⟩
                      · show w1.cell? _ = _
                        rw [cell_of_row _ _ _ _ _ _ g1]
                        by_cases hj1 : j < cells.length
                        · rw [g3 j hj1, ← hcell]
                          rw [List.getElem?_append_left (by omega)] at hj
                          have := (hos j u hj).1
                          rw [addr_zero_add] at this
                          exact this
                        · rw [List.getElem?_append_right (by omega)] at hj
                          have := g4 _ u hj
                          rw [show cells.length + (j - os.length) = j by omega] at this
                          exact this
                      · show ((S.growRow w1 (S.r r0) (cells.length + news.length)).k (S.r r0)).safe j
                        rw [hkind]; exact hlt2
                    · cases hr
                      exact ⟨by rw [← hi.st.nr]; show S.nr < S.nr + 1; omega, by rw [e2], cur', e1, i.size, cells.length + news.length, by rw [e2]; exact g1, g2.trans hcs, by simp [hcl, hnl, Nat.add_mul], hp1, hcm, by rw [e2]; exact hkind⟩
                  · have hadd := hst2.addRow (b := S.r r0) (m := cells.length + news.length) hkind (by show _ < w1.heap.size; rw [q1]; exact hks.2) (fun r m' hr he => by
                      obtain ⟨h2, hne⟩ := kill_get hr
                      exact hne (hi.st.rinj r r0 m' _ h2 hrow he))
                    exact hadd
                · obtain ⟨S', v, h1, h2, h3, h4⟩ := grow os cells _ n cap hO hcl (run_firstCells_some S.w.drew i.size n ⟨S.r r0, 0, none⟩ n cap os (by rw [hol, hcl]) (fun j u hj => by simpa using (hos j u hj).1)) (by omega) hby h63 _ hst1
                  rw [hlr] at h2
                  exact ⟨S', v, h1, h2, by simpa [St.kill] using h3, h4⟩
          · cases h
        · cases h
      · cases h
  · cases h
end Go.Proofs.YtknocbhocdenoaaGreatDoor
