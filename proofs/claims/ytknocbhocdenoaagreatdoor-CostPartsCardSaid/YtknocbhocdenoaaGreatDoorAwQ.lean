/- tree.caught: it runs a look; what ended it. -/
import Derived.Test.YtknocbhocdenoaaGreatDoorAwS
namespace Go.Proofs.YtknocbhocdenoaaGreatDoor
open Go Go.RowKit

/-- What a look's end is to who caught it. -/
def caughtEnd : AEnd → Option AV
  | .ret _ => some (.val (.int .i64 0))
  | .panic (.iface t (.agg [.val (.int .i64 n)])) => bif t == 278 then some (.val (.int .i64 n)) else none
  | _ => none

/-! ### Facts of types -/
theorem q_zero : zeroF Tryz.prog 278 = some [.val (.int .i64 0)] := by kernel_rfl
theorem q_zeroV : zeroV Tryz.prog 278 = some (.agg [.val (.int .i64 0)]) := by kernel_rfl
theorem q_shp : shp Tryz.prog 278 = some (true, 1) := by kernel_rfl
theorem q_shp40 : shp Tryz.prog 40 = some (false, 1) := by kernel_rfl
theorem q_off : fieldOff Tryz.prog 278 0 = some 0 := by kernel_rfl
theorem q_concr : concr Tryz.prog 278 = true := by kernel_rfl

theorem closure_idle {st : St} {Q : AEnd → St → Prop} (hQ : Q (.ret (.tuple [])) st) {S : Sit} (hst : StOk S st) (p : Value) :
    CallsD Tryz.prog 194 #[p] .returning S.w fun e u1 w' => u1 = .returning ∧ ∃ S' ea st1, S'.w = w' ∧ Ext S S' ∧ StOk S' st1 ∧ EndRel S' ea e ∧ Q ea st1 := by
  refine callsD_closure (args := [.undef]) (r := .val .nilIface) (v := .nilIface) Tryz.func194 rfl rfl rfl rfl rfl (fun c₀ cs hc => .inr ⟨by simp [recoverD, hc], rfl, rfl⟩) hst (Rels.cons (.undef _) (.nil _)) (.val _) [] [] (by decide) ?_
  refine regW_hide fun K hK => ?_
  simp [q_concr, q_zeroV, q_shp, assertF, allocF_some q_zero]
  refine hK _ _ (wpA_reg fun K hK => ?_)
  simp
  refine hK _ _ (wpA_cond (b := false) (by simp) (fun h => by cases h) fun _ => wpA_skip ?_)
  exact ⟨.tuple [], rfl, hQ⟩

theorem closure_hit {st : St} {n m : Int} {Q : AEnd → St → Prop} (hQ : Q (.ret (.tuple [])) { st with mem := st.mem ++ [.cells [.val (.int .i64 n)]] }) {S : Sit} (hst : StOk S { st with mem := st.mem ++ [.cells [.val (.int .i64 m)]] }) (p : Value) (hp : VRel S (.ptr st.mem.length 0) p) :
    CallsD Tryz.prog 194 #[p] (.panicking [{ v := .iface 278 (.agg #[.int .i64 n]), recovered := false }]) S.w fun e u1 w' => u1 = .panicking [{ v := .iface 278 (.agg #[.int .i64 n]), recovered := true }] ∧ ∃ S' ea st1, S'.w = w' ∧ Ext S S' ∧ StOk S' st1 ∧ EndRel S' ea e ∧ Q ea st1 := by
  refine callsD_closure (args := [.ptr st.mem.length 0]) (r := .iface 278 (.agg [.val (.int .i64 n)])) (v := .iface 278 (.agg #[.int .i64 n])) Tryz.func194 rfl rfl rfl rfl rfl (fun c₀ cs hc => .inl (by simp [recoverD, hc])) hst (Rels.cons hp (.nil _))
    (.iface _ _ _ (.agg _ _ rfl fun j a u ha hu => ?_)) [] [] (show 4 < max 11 1 by decide) ?_
  · cases j with
    | zero => cases ha; cases hu; exact .val _
    | succ j => simp at ha
  refine regW_hide fun K hK => ?_
  simp [q_concr, q_zeroV, q_shp, assertF, allocF_some q_zero]
  refine hK _ _ (wpA_reg fun K hK => ?_)
  simp
  refine hK _ _ (wpA_cond (b := true) (by simp) (fun _ => ?_) fun h => by cases h)
  refine wpA_reg1 fun K hK => ?_
  simp [q_off, q_shp40]
  exact hK _ _ ⟨.tuple [], rfl, by simpa using hQ⟩

/-! ### A variable of one's own becomes an object -/
def Sit.rekind (S : Sit) (b : Nat) : Sit := { S with k := upd S.k b .obj }
theorem wk_rekind (S : Sit) {b : Nat} (hk : S.k b = .priv) : Wk S (S.rekind b) :=
  ⟨fun a u h => by
      have hne : a.block ≠ b := by intro e; have := h.2; rw [e, hk] at this; exact this
      exact ⟨h.1, by show (upd S.k b .obj a.block).safe a.off; rw [upd_other _ _ hne]; exact h.2⟩,
    fun _ _ => rfl, fun _ _ => rfl, Nat.le_refl _, Nat.le_refl _, fun c cur e m hm hc => by
      have hne : c ≠ b := by intro ec; rw [ec, hk] at hm; cases hm
      exact ⟨⟨m, by show upd S.k b .obj c = _; rw [upd_other _ _ hne]; exact hm⟩, cur, hc, rfl⟩⟩
theorem ext_rekind {S0 S : Sit} (hx : Ext S0 S) {b : Nat} (hk : S.k b = .priv) (hb : S0.w.heap.size ≤ b) : Ext S0 (S.rekind b) where
  wk := hx.wk.trans (wk_rekind S hk)
  os := hx.os
  tape := hx.tape
  output := hx.output
  size := hx.size
  keep := fun c hc hkc => by
    obtain ⟨h1, h2⟩ := hx.keep c hc hkc
    exact ⟨h1, by show upd S.k b .obj c = _; rw [upd_other _ _ (by omega)]; exact h2⟩
  row := fun c m hc hkc => by
    obtain ⟨m', h1, h2⟩ := hx.row c m hc hkc
    exact ⟨m', h1, by show upd S.k b .obj c = _; rw [upd_other _ _ (by omega)]; exact h2⟩
  obj := fun c hc hkc => by show upd S.k b .obj c = _; rw [upd_other _ _ (by omega)]; exact hx.obj c hc hkc
theorem StOk.rekind {S : Sit} {st : St} (h : StOk S st) {b : Nat} (hk : S.k b = .priv) : StOk (S.rekind b) st :=
  ⟨(wk_rekind S hk).cell _ _ h.glob, h.no, h.nr, fun i ob hi => by
      have hne : S.o i ≠ b := fun e => by have := (h.obj i ob hi).1; rw [e, hk] at this; cases this
      exact ⟨by show upd S.k b .obj (S.o i) = _; rw [upd_other _ _ hne]; exact (h.obj i ob hi).1, (h.obj i ob hi).2.heap (wk_rekind S hk) rfl⟩,
    h.inj, fun r m hr => by
      have hne : S.r r ≠ b := fun e => by have := (h.row r m hr).1; rw [e, hk] at this; cases this
      exact ⟨by show upd S.k b .obj (S.r r) = _; rw [upd_other _ _ hne]; exact (h.row r m hr).1, (h.row r m hr).2⟩, h.rinj⟩

theorem caught_run {g : FuncId} {args : List AV} {st st' : St} {e : AEnd} (hg : GoodB Tryz.prog g args st e st') {x : AV} (hx : caughtEnd e = some x) {S : Sit} (hst : StOk S st) (us ws : Array Value) (hr : Rels S args (us ++ ws).toList) :
    Calls Tryz.prog 132 #[.func (.func g) us ws] S.w fun en w' => ∃ S', S'.w = w' ∧ Ext S S' ∧ StOk S' st' ∧ EndRel S' (.ret x) en := by
  have hmf : ∀ (fn : Fn) (first cap : Array Value) (w : World), (Instr.makeFunc fn first cap).run Tryz.prog w = .ok (.func fn first cap) w := fun _ _ _ _ => rfl
  have hz : ∀ w : World, (zeroValue 40).run Tryz.prog w = .ok (.int .i64 0) w := fun w => by kernel_rfl
  have hinv : ∀ w : World, (callFunc g (us ++ ws)).run Tryz.prog w = .ok (.enter g (us ++ ws)) w := fun w => run_callFunc hg.1 _ w
  have hinv2 : ∀ (p : Value) (w : World), (callFunc 194 #[p]).run Tryz.prog w = .ok (.enter 194 #[p]) w := fun p w => run_callFunc ⟨_, Tryz.func194, rfl, rfl⟩ _ w
  have hld : ∀ (b : Nat) (n : Int) (w : World) (e : TypeId), w.heap[b]? = some (.cells #[.int .i64 n] e (0, 0)) → (loadVar 40 ⟨b, 0, none⟩).run Tryz.prog w = .ok (.int .i64 n) w := fun b n w e hb => by
    obtain ⟨v, h1, h2⟩ := load_run (P := Tryz.prog) (S := S.onW w) (t := 40) (cs := [.val (.int .i64 n)]) (off := 0) (a := .val (.int .i64 n)) (by simp [q_shp40]) (ad := ⟨b, 0, none⟩) (us := [.int .i64 n]) (Rels.cons (.val _) (.nil _)) (fun j u hj => by
      rw [addr_zero_add, show (S.onW w).w = w from rfl, cell_of_row _ _ _ _ _ _ hb]; simpa using hj)
    rw [addr_zero_add] at h1
    rw [val_inv h2] at h1
    exact h1
  have hx1 := ext_new S (.cells #[.int .i64 0] 40) .priv
  have hcall := hg.2 (S.new (.cells #[.int .i64 0] 40) .priv) (us ++ ws) (hst.new _ _) (hr.mono hx1.wk)
  have hB : ∀ S2, Ext (S.new (.cells #[.int .i64 0] 40) .priv) S2 → S2.w.heap[S.w.heap.size]? = some (.cells #[.int .i64 0] 40 (0, 0)) ∧ S2.k S.w.heap.size = .priv := fun S2 hx2 => by
    obtain ⟨h1, h2⟩ := hx2.keep S.w.heap.size (by rw [S.new_size]; omega) (still_priv (S.new_kind _ _))
    exact ⟨h1.trans (S.new_heap _ _), h2.trans (S.new_kind _ _)⟩
  clear hg
  go_enter_defers Tryz.func132, Tryz.ntmps132
  go_wp2
  refine hcall.mono ?_
  rintro en w' ⟨S2, rfl, hx2, hst2, hend⟩
  obtain ⟨hb, hk⟩ := hB S2 hx2
  have hcell : S2.w.cell? ⟨S.w.heap.size, 0, none⟩ = some (.int .i64 0) := by rw [cell_of_row _ _ _ _ _ _ hb]; rfl
  have hfz : S2.w.frozen? ⟨S.w.heap.size, 0, none⟩ = false := by simp [World.frozen?, hb]
  cases e with
  | ret v =>
    cases en with
    | panicked c => exact hend.elim
    | outgrown => exact hend.elim
    | returned u =>
      cases hx
      go_wp2
      have hoth : ∀ i, i ≠ S.w.heap.size → (S2.w.setCell ⟨S.w.heap.size, 0, none⟩ (.int .i64 0)).heap[i]? = S2.w.heap[i]? := fun i hne => Below.heap_setCell S2.w ⟨S.w.heap.size, 0, none⟩ _ i hne
      have hsz : (S2.w.setCell ⟨S.w.heap.size, 0, none⟩ (.int .i64 0)).heap.size = S2.w.heap.size := heap_setCell_size _ _ _
      have hx3 := ext_touch (hx1.trans hx2) (.inr ⟨hk, Nat.le_refl _⟩) hoth hsz rfl rfl rfl
      have hst3 := hst2.touchPriv hk hoth hsz
      refine leaves_cons (by simp) (hinv2 _ _) ?_
      refine (closure_idle (Q := fun e s => e = .ret (.tuple []) ∧ s = st') ⟨rfl, rfl⟩ hst3 _).mono ?_
      rintro e1 u1 w1 ⟨rfl, S4, ea, s4, rfl, hx4, hs4, he4, rfl, rfl⟩
      cases e1 with
      | panicked c => exact he4.elim
      | outgrown => exact he4.elim
      | returned u4 =>
        have hb3 : (S2.w.setCell ⟨S.w.heap.size, 0, none⟩ (.int .i64 0)).heap[S.w.heap.size]? = some (.cells #[.int .i64 0] 40 (0, 0)) := heap_setCell_same _ _ _ _ hb
        have hlt : S.w.heap.size < (S2.w.setCell ⟨S.w.heap.size, 0, none⟩ (.int .i64 0)).heap.size := (Array.getElem?_eq_some_iff.1 hb3).1
        have hb4 : S4.w.heap[S.w.heap.size]? = some (.cells #[.int .i64 0] 40 (0, 0)) := (hx4.keep S.w.heap.size hlt (still_priv hk)).1.trans hb3
        have hl := hld _ _ _ _ hb4
        simp [Leaves, settle, results, Tryz.results132, asAddr, hl]
        exact ⟨S4, rfl, hx3.trans hx4, hs4, .val _⟩
  | panic v =>
    cases en with
    | returned u => exact hend.elim
    | outgrown => exact hend.elim
    | panicked c =>
      obtain ⟨u, rfl, hu⟩ := hend
      unfold caughtEnd at hx
      split at hx
      · cases ‹AEnd.panic v = .ret _›
      · rename_i t n he
        cases he
        cases ht : (t == 278) with
        | false => rw [ht] at hx; cases hx
        | true =>
          rw [ht] at hx
          cases hx
          have ht' : t = 278 := by simpa using ht
          subst ht'
          have hue : u = .iface 278 (.agg #[.int .i64 n]) := by
            cases hu with
            | iface _ _ w hw =>
              cases hw with
              | agg _ vs hl hr2 =>
                have h1 : vs.size = 1 := hl
                have h2 := hr2 0 _ _ rfl (Array.getElem?_eq_getElem (by omega))
                have h3 := val_inv h2
                have : vs = #[.int .i64 n] := by
                  apply Array.ext
                  · simpa using h1
                  · intro i hi hi'
                    have : i = 0 := by omega
                    subst this
                    simpa using h3
                rw [this]
          subst hue
          have hxr := ext_rekind (hx1.trans hx2) hk (Nat.le_refl _)
          have hsr := hst2.rekind hk
          have hko : (S2.rekind S.w.heap.size).k S.w.heap.size = .obj := upd_same _ _ _
          have hne : ∀ i, i < (S2.rekind S.w.heap.size).no → (S2.rekind S.w.heap.size).o i ≠ S.w.heap.size := fun i hi he => by
            have := hst2.kind (i := i) hi
            have he' : S2.o i = S.w.heap.size := he
            rw [he', hk] at this
            cases this
          have hsa := hsr.addObj (b := S.w.heap.size) (ob := .cells [.val (.int .i64 0)]) hko ⟨_, _, hb, Rels.cons (.val _) (.nil _)⟩ hne
          have hxa := hxr.trans (ext_addObj (S2.rekind S.w.heap.size) S.w.heap.size)
          have hno : S2.no = st'.mem.length := hst2.no
          have hob : ((S2.rekind S.w.heap.size).addObj S.w.heap.size).o st'.mem.length = S.w.heap.size := by
            rw [← hno]; exact upd_same _ _ _
          have hp : VRel ((S2.rekind S.w.heap.size).addObj S.w.heap.size) (.ptr st'.mem.length 0) (.pointer (some ⟨S.w.heap.size, 0, none⟩)) := by
            have := VRel.ptr (S := (S2.rekind S.w.heap.size).addObj S.w.heap.size) st'.mem.length 0 (by rw [← hno]; exact Nat.lt_succ_self _)
            rw [hob] at this
            exact this
          refine leaves_cons (by simp) (hinv2 _ _) ?_
          refine (closure_hit (n := n) (Q := fun e s => e = .ret (.tuple []) ∧ s = { st' with mem := st'.mem ++ [.cells [.val (.int .i64 n)]] }) ⟨rfl, rfl⟩ hsa _ hp).mono ?_
          rintro e1 u1 w1 ⟨rfl, S4, ea, s4, rfl, hx4, hs4, he4, rfl, rfl⟩
          cases e1 with
          | panicked c => exact he4.elim
          | outgrown => exact he4.elim
          | returned u4 =>
            have ho4 : S4.o st'.mem.length = S.w.heap.size := (hx4.wk.o st'.mem.length (by rw [← hno]; exact Nat.lt_succ_self _)).trans hob
            obtain ⟨hk4, hor⟩ := hs4.obj st'.mem.length (.cells [.val (.int .i64 n)]) (by simp)
            obtain ⟨vs4, e4, hb4, hr4⟩ := hor
            rw [ho4] at hb4
            have hv4 : vs4 = #[.int .i64 n] := by
              obtain ⟨y, ys, h1, h2, h3⟩ := hr4.inv
              rw [h3.inv_nil, val_inv h2] at h1
              exact Array.ext' h1
            subst hv4
            have hl := hld _ _ _ _ hb4
            simp [Leaves, settle, results, Tryz.results132, asAddr, hl]
            have hn0 : S.no ≤ st'.mem.length := by rw [← hno]; exact (hx1.trans hx2).wk.no
            have hr0 : S.nr ≤ st'.rows.length := by rw [← hst2.nr]; exact (hx1.trans hx2).wk.nr
            exact ⟨S4.cut st'.mem.length st'.rows.length, rfl, ext_cut (hxa.trans hx4) hn0 hr0, stOk_cut hst2 hs4 (cut_same (by simp) (by simp)), .val _⟩
      · cases hx

theorem goodB_of {P : Program} {f : FuncId} {args : List AV} {st st' : St} {e : AEnd} (h : Good P f args st e st') (hc : callable P f) {S : Sit} (hst : StOk S st) {vs : Array Value} (hr : Rels S args vs.toList) : GoodB P f args st e st' := by
  rcases h with h | ⟨r, _, h⟩
  · exact h
  · obtain ⟨v, S', hrun, _⟩ := h S vs hst hr
    rw [run_callFunc hc] at hrun
    cases hrun
def callB (P : Program) (f : FuncId) : Bool := match P.funcs[f]? with | some fn => nameOk fn && !fn.body.isNone | none => false
theorem callB_ok {P : Program} {f : FuncId} (h : callB P f = true) : callable P f := by
  unfold callB at h
  split at h
  · rename_i fn hf
    rw [Bool.and_eq_true] at h
    exact ⟨fn, hf, by simpa [nameOk] using h.1, by simpa using h.2⟩
  · cases h
/-- tree.caught. -/
def caughtF (P : Program) : Evl → List AV → St → Option (AEnd × St)
  | E, [.func (.func g) first cap], st => bif callB P g then match E g (first ++ cap) st with
    | some (e, st') => match caughtEnd e with
      | some x => some (.ret x, st')
      | none => none
    | none => none
    else none
  | _, _, _ => none
theorem caught_good {g : FuncId} {first cap : List AV} {st st' : St} {e : AEnd} (hc : callable Tryz.prog g) (hg : Good Tryz.prog g (first ++ cap) st e st') {x : AV} (hx : caughtEnd e = some x) : Good Tryz.prog 132 [.func (.func g) first cap] st (.ret x) st' := by
  refine .inl ⟨⟨_, Tryz.func132, rfl, rfl⟩, fun S vs hst hr => ?_⟩
  obtain ⟨u, us, h1, h2, h3⟩ := hr.inv
  rw [h3.inv_nil] at h1
  have hv : vs = #[u] := Array.ext' h1
  subst hv
  cases h2 with
  | func _ _ _ us ws l1 l2 r1 r2 =>
    have hR : Rels S (first ++ cap) (us ++ ws).toList := by
      have q1 : Rels S first us.toList := ⟨by simpa using l1, fun j b u hb hu => r1 j b u hb (by simpa using hu)⟩
      have q2 : Rels S cap ws.toList := ⟨by simpa using l2, fun j b u hb hu => r2 j b u hb (by simpa using hu)⟩
      simpa using q1.append q2
    exact caught_run (goodB_of hg hc hst hR) hx hst us ws hR
theorem caughtF_ok (E : Evl) (hE : Sound Tryz.prog E) (args : List AV) (st : St) (e : AEnd) (st' : St) (h : caughtF Tryz.prog E args st = some (e, st')) : Good Tryz.prog 132 args st e st' := by
  unfold caughtF at h
  split at h
  · rename_i g first cap
    cases hc : callB Tryz.prog g with
    | false => rw [hc] at h; cases h
    | true =>
      rw [hc] at h
      simp only [cond_true] at h
      split at h
      · rename_i e0 s0 he
        split at h
        · rename_i x hx
          cases h
          exact caught_good (callB_ok hc) (hE _ _ _ _ _ he) hx
        · cases h
      · cases h
  · cases h
end Go.Proofs.YtknocbhocdenoaaGreatDoor
