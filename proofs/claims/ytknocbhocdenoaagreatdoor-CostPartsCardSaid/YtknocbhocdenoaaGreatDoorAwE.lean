/- New variables, addresses of elements and fields, rows that are built, added to; maps. -/
import Derived.Test.YtknocbhocdenoaaGreatDoorAwD
import Derived.Deep.AppendSrc
namespace Go.Proofs.YtknocbhocdenoaaGreatDoor
open Go Go.RowKit

theorem val_inv {S : Sit} {v u : Value} (h : VRel S (.val v) u) : u = v := by cases h; rfl

/-! ### New variables -/
def zeroF (P : Program) (e : TypeId) : Option (List AV) :=
  match P.info? e with
  | some i => match i.zero with
    | some z => some (z.cells.toList.map AV.of1)
    | none => none
  | none => none
def Fr.newBox (fr : Fr) (d : Nat) (cs : List AV) : Fr := { fr with tmps := dropL d fr.tmps, boxes := (d, cs) :: fr.boxes }

theorem inv_local {S0 S : Sit} {β : Nat → Nat} {fr : Fr} {st : St} {a : Act} (hi : Inv S0 S β fr st a) {cs : List AV} {vs : Array Value} (hr : Rels S cs vs.toList) (e : TypeId) (d : Nat) :
    Inv S0 (S.new (.cells vs e) .priv) (upd β d S.w.heap.size) (fr.newBox d cs) st a := by
  have hx := ext_new S (.cells vs e) .priv
  refine ⟨hi.ext.trans hx, hi.st.new _ _, hi.fr.size, fun t => ?_, fun x ds hb => ?_, fun x y ds ds' h1 h2 he => ?_, hi.fr.defers⟩
  · show TRel _ _ (look (dropL d fr.tmps) t) _
    rw [look_dropL]
    exact not_rel ((hi.fr.tmp t).mono hx.wk) _
  · simp only [Fr.newBox, lookB_cons] at hb
    split at hb
    · rename_i hd
      cases hb; subst hd
      rw [upd_same]
      exact ⟨hi.ext.size, S.new_kind _ _, vs, e, S.new_heap _ _, hr.mono hx.wk⟩
    · rename_i hd
      rw [upd_other _ _ (Ne.symm hd)]
      have hlt := hi.fr.lt hb
      obtain ⟨g1, g2, ws, e', g3, g4⟩ := hi.fr.box x ds hb
      exact ⟨g1, by rw [S.new_kind_old _ _ hlt]; exact g2, ws, e', by rw [S.new_old _ _ hlt]; exact g3, g4.mono hx.wk⟩
  · simp only [Fr.newBox, lookB_cons] at h1 h2
    by_cases hx1 : d = x
    · by_cases hy1 : d = y
      · rw [← hx1, ← hy1]
      · rw [if_neg hy1] at h2
        subst hx1
        rw [upd_same, upd_other _ _ (Ne.symm hy1)] at he
        have := hi.fr.lt h2
        omega
    · rw [if_neg hx1] at h1
      by_cases hy1 : d = y
      · subst hy1
        rw [upd_same, upd_other _ _ (Ne.symm hx1)] at he
        have := hi.fr.lt h1
        omega
      · rw [if_neg hy1] at h2
        rw [upd_other _ _ (Ne.symm hx1), upd_other _ _ (Ne.symm hy1)] at he
        exact hi.fr.inj x y ds ds' h1 h2 he

theorem inv_obj {S0 S : Sit} {β : Nat → Nat} {fr : Fr} {st : St} {a : Act} (hi : Inv S0 S β fr st a) (o : Obj) {ob : AObj} (hob : ORel (S.new o .obj) S.w.heap.size ob) :
    Inv S0 ((S.new o .obj).addObj S.w.heap.size) β fr { st with mem := st.mem ++ [ob] } a := by
  have hx := (ext_new S o .obj).trans (ext_addObj (S.new o .obj) S.w.heap.size)
  refine ⟨hi.ext.trans hx, (hi.st.new o .obj).addObj (S.new_kind _ _) hob fun i hlt he => ?_, hi.fr.ext hx⟩
  have : S.o i < S.w.heap.size := hi.st.lt hlt
  have he' : S.o i = S.w.heap.size := he
  omega
theorem addObj_o (S : Sit) (o : Obj) (κ : Kind) : ((S.new o κ).addObj S.w.heap.size).o S.no = S.w.heap.size := upd_same _ _ _

theorem inv_new {S0 S : Sit} {β : Nat → Nat} {fr : Fr} {st : St} {a : Act} (hi : Inv S0 S β fr st a) (o : Obj) (κ : Kind) : Inv S0 (S.new o κ) β fr st a :=
  ⟨hi.ext.trans (ext_new S o κ), hi.st.new o κ, hi.fr.ext (ext_new S o κ)⟩

/-- A new block all of whose cells stay as they are. -/
theorem stable_new (S : Sit) (vs : Array Value) (e : TypeId) (j : Nat) (u : Value) (h : vs.toList[j]? = some u) : Stable (S.new (.cells vs e) .fixed) ((⟨S.w.heap.size, 0, none⟩ : Addr).add j) u := by
  rw [addr_zero_add]
  refine ⟨?_, ?_⟩
  · rw [cell_of_row _ _ _ _ _ _ (S.new_heap (.cells vs e) .fixed)]; simpa using h
  · show ((S.new (.cells vs e) .fixed).k S.w.heap.size).safe _
    rw [S.new_kind]; trivial

theorem run_newVar (P : Program) (t : TypeId) (v : Value) (w : World) : (newVar t v).run P w = .ok ⟨w.heap.size, 0, none⟩ (w.alloc (.cells v.cells t)) := by
  simp [newVar, newRow, newObj, Sem.run]
theorem zeroF_run {P : Program} {e : TypeId} {cs : List AV} (h : zeroF P e = some cs) : ∃ z : Value, cs = z.cells.toList.map AV.of1 ∧ ∀ w, (zeroValue e).run P w = .ok z w := by
  unfold zeroF at h
  split at h
  · rename_i i hi
    split at h
    · rename_i z hz
      cases h
      exact ⟨z, rfl, fun w => by simp [zeroValue, run_info hi, hz]⟩
    · cases h
  · cases h

def allocF (P : Program) (o : Oper) (e : TypeId) (fr : Fr) (st : St) : Option (Tv × Fr × St) :=
  match o.dst, zeroF P e with
  | some d, some cs => bif fr.objs.contains d then some (.v (.ptr st.mem.length 0), fr, { st with mem := st.mem ++ [.cells cs] }) else some (.l d 0, fr.newBox d cs, st)
  | _, _ => none
theorem allocF_ok {P : Program} {o : Oper} {e : TypeId} (ho : o.op = .alloc e) {fr fr' : Fr} {st st' : St} {tv : Tv} (h : allocF P o e fr st = some (tv, fr', st')) : OpOk P o fr st tv fr' st' := by
  intro S0 S β a hi
  unfold allocF at h
  split at h
  · rename_i d cs hd hz
    obtain ⟨z, rfl, hzr⟩ := zeroF_run hz
    have hrun : (execOp a.eval o).run P S.w = .ok (.value (.pointer (some ⟨S.w.heap.size, 0, none⟩))) (S.w.alloc (.cells z.cells e)) := by
      simp [execOp, ho, Instr.alloc, hzr, run_newVar]
    have hr : Rels S (z.cells.toList.map AV.of1) z.cells.toList := of1_rels S _
    cases hc : fr.objs.contains d with
    | true =>
      rw [hc] at h
      cases h
      have hx := ext_new S (.cells z.cells e) .obj
      refine ⟨_, (S.new (.cells z.cells e) .obj).addObj S.w.heap.size, β, hrun, .inl ⟨_, rfl, ?_⟩, inv_obj hi _ ⟨z.cells, e, S.new_heap _ _, hr.mono hx.wk⟩, .inr (.inl ⟨hx.trans (ext_addObj _ _), by simp [isLS, ho], by simp [stillK, quietK, isLoad, ho]⟩), fun _ _ => rfl⟩
      have := VRel.ptr (S := (S.new (.cells z.cells e) .obj).addObj S.w.heap.size) S.no 0 (by simp [Sit.addObj, Sit.new])
      rw [addObj_o] at this
      rw [← hi.st.no]
      exact this
    | false =>
      rw [hc] at h
      cases h
      refine ⟨_, S.new (.cells z.cells e) .priv, upd β d S.w.heap.size, hrun, .inl ⟨_, rfl, ?_⟩, inv_local hi hr e d, .inr (.inl ⟨ext_new S _ _, by simp [isLS, ho], by simp [stillK, quietK, isLoad, ho]⟩), fun x hx => upd_other _ _ fun e => hx (by rw [hd, e])⟩
      show _ = _
      rw [upd_same]
  · cases h

def boxF (o : Oper) (x : Tv) (fr : Fr) (st : St) : Option (Tv × Fr × St) :=
  match o.dst, x with
  | some d, .v a =>
    if a.cells.all AV.scalar = true then
      bif fr.froz.contains d then some (.v (.rptr a.cells 0), fr, st)
      else bif fr.objs.contains d then some (.v (.ptr st.mem.length 0), fr, { st with mem := st.mem ++ [.cells a.cells] })
      else some (.l d 0, fr.newBox d a.cells, st)
    else none
  | _, _ => none
theorem boxF_ok {P : Program} {o : Oper} {e : TypeId} {x : Operand} (ho : o.op = .box e x) {fr fr' : Fr} {st st' : St} {tv : Tv} (h : boxF o (fr.ev x) fr st = some (tv, fr', st')) : OpOk P o fr st tv fr' st' := by
  intro S0 S β a hi
  have hx := hi.fr.ev x
  unfold boxF at h
  split at h
  · rename_i d av hd hav
    rw [hav] at hx
    split at h
    · rename_i hs
      obtain ⟨hr, hone⟩ := cells_rel hs (show VRel S av (a.eval x) from hx)
      have hrun : (execOp a.eval o).run P S.w = .ok (.value (.pointer (some ⟨S.w.heap.size, 0, none⟩))) (S.w.alloc (.cells (a.eval x).cells e)) := by
        simp [execOp, ho, Instr.box, run_newVar]
      cases hf : fr.froz.contains d with
      | true =>
        rw [hf] at h
        cases h
        refine ⟨_, S.new (.cells (a.eval x).cells e) .fixed, β, hrun, .inl ⟨_, rfl, ?_⟩, inv_new hi _ _, .inr (.inl ⟨ext_new S _ _, by simp [isLS, ho], by simp [stillK, quietK, isLoad, ho]⟩), fun _ _ => rfl⟩
        have := VRel.rptr (S := S.new (.cells (a.eval x).cells e) .fixed) av.cells 0 ⟨S.w.heap.size, 0, none⟩ (a.eval x).cells.toList hr.1 (fun j u hj => stable_new S _ e j u hj) (hr.mono (ext_new S _ _).wk).2
        rw [addr_zero_add] at this
        exact this
      | false =>
        rw [hf] at h
        simp only [cond_false] at h
        cases hc : fr.objs.contains d with
        | true =>
          rw [hc] at h
          cases h
          have hxx := ext_new S (.cells (a.eval x).cells e) .obj
          refine ⟨_, (S.new (.cells (a.eval x).cells e) .obj).addObj S.w.heap.size, β, hrun, .inl ⟨_, rfl, ?_⟩, inv_obj hi _ ⟨(a.eval x).cells, e, S.new_heap _ _, hr.mono hxx.wk⟩, .inr (.inl ⟨hxx.trans (ext_addObj _ _), by simp [isLS, ho], by simp [stillK, quietK, isLoad, ho]⟩), fun _ _ => rfl⟩
          have := VRel.ptr (S := (S.new (.cells (a.eval x).cells e) .obj).addObj S.w.heap.size) S.no 0 (by simp [Sit.addObj, Sit.new])
          rw [addObj_o] at this
          rw [← hi.st.no]
          exact this
        | false =>
          rw [hc] at h
          cases h
          refine ⟨_, S.new (.cells (a.eval x).cells e) .priv, upd β d S.w.heap.size, hrun, .inl ⟨_, rfl, ?_⟩, inv_local hi hr e d, .inr (.inl ⟨ext_new S _ _, by simp [isLS, ho], by simp [stillK, quietK, isLoad, ho]⟩), fun x hx => upd_other _ _ fun e => hx (by rw [hd, e])⟩
          show _ = _
          rw [upd_same]
    · cases h
  · cases h

/-! ### Addresses -/
def fieldOff (P : Program) (s : TypeId) (f : Nat) : Option Nat :=
  match P.underlying s with
  | some (.struct fs) => match fs[f]? with
    | some fl => match P.info? fl.type with
      | some i => if i.size = 0 then none else some fl.offset
      | none => none
    | none => none
  | _ => none
theorem fieldAddr_ok {P : Program} {o : Oper} {s : TypeId} {x : Operand} {f n : Nat} (ho : o.op = .fieldAddr s x f) (hf : fieldOff P s f = some n) {fr : Fr} {t : Tv} (h : (fr.ev x).addP n = some t) : Qt P o fr t := by
  intro B S β a hi
  obtain ⟨ad, hv, ht⟩ := addP_ok h (hi.ev x)
  refine ⟨_, fun w => ?_, ht⟩
  unfold fieldOff at hf
  split at hf
  · rename_i fs hu
    split at hf
    · rename_i fl hfl
      split at hf
      · rename_i i hinf
        split at hf
        · cases hf
        · rename_i hne
          cases hf
          simp [execOp, ho, Instr.fieldAt, run_underlying hu, hfl, hv, Instr.sureAddr, fieldPlace, run_size hinf, hne]
      · cases hf
    · cases hf
  · cases hf

/-- A slice's or an array's type: the element's cells; of an array its length. -/
def elemOfF (P : Program) (t : TypeId) : Option (Option Nat × Nat) :=
  match P.underlying t with
  | some (.slice e) => match P.info? e with | some i => some (none, i.size) | none => none
  | some (.array n e) => match P.info? e with | some i => some (some n, i.size) | none => none
  | _ => none
def indexAddrF (P : Program) (t : TypeId) (x i : Tv) : Option Tv :=
  match i, elemOfF P t with
  | .v (.val (.int _ i)), some (none, sz) => match x with
    | .v (.slice _ cells n) => if 0 ≤ i ∧ i < n then some (.v (.rptr cells (i.toNat * sz))) else none
    | .v (.osl j off n _) => if 0 ≤ i ∧ i < n then some (.v (.ptr j (off + i.toNat * sz))) else none
    | _ => none
  | .v (.val (.int _ i)), some (some n, sz) => if 0 ≤ i ∧ i < n then x.addP (i.toNat * sz) else none
  | _, _ => none
theorem indexAddr_ok {P : Program} {o : Oper} {t : TypeId} {x i : Operand} (ho : o.op = .indexAddr t x i) {fr : Fr} {r : Tv} (h : indexAddrF P t (fr.ev x) (fr.ev i) = some r) : Qt P o fr r := by
  intro B S β a hi
  have hx := hi.ev x
  have hii := hi.ev i
  unfold indexAddrF at h
  split at h
  · rename_i k n sz hiv he
    rw [hiv] at hii
    have hie : a.eval i = .int k n := val_inv hii
    unfold elemOfF at he
    split at he
    · rename_i e hu
      split at he
      · rename_i inf hinf
        cases he
        split at h
        · rename_i own cells m hxv
          rw [hxv] at hx
          split at h
          · rename_i hb
            cases h
            generalize hxe : a.eval x = vx at hx
            cases hx with
            | nil => exact absurd hb.2 (by omega)
            | slice _ _ _ ad cap us hn hc hl hs hr hro =>
              refine ⟨_, fun w => ?_, .rptr cells _ ad us hl hs hr⟩
              simp [execOp, ho, Instr.indexAt, hie, hxe, asIntOf, run_underlying hu, hb, run_size hinf]
          · cases h
        · rename_i j off m c hxv
          rw [hxv] at hx
          split at h
          · rename_i hb
            cases h
            generalize hxe : a.eval x = vx at hx
            cases hx with
            | osl _ _ _ _ hlt =>
              refine ⟨_, fun w => ?_, .ptr j _ hlt⟩
              simp [execOp, ho, Instr.indexAt, hie, hxe, asIntOf, run_underlying hu, hb, run_size hinf, Addr.add_lit]
          · cases h
        · cases h
      · cases he
    · split at he <;> cases he
    · cases he
  · rename_i k n m sz hiv he
    rw [hiv] at hii
    have hie : a.eval i = .int k n := val_inv hii
    unfold elemOfF at he
    split at he
    · split at he <;> cases he
    · rename_i len e hu
      split at he
      · rename_i inf hinf
        cases he
        split at h
        · rename_i hb
          obtain ⟨ad, hv, ht⟩ := addP_ok h hx
          refine ⟨_, fun w => ?_, ht⟩
          simp [execOp, ho, Instr.indexAt, hie, hv, Instr.sureAddr, asIntOf, run_underlying hu, hb, run_size hinf]
        · cases h
      · cases he
    · cases he
  · cases h
end Go.Proofs.YtknocbhocdenoaaGreatDoor
