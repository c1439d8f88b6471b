/- Each operation of the abstract machine is what the model's operation does. -/
import Derived.Test.YtknocbhocdenoaaGreatDoorAwJ
import Derived.Laws.MakeOwn
namespace Go.Proofs.YtknocbhocdenoaaGreatDoor
open Go Go.RowKit

theorem vrel_ev {B : Nat} {S : Sit} {β : Nat → Nat} {fr : Fr} {a : Act} (h : FrOk B S β fr a) {x : Operand} {v : AV} (hx : fr.ev x = .v v) : VRel S v (a.eval x) := by
  have := h.ev x
  rw [hx] at this
  exact this

theorem builtin_ok {P : Program} {b : Builtin} {ts : Array TypeId} {xs : Array Operand} {o : Oper} (ho : o.op = .call { callee := .builtin b, args := xs, argTypes := ts }) {fr : Fr} {st st' : St} {l : List AV} {r : AV}
    (hl : listEv fr xs = some l) (h : builtinF P b ts l st = some (r, st')) : OpOk P o fr st (.v r) fr st' := by
  intro S0 S β a hi
  have hR := listEv_ok hi.fr (a := a) hl
  have hmap : (xs.map a.eval).toList = xs.toList.map a.eval := by simp
  unfold builtinF at h
  split at h
  · rename_i t x hts
    rw [Option.map_eq_some_iff] at h
    obtain ⟨r', hr', e⟩ := h
    cases e
    obtain ⟨u, us, hus, h1, h2⟩ := hR.inv
    have := h2.inv_nil
    subst this
    obtain ⟨v, hv, hrv⟩ := len_run (P := P) (ty := o.type) hr' h1
    refine ⟨.value v, S, β, ?_, .inl ⟨v, rfl, hrv⟩, hi, .inl rfl, fun _ _ => rfl⟩
    have hxs : xs.map a.eval = #[u] := by apply Array.ext'; rw [hmap, hus]
    have hts' : ts = #[t] := by apply Array.ext'; rw [hts]
    simp [execOp, ho, resolve, invoke, builtin, hxs, hts', hv]
  · rename_i k1 n1 k2 n2
    cases h
    obtain ⟨u, us, hus, h1, h2⟩ := hR.inv
    obtain ⟨u2, us2, hus2, h3, h4⟩ := h2.inv
    have := h4.inv_nil
    subst this; subst hus2
    have e1 := val_inv h1
    have e2 := val_inv h3
    subst e1; subst e2
    refine ⟨_, S, β, ?_, .inl ⟨_, rfl, .val _⟩, hi, .inl rfl, fun _ _ => rfl⟩
    have hxs : xs.map a.eval = #[.int k1 n1, .int k2 n2] := by apply Array.ext'; rw [hmap, hus]
    simp [execOp, ho, resolve, invoke, builtin, hxs, Builtin.min_, Builtin.min2]
  · rename_i k1 n1 k2 n2
    cases h
    obtain ⟨u, us, hus, h1, h2⟩ := hR.inv
    obtain ⟨u2, us2, hus2, h3, h4⟩ := h2.inv
    have := h4.inv_nil
    subst this; subst hus2
    have e1 := val_inv h1
    have e2 := val_inv h3
    subst e1; subst e2
    refine ⟨_, S, β, ?_, .inl ⟨_, rfl, .val _⟩, hi, .inl rfl, fun _ _ => rfl⟩
    have hxs : xs.map a.eval = #[.int k1 n1, .int k2 n2] := by apply Array.ext'; rw [hmap, hus]
    simp [execOp, ho, resolve, invoke, builtin, hxs, Builtin.max_, Builtin.max2]
  · rename_i t tx s x hts
    obtain ⟨u, us, hus, h1, h2⟩ := hR.inv
    obtain ⟨u2, us2, hus2, h3, h4⟩ := h2.inv
    have := h4.inv_nil
    subst this; subst hus2
    obtain ⟨S', v, hv, hrv, hi', hxs⟩ := append_ok (P := P) (ty := o.type) h hi h1 h3
    refine ⟨.value v, S', β, ?_, .inl ⟨v, rfl, hrv⟩, hi', .inr (.inl ⟨hxs, by simp [isLS, ho], by simp [stillK, quietK, isLoad, ho]⟩), fun _ _ => rfl⟩
    have hxs : xs.map a.eval = #[u, u2] := by apply Array.ext'; rw [hmap, hus]
    have hts' : ts = #[t, tx] := by apply Array.ext'; rw [hts]
    simp [execOp, ho, resolve, invoke, builtin, hxs, hts', hv]
  · cases h

theorem repC_get (z : List AV) : ∀ (n j : Nat), (repC z n)[j]? = if j < n * z.length then z[j % z.length]? else none
  | 0, j => by simp [repC]
  | n + 1, j => by
    by_cases hj : j < z.length
    · rw [repC, List.getElem?_append_left hj, Nat.mod_eq_of_lt hj, if_pos]
      rw [Nat.add_mul]; omega
    · rw [repC, List.getElem?_append_right (by omega), repC_get z n]
      by_cases h : j - z.length < n * z.length
      · rw [if_pos h, if_pos (by rw [Nat.add_mul]; omega)]
        congr 1
        exact (Nat.mod_eq_sub_mod (by omega)).symm
      · rw [if_neg h, if_neg (by rw [Nat.add_mul]; omega)]
theorem repC_length (z : List AV) : ∀ n, (repC z n).length = n * z.length
  | 0 => by simp [repC]
  | n + 1 => by rw [repC, List.length_append, repC_length z n, Nat.add_mul]; omega
theorem made_rels (S : Sit) (zs : Array Value) (n : Nat) : Rels S (repC (zs.toList.map AV.of1) n) (madeCells zs (n * zs.size)).toList := by
  refine ⟨by simp [repC_length, size_madeCells], fun j a u ha hu => ?_⟩
  rw [repC_get] at ha
  simp only [List.length_map, Array.length_toList] at ha
  split at ha
  · rename_i hj
    have hpos : 0 < zs.size := by
      rcases Nat.eq_zero_or_pos zs.size with h0 | h0
      · rw [h0] at hj; omega
      · exact h0
    have hm : j % zs.size < zs.size := Nat.mod_lt _ hpos
    rw [List.getElem?_map] at ha
    simp only [madeCells, Array.toList_map, Array.toList_range, List.getElem?_map] at hu
    rw [List.getElem?_range hj] at hu
    simp only [Option.map_some, Option.some.injEq] at hu
    rw [getElem!_pos zs _ hm] at hu
    rw [Array.getElem?_toList, Array.getElem?_eq_getElem hm] at ha
    simp only [Option.map_some, Option.some.injEq] at ha
    subst hu; subst ha
    exact of1_rel S _
  · cases ha
theorem makeF_ok {P : Program} {o : Oper} {t : TypeId} {l c : Operand} (ho : o.op = .makeSlice t l c) {fr : Fr} {st st' : St} {k k' : IntKind} {n m : Int} {r : AV} (hl : fr.ev l = .v (.val (.int k n))) (hc : fr.ev c = .v (.val (.int k' m))) (h : makeF P t n m st = some (r, st')) : OpOk P o fr st (.v r) fr st' := by
  intro S0 S β a hi
  unfold makeF at h
  split at h
  · rename_i z by_ hz
    split at h
    · rename_i hb
      obtain ⟨b1, b2, b3, b4⟩ := hb
      cases h
      unfold makeI at hz
      split at hz
      · rename_i e hu
        split at hz
        · rename_i i hinf
          split at hz
          · rename_i zv hzv
            split at hz
            · rename_i hsz
              cases hz
              have el := val_inv (vrel_ev hi.fr hl)
              have ec := val_inv (vrel_ev hi.fr hc)
              have hrun := run_make (P := P) S.w t e i zv hu hinf hzv k k' n m b1 b2 b3 b4
              have hx := ext_new S (.cells (madeCells zv.cells (m.toNat * i.size)) e) .obj
              refine ⟨_, (S.new (.cells (madeCells zv.cells (m.toNat * i.size)) e) .obj).addObj S.w.heap.size, β, by simp only [execOp, ho, el, ec, Sem.run_bind, hrun, Result.andThen_ok, Sem.run_pure]; rfl, .inl ⟨_, rfl, ?_⟩,
                inv_obj hi _ ⟨_, e, S.new_heap _ _, ?_⟩, .inr (.inl ⟨hx.trans (ext_addObj _ _), by simp [isLS, ho], by simp [stillK, quietK, isLoad, ho]⟩), fun _ _ => rfl⟩
              · have := VRel.osl (S := (S.new (.cells (madeCells zv.cells (m.toNat * i.size)) e) .obj).addObj S.w.heap.size) S.no 0 n.toNat m.toNat (by simp [Sit.addObj, Sit.new])
                rw [addObj_o] at this
                rw [← hi.st.no]
                exact this
              · rw [← hsz]
                exact (made_rels S zv.cells m.toNat).mono (ext_new S _ _).wk
            · cases hz
          · cases hz
        · cases hz
      · cases hz
    · cases h
  · cases h

theorem vrel_of {β : Nat → Nat} {S : Sit} {a : AV} {v : Value} (h : TRel β S (.v a) v) : VRel S a v := h
theorem opF_quiet {P : Program} {o : Oper} {fr fr' : Fr} {st st' : St} {tv : Tv} (hq : quietK o = true) (h : opF P o fr st = some (tv, fr', st')) : fr' = fr ∧ st' = st ∧ Qt P o fr tv := by
  unfold opF at h
  split at h
  · rename_i x ho
    cases h
    exact ⟨rfl, rfl, fun B S β a hi => ⟨a.eval x, fun w => by simp [execOp, ho], hi.ev x⟩⟩
  · rename_i x ho
    cases h
    exact ⟨rfl, rfl, fun B S β a hi => ⟨a.eval x, fun w => by simp [execOp, ho], hi.ev x⟩⟩
  · rename_i c x y ho
    split at h
    · rename_i t hc
      cases h
      refine ⟨rfl, rfl, fun B S β a hi => ⟨if t then a.eval x else a.eval y, fun w => ?_, pickT_rel t (hi.ev x) (hi.ev y)⟩⟩
      have e := val_inv (vrel_ev hi hc)
      simp only [execOp, ho, Sem.run_bind]
      rw [e]
      cases t <;> simp [asBool]
    · cases h
  · rename_i e ho
    simp [quietK, ho] at hq
  · rename_i e x ho
    simp [quietK, ho] at hq
  · rename_i t parts ho
    simp [quietK, ho] at hq
  · rename_i t len parts ho
    simp [quietK, ho] at hq
  · rename_i t p ho
    simp [quietK, ho] at hq
  · rename_i t p x ho
    simp [quietK, ho] at hq
  · rename_i x ho
    have fin : ∀ (t : Tv), fr.ev x = t → (∀ (S : Sit) (β : Nat → Nat) (v : Value), TRel β S t v → ∃ ad, v = .pointer (some ad)) → Qt P o fr t := fun t ht hp => by
      refine fun B S β a hi => ⟨a.eval x, fun w => ?_, ht ▸ hi.ev x⟩
      obtain ⟨ad, hv⟩ := hp S β (a.eval x) (ht ▸ hi.ev x)
      simp only [execOp, ho]
      rw [hv]; rfl
    split at h
    · rename_i y off hx
      cases h
      exact ⟨rfl, rfl, fin _ hx fun S β v hv => ⟨_, hv⟩⟩
    · rename_i i off hx
      cases h
      exact ⟨rfl, rfl, fin _ hx fun S β v hv => by cases hv; exact ⟨_, rfl⟩⟩
    · rename_i cs off hx
      cases h
      exact ⟨rfl, rfl, fin _ hx fun S β v hv => by cases hv; exact ⟨_, rfl⟩⟩
    · cases h
  · rename_i op t x y ty ho
    split at h
    · rename_i a b ha hb
      split at h
      · rename_i r hr
        cases h
        exact ⟨rfl, rfl, bin_ok ho ha hb hr⟩
      · split at h
        · rename_i v hv
          cases h
          exact ⟨rfl, rfl, groundF_ok hv⟩
        · cases h
    · cases h
  · rename_i op t x ho
    split at h
    · rename_i b hx
      cases h
      refine ⟨rfl, rfl, fun B S β a hi => ⟨_, fun w => ?_, .val _⟩⟩
      have e := val_inv (vrel_ev hi hx)
      simp only [execOp, ho]
      rw [e]; rfl
    · rename_i k n hx
      cases h
      refine ⟨rfl, rfl, fun B S β a hi => ⟨_, fun w => ?_, .val _⟩⟩
      have e := val_inv (vrel_ev hi hx)
      simp only [execOp, ho]
      rw [e]; rfl
    · cases h
  · rename_i src dst x ho
    split at h
    · rename_i k n k0 k' hx hk0 hk
      cases h
      refine ⟨rfl, rfl, fun B S β a hi => ⟨_, fun w => ?_, .val _⟩⟩
      have e := val_inv (vrel_ev hi hx)
      unfold intK at hk hk0
      split at hk
      · rename_i kk hu
        cases hk
        split at hk0
        · rename_i kk0 hu0
          simp [execOp, ho, e, convert, run_underlying hu, run_underlying hu0, Conv.intToInt]
        · cases hk0
      · cases hk
    · cases h
  · rename_i t x ho
    split at h
    · rename_i av hx
      split at h
      · rename_i hc
        cases h
        refine ⟨rfl, rfl, fun B S β a hi => ⟨_, fun w => ?_, .iface _ _ _ (vrel_ev hi hx)⟩⟩
        simp [execOp, ho, run_makeInterface w t (a.eval x) hc]
      · cases h
    · cases h
  · rename_i fn first cap ho
    split at h
    · rename_i f c hf hc
      cases h
      refine ⟨rfl, rfl, fun B S β a hi => ⟨.func fn (first.map a.eval) (cap.map a.eval), fun w => by simp [execOp, ho, Instr.makeFunc], ?_⟩⟩
      have r1 := listEv_ok hi (a := a) hf
      have r2 := listEv_ok hi (a := a) hc
      exact .func _ _ _ _ _ (by simpa using r1.1) (by simpa using r2.1) (fun j b u hb hu => r1.2 j b u hb (by simpa using hu)) (fun j b u hb hu => r2.2 j b u hb (by simpa using hu))
    · cases h
  · rename_i t ho
    simp [quietK, ho] at hq
  · rename_i t l c ho
    simp [quietK, ho] at hq
  · rename_i t x lo hi' ho
    split at h
    · rename_i av l hh hx hl hhh
      split at h
      · rename_i r hr; cases h; exact ⟨rfl, rfl, slice_ok ho hx hl hhh hr⟩
      · cases h
    · cases h
  · rename_i s x f ho
    split at h
    · rename_i n hn
      split at h
      · rename_i t ht; cases h; exact ⟨rfl, rfl, fieldAddr_ok ho hn ht⟩
      · cases h
    · cases h
  · rename_i s x f ho
    split at h
    · rename_i av hx
      split at h
      · rename_i r hr; cases h; exact ⟨rfl, rfl, field_ok ho hx hr⟩
      · cases h
    · cases h
  · rename_i t x i ho
    split at h
    · rename_i r hr; cases h; exact ⟨rfl, rfl, indexAddr_ok ho hr⟩
    · cases h
  · rename_i t x i ho
    simp [quietK, ho] at hq
  · rename_i t m k ok ho
    simp [quietK, ho] at hq
  · rename_i t m k x ho
    simp [quietK, ho] at hq
  · rename_i x xt t ok ho
    simp [quietK, ho] at hq
  · rename_i t i ho
    split at h
    · rename_i vs hx
      split at h
      · rename_i r hr
        cases h
        refine ⟨rfl, rfl, fun B S β a hi => ?_⟩
        have hv := vrel_ev hi hx
        have ex : execOp a.eval o = (do pure (.value (← Instr.extract (a.eval t) i))) := by simp [execOp, ho]
        rw [ex]
        generalize a.eval t = vt at hv
        cases hv with
        | tuple _ us hl hrr =>
          have hR : Rels S vs us.toList := ⟨by simpa using hl, fun j b u hb hu => hrr j b u hb (by simpa using hu)⟩
          obtain ⟨u, hu, hru⟩ := hR.get hr
          have hu' : us[i]? = some u := by simpa using hu
          exact ⟨u, fun w => by simp [Instr.extract, hu'], hru⟩
      · cases h
    · cases h
  · rename_i b xs ts ho
    split at h
    · rename_i l hl
      split at h
      · rename_i r s' hr
        cases h
        have hbl : b = .len := by
          unfold quietK at hq
          rw [ho] at hq
          cases b <;> first | rfl | simp at hq
        subst hbl
        unfold builtinF at hr
        split at hr
        · rename_i t x hbb hts
          rw [Option.map_eq_some_iff] at hr
          obtain ⟨r', hr', e⟩ := hr
          cases e
          refine ⟨rfl, rfl, fun B S β a hi => ?_⟩
          have hR := listEv_ok hi (a := a) hl
          have hmap : (xs.map a.eval).toList = xs.toList.map a.eval := by simp
          obtain ⟨u, us, hus, h1, h2⟩ := hR.inv
          have := h2.inv_nil
          subst this
          obtain ⟨v, hv, hrv⟩ := len_run (P := P) (ty := o.type) hr' h1
          refine ⟨v, fun w => ?_, hrv⟩
          have hxs : xs.map a.eval = #[u] := by apply Array.ext'; rw [hmap, hus]
          have hts' : ts = #[t] := by apply Array.ext'; rw [hts]
          simp [execOp, ho, resolve, invoke, builtin, hxs, hts', hv]
        all_goals first | (rename_i hb; cases hb; done) | (rename_i hb _; cases hb; done) | (cases hr; done) | contradiction
      · cases h
    · cases h
  · split at h
    · rename_i v hv; cases h; exact ⟨rfl, rfl, groundF_ok hv⟩
    · cases h

theorem opF_ok {P : Program} {o : Oper} {fr fr' : Fr} {st st' : St} {tv : Tv} (h : opF P o fr st = some (tv, fr', st')) : OpOk P o fr st tv fr' st' := by
  by_cases hq : quietK o = true
  · obtain ⟨rfl, rfl, hQ⟩ := opF_quiet hq h
    exact hQ.ok _
  unfold opF at h
  split at h
  · rename_i x ho
    exact absurd (by simp [quietK, ho]) hq
  · rename_i x ho
    exact absurd (by simp [quietK, ho]) hq
  · rename_i c x y ho
    exact absurd (by simp [quietK, ho]) hq
  · rename_i e ho
    exact allocF_ok ho h
  · rename_i e x ho
    exact boxF_ok ho h
  · rename_i t parts ho
    split at h
    · rename_i r hr; cases h; exact build_ok ho hr
    · cases h
  · rename_i t len parts ho
    split at h
    · rename_i hz
      split at h
      · rename_i r hr
        cases h
        refine buildSlice_ok ho hr fun e i hu hi => ?_
        unfold zeroOk at hz
        rw [hu] at hz
        simp only [hi] at hz
        exact hz
      · cases h
    · cases h
  · rename_i t p ho
    split at h
    · rename_i r hr
      cases h
      refine OpOk.value fun S0 S β a hi => ?_
      obtain ⟨u, hu, hru⟩ := loadF_ok hr hi (hi.fr.ev p)
      exact ⟨u, by simp [execOp, ho, hu], hru⟩
    · split at h
      · rename_i r hr
        cases h
        unfold globF at hr
        split at hr
        · split at hr
          · rename_i hs
            cases hr
            refine OpOk.value fun S0 S β a hi => ⟨errV, ?_, .iface _ _ _ (.agg _ _ rfl fun j b u hb hu => ?_)⟩
            · have hl : (loadVar t ⟨0, 0, none⟩).run P S.w = .ok errV S.w := by
                simp only [loadVar, Sem.run_bind, run_isAgg hs, Result.andThen_ok, Bool.false_eq_true, if_false, run_load, hi.st.glob.1]
              simp [execOp, ho, Act.eval, Instr.loadAt, Instr.sureAddr, hl]
            · cases j with
              | zero => cases hb; cases hu; exact .val _
              | succ j => simp at hb
          · cases hr
        · cases hr
      · cases h
  · rename_i t p x ho
    split at h
    · rename_i f' s' hr
      cases h
      intro S0 S β a hi
      obtain ⟨S', hu, hi', hstep⟩ := storeF_ok hr hi (hi.fr.ev p) (hi.fr.ev x)
      exact ⟨.skip, S', β, by simp [execOp, ho, hu], .inr ⟨rfl, rfl⟩, hi', (hstep.elim (fun h => .inr (.inl ⟨h.1, by
        unfold isLS; rw [ho]
        cases hq : fr.ev p with
        | l x off => exact absurd hq (h.2 x off)
        | _ => simp [hq], by simp [stillK, quietK, isLoad, ho]⟩)) fun ⟨y, off, hp, h1⟩ => .inr (.inr ⟨t, p, x, y, off, ho, hp, h1⟩)), fun _ _ => rfl⟩
    · cases h
  · rename_i x ho
    exact absurd (by simp [quietK, ho]) hq
  · rename_i op t x y ty ho
    exact absurd (by simp [quietK, ho]) hq
  · rename_i op t x ho
    exact absurd (by simp [quietK, ho]) hq
  · rename_i src dst x ho
    exact absurd (by simp [quietK, ho]) hq
  · rename_i t x ho
    exact absurd (by simp [quietK, ho]) hq
  · rename_i fn first cap ho
    exact absurd (by simp [quietK, ho]) hq
  · rename_i t ho
    cases h
    intro S0 S β a hi
    have hx := ext_new S (.map #[] 0) .obj
    refine ⟨.value (.map (some S.w.heap.size)), (S.new (.map #[] 0) .obj).addObj S.w.heap.size, β, by simp [execOp, ho, Instr.makeMap, newObj, Sem.run, Sit.addObj, Sit.new], .inl ⟨_, rfl, ?_⟩, inv_obj hi _ ⟨#[], 0, S.new_heap _ _, rfl, fun j kv en h1 => by simp at h1⟩, .inr (.inl ⟨(ext_new S _ _).trans (ext_addObj _ _), by simp [isLS, ho], by simp [stillK, quietK, isLoad, ho]⟩), fun _ _ => rfl⟩
    have := VRel.map (S := (S.new (.map #[] 0) .obj).addObj S.w.heap.size) S.no (by simp [Sit.addObj, Sit.new])
    rw [addObj_o] at this
    rw [← hi.st.no]
    exact this
  · rename_i t l c ho
    split at h
    · rename_i k n k' m hl hc
      split at h
      · rename_i r st1 hr; cases h; exact makeF_ok ho hl hc hr
      · cases h
    · cases h
  · rename_i t x lo hi' ho
    exact absurd (by simp [quietK, ho]) hq
  · rename_i s x f ho
    exact absurd (by simp [quietK, ho]) hq
  · rename_i s x f ho
    exact absurd (by simp [quietK, ho]) hq
  · rename_i t x i ho
    exact absurd (by simp [quietK, ho]) hq
  · rename_i t x i ho
    split at h
    · rename_i av bv hx hi'
      split at h
      · rename_i r hr; cases h; exact index_ok ho hx hi' hr
      · cases h
    · cases h
  · rename_i t m k ok ho
    split at h
    · rename_i av bv hx hi'
      split at h
      · rename_i r hr; cases h; exact lookup_ok ho hx hi' hr
      · cases h
    · cases h
  · rename_i t m k x ho
    split at h
    · rename_i av bv cv ha hb hc
      split at h
      · rename_i s' hr
        cases h
        intro S0 S β a hi
        obtain ⟨S', hu, hi', hxs⟩ := mapSet_ok hr hi (vrel_ev hi.fr ha) (vrel_ev hi.fr hb) (vrel_ev hi.fr hc)
        exact ⟨.skip, S', β, by simp [execOp, ho, hu], .inr ⟨rfl, rfl⟩, hi', .inr (.inl ⟨hxs, by simp [isLS, ho], by simp [stillK, quietK, isLoad, ho]⟩), fun _ _ => rfl⟩
      · cases h
    · cases h
  · rename_i x xt t ok ho
    split at h
    · rename_i av hx
      split at h
      · rename_i r hr; cases h; exact assert_ok ho hx hr
      · cases h
    · cases h
  · rename_i t i ho
    exact absurd (by simp [quietK, ho]) hq
  · rename_i b xs ts ho
    split at h
    · rename_i l hl
      split at h
      · rename_i r s' hr; cases h; exact builtin_ok ho hl hr
      · cases h
    · cases h
  · split at h
    · rename_i v hv; cases h; exact (groundF_ok hv).ok st
    · cases h
end Go.Proofs.YtknocbhocdenoaaGreatDoor
