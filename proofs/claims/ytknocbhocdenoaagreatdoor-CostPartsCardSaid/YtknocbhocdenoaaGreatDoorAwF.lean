/- Structs and rows that are put together; a row that is added to. -/
import Derived.Test.YtknocbhocdenoaaGreatDoorAwE
import Derived.Deep.Upon
namespace Go.Proofs.YtknocbhocdenoaaGreatDoor
open Go Go.RowKit

/-! ### Putting together -/
theorem splice_length {α : Type} (cs : List α) (o : Nat) (vs : List α) (h : o + vs.length ≤ cs.length) : (splice cs o vs).length = cs.length := by
  simp [splice]; omega
theorem splice_cons {α : Type} (cs : List α) (o : Nat) (v : α) (vs : List α) (h : o < cs.length) : splice (cs.set o v) (o + 1) vs = splice cs o (v :: vs) := by
  unfold splice
  apply List.ext_getElem?
  intro j
  have h1 : (List.take (o + 1) (cs.set o v)) = cs.take o ++ [v] := by
    apply List.ext_getElem?
    intro i
    rw [List.getElem?_take, List.getElem?_set, List.getElem?_append]
    simp only [List.length_take, List.getElem?_take]
    by_cases hi : i < o
    · rw [if_pos (by omega), if_neg (by omega), if_pos (by omega), if_pos hi]
    · by_cases hio : i = o
      · subst hio
        have : min i cs.length = i := by omega
        rw [if_pos (by omega), if_pos rfl, if_pos h, if_neg (by omega), this]; simp
      · have : min o cs.length = o := by omega
        rw [if_neg (by omega), if_neg (by omega), this, List.getElem?_eq_none (by simp; omega)]
  have h2 : (cs.set o v).drop (o + 1 + vs.length) = cs.drop (o + (v :: vs).length) := by
    apply List.ext_getElem?
    intro i
    rw [List.getElem?_drop, List.getElem?_drop, List.getElem?_set, if_neg (by omega)]
    congr 1
    simp; omega
  rw [h1, h2]
  simp
theorem fold_splice (off : Nat) : ∀ (l : List Value) (k : Nat) (cells : Array Value), off + k + l.length ≤ cells.size →
    (l.zipIdx k).foldl (fun (cs : Array Value) (x : Value × Nat) => cs.setIfInBounds (off + x.2) x.1) cells = (splice cells.toList (off + k) l).toArray
  | [], k, cells, _ => by simp [splice]
  | v :: l, k, cells, h => by
    simp only [List.length_cons] at h
    rw [List.zipIdx_cons, List.foldl_cons, fold_splice off l (k + 1) _ (by simp; omega)]
    congr 1
    have : (cells.setIfInBounds (off + k) v).toList = cells.toList.set (off + k) v := by simp
    rw [this]
    have := splice_cons cells.toList (off + k) v l (by simp; omega)
    rw [← this]
    rfl

def fillA (place : Nat → Option (Nat × Nat)) (cells : List AV) : List (Nat × AV) → Option (List AV)
  | [] => some cells
  | (i, v) :: rest =>
    match place i with
    | none => none
    | some (off, size) => if v.cells.length = size ∧ off + size ≤ cells.length ∧ v.cells.all AV.scalar = true then fillA place (splice cells off v.cells) rest else none
/-- Parts and their values. -/
def Parts (S : Sit) (ps : List (Nat × AV)) (qs : List (Nat × Value)) : Prop := qs.length = ps.length ∧ ∀ (j : Nat) p q, ps[j]? = some p → qs[j]? = some q → q.1 = p.1 ∧ VRel S p.2 q.2
theorem Parts.inv {S : Sit} {p : Nat × AV} {ps : List (Nat × AV)} {qs : List (Nat × Value)} (h : Parts S (p :: ps) qs) : ∃ v r, qs = (p.1, v) :: r ∧ VRel S p.2 v ∧ Parts S ps r := by
  cases qs with
  | nil => have := h.1; simp at this
  | cons q r =>
    obtain ⟨e, hv⟩ := h.2 0 p q rfl rfl
    obtain ⟨q1, q2⟩ := q
    simp only at e hv
    subst e
    exact ⟨q2, r, rfl, hv, by have := h.1; simpa using this, fun j a b ha hb => h.2 (j + 1) a b (by simpa using ha) (by simpa using hb)⟩
theorem fillA_ok {S : Sit} {place : Nat → Option (Nat × Nat)} : ∀ {ps : List (Nat × AV)} {qs : List (Nat × Value)} {cells r : List AV} {vs : Array Value}, fillA place cells ps = some r → Parts S ps qs → Rels S cells vs.toList →
    ∃ ws : Array Value, Instr.fill place vs qs = some ws ∧ Rels S r ws.toList
  | [], qs, cells, r, vs, h, hp, hr => by
    have : qs = [] := by have := hp.1; simpa using this
    subst this
    cases h
    exact ⟨vs, rfl, hr⟩
  | (i, a) :: ps, qs, cells, r, vs, h, hp, hr => by
    obtain ⟨v, qr, rfl, hv, hp'⟩ := hp.inv
    simp only [fillA] at h
    split at h
    · cases h
    · rename_i off size hpl
      split at h
      · rename_i hc
        obtain ⟨h1, h2, h3⟩ := hc
        obtain ⟨hR, _⟩ := cells_rel h3 hv
        have hsz : v.cells.size = size := by rw [← h1, ← hR.1]; simp
        have hvs : vs.size = cells.length := by have := hr.1; simpa using this
        obtain ⟨ws, hw, hrw⟩ := fillA_ok (vs := (splice vs.toList off v.cells.toList).toArray) h hp' (by simpa using hr.splice hR off)
        refine ⟨ws, ?_, hrw⟩
        have hfold : Array.foldl (fun (cs : Array Value) (x : Value × Nat) => cs.setIfInBounds (off + x.2) x.1) vs v.cells.zipIdx = (splice vs.toList off v.cells.toList).toArray := by
          have := fold_splice off v.cells.toList 0 vs (by simp; omega)
          rw [← Array.foldl_toList]
          simpa using this
        simp only [Instr.fill, hpl]
        have hcond : (v.cells.size ≠ size || off + v.cells.size > vs.size) = false := by
          simp [hsz]; omega
        rw [hcond]
        simp only [Bool.false_eq_true, if_false]
        rw [← hw]
        congr 1
      · cases h

def partsEv (fr : Fr) (parts : Array (Nat × Operand)) : Option (List (Nat × AV)) := parts.toList.mapM fun (i, x) => match fr.ev x with | .v a => some (i, a) | _ => none
theorem partsEv_ok {B : Nat} {S : Sit} {β : Nat → Nat} {fr : Fr} {a : Act} (h : FrOk B S β fr a) : ∀ {l : List (Nat × Operand)} {ps : List (Nat × AV)}, (l.mapM fun (i, x) => match fr.ev x with | .v a => some (i, a) | _ => none : Option (List (Nat × AV))) = some ps →
    Parts S ps (l.map fun (i, x) => (i, a.eval x))
  | [], ps, he => by simp at he; subst he; exact ⟨rfl, fun j p q hp => by simp at hp⟩
  | (i, x) :: l, ps, he => by
    rw [List.mapM_cons] at he
    simp only [Option.bind_eq_bind, Option.pure_def, Option.bind_eq_some_iff] at he
    obtain ⟨p, hp, ps', hps, e⟩ := he
    cases e
    have ih := partsEv_ok h hps
    have hx := h.ev x
    split at hp
    · rename_i av hav
      cases hp
      rw [hav] at hx
      refine ⟨by simp [ih.1], fun j p q hp hq => ?_⟩
      cases j with
      | zero => simp at hp hq; subst hp; subst hq; exact ⟨rfl, hx⟩
      | succ j => simp at hp hq; exact ih.2 j p q hp (by simpa using hq)
    · cases hp

def placesF (P : Program) (t : TypeId) : Option (Array (Nat × Nat)) :=
  match P.underlying t with
  | some (.struct fs) => pureRun P (fs.mapM fun f => do pure (f.offset, ← sizeOf f.type))
  | _ => none
def buildF (P : Program) (t : TypeId) (parts : Array (Nat × Operand)) (fr : Fr) : Option AV :=
  match placesF P t, zeroF P t, partsEv fr parts with
  | some pl, some z, some ps => (fillA (fun i => pl[i]?) z ps).map .agg
  | _, _, _ => none
theorem build_ok {P : Program} {o : Oper} {t : TypeId} {parts : Array (Nat × Operand)} (ho : o.op = .build t parts) {fr : Fr} {st : St} {r : AV} (h : buildF P t parts fr = some r) : OpOk P o fr st (.v r) fr st := by
  refine OpOk.value fun S0 S β a hi => ?_
  unfold buildF at h
  split at h
  · rename_i pl z ps hpl hz hps
    rw [Option.map_eq_some_iff] at h
    obtain ⟨cs, hf, rfl⟩ := h
    obtain ⟨zv, rfl, hzr⟩ := zeroF_run hz
    unfold placesF at hpl
    split at hpl
    · rename_i fs hu
      have hplr := pureRun_run hpl S.w
      obtain ⟨ws, hw, hr⟩ := fillA_ok (vs := zv.cells) hf (partsEv_ok hi.fr hps) (of1_rels S _)
      refine ⟨.agg ws, ?_, .agg _ _ (by simpa using hr.1) (fun j b u hb hu => hr.2 j b u hb (by simpa using hu))⟩
      have hpt : (parts.map fun x => (x.1, a.eval x.2)).toList = List.map (fun x => (x.1, a.eval x.2)) parts.toList := by simp
      simp only [execOp, ho, Instr.build, Sem.run_bind, hzr, run_underlying hu, Result.andThen_ok, hplr, Sem.run_pure, hpt]
      have hw' : Instr.fill (fun x => pl[x]?) zv.cells (List.map (fun x => (x.1, a.eval x.2)) parts.toList) = some ws := hw
      rw [hw']
      rfl
    · cases hpl
  · cases h

def buildSliceF (P : Program) (t : TypeId) (len : Nat) (parts : Array (Nat × Operand)) (fr : Fr) : Option AV :=
  match elemOfF P t, partsEv fr parts with
  | some (none, sz), some ps => if len * sz ≤ 16777216 then (fillA (fun i => some (i * sz, sz)) (List.replicate (len * sz) .undef) ps).map fun cs => .slice .ro cs len else none
  | _, _ => none
theorem zero_run {P : Program} {e : TypeId} {i : TypeInfo} {z : Value} (hi : P.info? e = some i) (hz : i.zero = some z) (w : World) : (zeroValue e).run P w = .ok z w := by simp [zeroValue, run_info hi, hz]
theorem buildSlice_ok {P : Program} {o : Oper} {t : TypeId} {len : Nat} {parts : Array (Nat × Operand)} (ho : o.op = .buildSlice t len parts) {fr : Fr} {st : St} {r : AV} (h : buildSliceF P t len parts fr = some r)
    (hzz : ∀ e i, P.underlying t = some (.slice e) → P.info? e = some i → i.zero.isSome = true) : OpOk P o fr st (.v r) fr st := by
  intro S0 S β a hi
  unfold buildSliceF at h
  split at h
  · rename_i sz ps he hps
    split at h
    · rename_i hle
      rw [Option.map_eq_some_iff] at h
      obtain ⟨cs, hf, rfl⟩ := h
      unfold elemOfF at he
      split at he
      · rename_i e hu
        split at he
        · rename_i inf hinf
          cases he
          obtain ⟨z, hz⟩ := Option.isSome_iff_exists.1 (hzz e inf hu hinf)
          have hzr := fun w => zero_run (P := P) hinf hz w
          obtain ⟨zs, hzs⟩ : ∃ zs : Array Value, (len * inf.size = 0 ∧ zs = #[]) ∨ (len * inf.size ≠ 0 ∧ zs = z.cells) := by
            by_cases h0 : len * inf.size = 0
            · exact ⟨#[], .inl ⟨h0, rfl⟩⟩
            · exact ⟨z.cells, .inr ⟨h0, rfl⟩⟩
          obtain ⟨ws, hw, hr⟩ := fillA_ok (S := S) (vs := (Array.range (len * inf.size)).map (zs[· % zs.size]!)) hf (partsEv_ok hi.fr hps)
            ⟨by simp, fun j b u hb _ => by rw [List.getElem?_replicate] at hb; split at hb <;> cases hb; exact .undef _⟩
          have hpt : (parts.map fun x => (x.1, a.eval x.2)).toList = List.map (fun x => (x.1, a.eval x.2)) parts.toList := by simp
          have hw' : Instr.fill (fun i => some (i * inf.size, inf.size)) ((Array.range (len * inf.size)).map (zs[· % zs.size]!)) (List.map (fun x => (x.1, a.eval x.2)) parts.toList) = some ws := hw
          have hng : ¬ (len * inf.size > 2 ^ 24) := by simpa using hle
          refine ⟨.value (.slice (some ⟨S.w.heap.size, 0, none⟩) len len), S.new (.cells ws e) .fixed, β, ?_, .inl ⟨_, rfl, ?_⟩, inv_new hi _ _, .inr (.inl ⟨ext_new S _ _, by simp [isLS, ho], by simp [stillK, quietK, isLoad, ho]⟩), fun _ _ => rfl⟩
          · simp only [execOp, ho, Instr.buildSlice, Sem.run_bind, run_underlying hu, run_size hinf, Result.andThen_ok, if_neg hng, hpt]
            rcases hzs with ⟨h0, rfl⟩ | ⟨h0, rfl⟩
            · simp only [if_pos h0, Sem.run_bind, Sem.run_pure, Result.andThen_ok]
              rw [hw']
              simp [newRow, newObj, Sem.run, Sit.new]
            · simp only [if_neg h0, Sem.run_bind, Sem.run_pure, Result.andThen_ok, hzr]
              rw [hw']
              simp [newRow, newObj, Sem.run, Sit.new]
          · exact .slice _ _ _ ⟨S.w.heap.size, 0, none⟩ len ws.toList (by intro h; cases h) (Nat.le_refl _) hr.1 (fun j u hj => stable_new S _ e j u hj) (hr.mono (ext_new S _ _).wk).2 (fun r hr => by cases hr)
        · cases he
      · split at he <;> cases he
      · cases he
    · cases h
  · cases h

/-! ### Adding to a row -/
def appI (P : Program) (t tx : TypeId) : Option (Nat × Nat) :=
  match P.underlying t, P.underlying tx with
  | some (.slice e), some (.slice _) => match P.info? e with
    | some i => if i.zero.map (fun z => z.cells.size) = some i.size ∧ 0 < i.size then some (i.size, i.bytes) else none
    | none => none
  | _, _ => none
theorem appI_inv {P : Program} {t tx : TypeId} {sz by_ : Nat} (h : appI P t tx = some (sz, by_)) : ∃ e e' i, P.underlying t = some (.slice e) ∧ P.underlying tx = some (.slice e') ∧ P.info? e = some i ∧ i.zero.map (fun z => z.cells.size) = some i.size ∧ 0 < i.size ∧ i.size = sz ∧ i.bytes = by_ := by
  unfold appI at h
  split at h
  · rename_i e e' hu hux
    split at h
    · rename_i i hinf
      split at h
      · rename_i hc
        cases h
        exact ⟨e, e', i, hu, hux, hinf, hc.1, hc.2, rfl, rfl⟩
      · cases h
    · cases h
  · cases h
def appendF (P : Program) (t tx : TypeId) (s x : AV) (st : St) : Option (AV × St) :=
  match appI P t tx, s, x with
  | some (sz, by_), .slice own cells n, .slice _ news m =>
      if cells.length = n * sz ∧ news.length = m * sz ∧ news.all AV.scalar = true ∧ (n + m) * by_ ≤ 140737488355328 ∧ n + m ≤ maxLen then
        match own with
        | .nil => if m = 0 then some (.slice .nil [] 0, st) else some (.slice (.row st.rows.length) news m, { st with rows := st.rows ++ [some news.length] })
        | .row r => if 0 < n ∧ st.rows[r]? = some (some cells.length) then some (.slice (.row st.rows.length) (cells ++ news) (n + m), { st with rows := st.rows.set r none ++ [some (cells.length + news.length)] }) else none
        | .ro => none
      else none
  | _, _, _ => none
end Go.Proofs.YtknocbhocdenoaaGreatDoor
