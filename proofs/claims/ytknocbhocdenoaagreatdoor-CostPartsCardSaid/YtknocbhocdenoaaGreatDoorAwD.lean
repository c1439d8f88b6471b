/- Loads, stores, addresses of fields and elements, new variables: each abstract step is what the model's operation does. -/
import Derived.Test.YtknocbhocdenoaaGreatDoorAwC
namespace Go.Proofs.YtknocbhocdenoaaGreatDoor
open Go Go.RowKit

/-- A type's make: is it a struct or an array; how many cells. -/
def shp (P : Program) (t : TypeId) : Option (Bool × Nat) :=
  match P.underlying t, P.info? t with
  | some d, some i => some (match d with | .struct _ | .array _ _ => true | _ => false, i.size)
  | _, _ => none

def ld (P : Program) (t : TypeId) (cs : List AV) (off : Nat) : Option AV :=
  match shp P t with
  | some (true, n) => if off + n ≤ cs.length then some (.agg ((cs.drop off).take n)) else none
  | some (false, _) => cs[off]?
  | none => none

theorem run_info {P : Program} {t : TypeId} {i : TypeInfo} (h : P.info? t = some i) (w : World) : (typeInfo t).run P w = .ok i w := by
  simp [typeInfo, program, Sem.run, h]
theorem run_size {P : Program} {t : TypeId} {i : TypeInfo} (h : P.info? t = some i) (w : World) : (sizeOf t).run P w = .ok i.size w := by
  simp [sizeOf, run_info h]
theorem shp_inv {P : Program} {t : TypeId} {g : Bool} {n : Nat} (h : shp P t = some (g, n)) : ∃ d i, P.underlying t = some d ∧ P.info? t = some i ∧ i.size = n ∧ g = (match d with | .struct _ | .array _ _ => true | _ => false) := by
  unfold shp at h
  split at h
  · rename_i d i hd hi
    simp only [Option.some.injEq, Prod.mk.injEq] at h
    exact ⟨d, i, hd, hi, h.2, h.1.symm⟩
  · cases h
theorem run_isAgg {P : Program} {t : TypeId} {g : Bool} {n : Nat} (h : shp P t = some (g, n)) (w : World) : (isAgg t).run P w = .ok g w := by
  obtain ⟨d, i, hd, hi, hn, hg⟩ := shp_inv h
  simp only [isAgg, Sem.run_bind, run_underlying hd, Result.andThen_ok]
  cases d <;> simp at hg <;> subst hg <;> rfl

theorem addr_add_add (a : Addr) (m n : Nat) : (a.add m).add n = a.add (m + n) := Addr.add_add a m n
theorem addr_zero_add (b n : Nat) : (⟨b, 0, none⟩ : Addr).add n = ⟨b, n, none⟩ := by rw [Addr.add_lit]; simp

/-- A variable that is read: in every world that has its cells. -/
theorem load_runs {P : Program} {S : Sit} {t : TypeId} {cs : List AV} {off : Nat} {a : AV} (h : ld P t cs off = some a) {us : List Value} (hr : Rels S cs us) (ad : Addr) :
    ∃ v, VRel S a v ∧ ∀ w : World, (∀ j u, us[j]? = some u → w.cell? (ad.add j) = some u) → (loadVar t (ad.add off)).run P w = .ok v w := by
  unfold ld at h
  split at h
  · rename_i n hs
    split at h
    · rename_i hle
      cases h
      obtain ⟨d, i, hd, hi, hn, hg⟩ := shp_inv hs
      have hlen : ((us.drop off).take n).length = n := by simp; have := hr.1; omega
      refine ⟨.agg ((us.drop off).take n).toArray, ?_, fun w hc => ?_⟩
      · have := (hr.drop off).take n
        exact .agg _ _ (by simpa using this.1) (fun j b u hb hu => this.2 j b u hb (by simpa using hu))
      · have hl := run_loadCells_list (P := P) w (ad.add off) ((us.drop off).take n) (fun j v hj => by
          rw [List.getElem?_take] at hj
          split at hj
          · rw [List.getElem?_drop] at hj
            rw [addr_add_add]; exact hc _ _ hj
          · cases hj)
        rw [hlen] at hl
        simp only [loadVar, Sem.run_bind, run_isAgg hs, Result.andThen_ok, if_true, run_size hi, hn, hl, Sem.run_pure]
    · cases h
  · rename_i n hs
    obtain ⟨u, hu, hv⟩ := hr.get h
    refine ⟨u, hv, fun w hc => ?_⟩
    simp only [loadVar, Sem.run_bind, run_isAgg hs, Result.andThen_ok, Bool.false_eq_true, if_false, run_load, hc off u hu]
  · cases h
theorem load_run {P : Program} {S : Sit} {t : TypeId} {cs : List AV} {off : Nat} {a : AV} (h : ld P t cs off = some a) {ad : Addr} {us : List Value} (hr : Rels S cs us)
    (hc : ∀ j u, us[j]? = some u → S.w.cell? (ad.add j) = some u) : ∃ v, (loadVar t (ad.add off)).run P S.w = .ok v S.w ∧ VRel S a v := by
  obtain ⟨v, h1, h2⟩ := load_runs (P := P) h hr ad
  exact ⟨v, h2 _ hc, h1⟩

/-! ### Pointers -/
def Tv.addP : Tv → Nat → Option Tv
  | .l x o, n => some (.l x (o + n))
  | .v (.ptr i o), n => some (.v (.ptr i (o + n)))
  | .v (.rptr cs o), n => some (.v (.rptr cs (o + n)))
  | _, _ => none
theorem addP_ok {β : Nat → Nat} {S : Sit} {t t' : Tv} {n : Nat} (h : t.addP n = some t') {v : Value} (hr : TRel β S t v) : ∃ ad, v = .pointer (some ad) ∧ TRel β S t' (.pointer (some (ad.add n))) := by
  unfold Tv.addP at h
  split at h
  · cases h; cases hr; exact ⟨_, rfl, by show _ = _; rw [Addr.add_lit]⟩
  · cases h; cases hr with | ptr i o hi => exact ⟨_, rfl, by rw [Addr.add_lit]; exact .ptr _ _ hi⟩
  · cases h; cases hr with | rptr cs o ad us hl hs hrr => exact ⟨_, rfl, by rw [addr_add_add]; exact .rptr _ _ _ us hl hs hrr⟩
  · cases h

def loadF (P : Program) (t : TypeId) (p : Tv) (fr : Fr) (st : St) : Option AV :=
  match p with
  | .l x off => match lookB fr.boxes x with | some cs => ld P t cs off | none => none
  | .v (.ptr i off) => match st.mem[i]? with | some (.cells cs) => ld P t cs off | _ => none
  | .v (.rptr cs off) => ld P t cs off
  | _ => none
theorem loadF_ok {P : Program} {t : TypeId} {p : Tv} {fr : Fr} {st : St} {r : AV} (h : loadF P t p fr st = some r) {S0 S : Sit} {β : Nat → Nat} {a : Act} (hi : Inv S0 S β fr st a) {v : Value} (hp : TRel β S p v) :
    ∃ u, (Instr.loadAt t v).run P S.w = .ok u S.w ∧ VRel S r u := by
  unfold loadF at h
  split at h
  · rename_i x off
    split at h
    · rename_i cs hb
      cases hp
      obtain ⟨_, _, vs, e, hh, hrr⟩ := hi.fr.box x cs hb
      obtain ⟨u, hu, hru⟩ := load_run (P := P) (S := S) h (ad := ⟨β x, 0, none⟩) hrr (fun j u hj => by rw [addr_zero_add, cell_of_row _ _ _ _ _ _ hh]; simpa using hj)
      rw [addr_zero_add] at hu
      exact ⟨u, by simpa [Instr.loadAt, Instr.sureAddr] using hu, hru⟩
    · cases h
  · rename_i i off
    split at h
    · rename_i cs hm
      cases hp with
      | ptr _ _ hlt =>
        obtain ⟨hk, vs, e, hh, hrr⟩ := hi.st.obj i _ hm
        obtain ⟨u, hu, hru⟩ := load_run (P := P) (S := S) h (ad := ⟨S.o i, 0, none⟩) hrr (fun j u hj => by rw [addr_zero_add, cell_of_row _ _ _ _ _ _ hh]; simpa using hj)
        rw [addr_zero_add] at hu
        exact ⟨u, by simpa [Instr.loadAt, Instr.sureAddr] using hu, hru⟩
    · cases h
  · rename_i cs off
    cases hp with
    | rptr _ _ ad us hl hs hrr =>
      obtain ⟨u, hu, hru⟩ := load_run (P := P) (S := S) h (ad := ad) ⟨hl, hrr⟩ (fun j u hj => (hs j u hj).1)
      exact ⟨u, by simpa [Instr.loadAt, Instr.sureAddr] using hu, hru⟩
  · cases h

/-- A load: the same wherever that variable, that object, those cells are as they are. -/
theorem loadF_still {P : Program} {t : TypeId} {p : Tv} {fr : Fr} {st : St} {r : AV} (h : loadF P t p fr st = some r) {S0 S : Sit} {β : Nat → Nat} {a : Act} (hi : Inv S0 S β fr st a) {v : Value} (hp : TRel β S p v) :
    ∃ u, VRel S r u ∧ ∀ w : World, (∀ ad x, Stable S ad x → w.cell? ad = some x) → (∀ x off, p = .l x off → w.heap[β x]? = S.w.heap[β x]?) → (∀ i off, p = .v (.ptr i off) → i < S.no → w.heap[S.o i]? = S.w.heap[S.o i]?) → (Instr.loadAt t v).run P w = .ok u w := by
  unfold loadF at h
  split at h
  · rename_i x off
    split at h
    · rename_i cs hb
      cases hp
      obtain ⟨_, _, vs, e, hh, hrr⟩ := hi.fr.box x cs hb
      obtain ⟨u, hru, hu⟩ := load_runs (P := P) (S := S) h hrr ⟨β x, 0, none⟩
      refine ⟨u, hru, fun w _ hw _ => ?_⟩
      have := hu w (fun j u hj => by rw [addr_zero_add, cell_of_row _ _ _ _ _ _ ((hw x off rfl).trans hh)]; simpa using hj)
      rw [addr_zero_add] at this
      simpa [Instr.loadAt, Instr.sureAddr] using this
    · cases h
  · rename_i i off
    split at h
    · rename_i cs hm
      cases hp with
      | ptr _ _ hlt =>
        obtain ⟨hk, vs, e, hh, hrr⟩ := hi.st.obj i _ hm
        obtain ⟨u, hru, hu⟩ := load_runs (P := P) (S := S) h hrr ⟨S.o i, 0, none⟩
        refine ⟨u, hru, fun w _ _ hw => ?_⟩
        have := hu w (fun j u hj => by rw [addr_zero_add, cell_of_row _ _ _ _ _ _ ((hw i off rfl hlt).trans hh)]; simpa using hj)
        rw [addr_zero_add] at this
        simpa [Instr.loadAt, Instr.sureAddr] using this
    · cases h
  · rename_i cs off
    cases hp with
    | rptr _ _ ad us hl hs hrr =>
      obtain ⟨u, hru, hu⟩ := load_runs (P := P) (S := S) h ⟨hl, hrr⟩ ad
      refine ⟨u, hru, fun w hw _ _ => ?_⟩
      have := hu w (fun j u hj => hw _ _ (hs j u hj))
      simpa [Instr.loadAt, Instr.sureAddr] using this
  · cases h

/-! ### Stores -/
def splice {α : Type} (cs : List α) (o : Nat) (vs : List α) : List α := cs.take o ++ vs ++ cs.drop (o + vs.length)
theorem Rels.splice {S : Sit} {cs ds : List AV} {us vs : List Value} (h : Rels S cs us) (g : Rels S ds vs) (o : Nat) : Rels S (splice cs o ds) (Proofs.YtknocbhocdenoaaGreatDoor.splice us o vs) := by
  unfold Proofs.YtknocbhocdenoaaGreatDoor.splice
  rw [g.1]
  exact ((h.take o).append g).append (h.drop _)
def AV.scalar : AV → Bool
  | .undef | .agg _ | .tuple _ => false
  | .val v => v.oneCell'
  | _ => true
theorem scalar_one {S : Sit} {a : AV} (h : a.scalar = true) {u : Value} (hr : VRel S a u) : u.oneCell' = true := by
  cases hr <;> first | rfl | exact h | cases h
def AV.cells : AV → List AV
  | .agg cs => cs
  | a => [a]
theorem cells_rel {S : Sit} {a : AV} (hs : a.cells.all AV.scalar = true) {u : Value} (hr : VRel S a u) : Rels S a.cells u.cells.toList ∧ ∀ v ∈ u.cells.toList, v.oneCell' = true := by
  have key : ∀ {as : List AV} {vs : List Value}, as.all AV.scalar = true → Rels S as vs → ∀ v ∈ vs, v.oneCell' = true := by
    intro as vs ha hrr v hv
    obtain ⟨j, hj⟩ := List.mem_iff_getElem?.1 hv
    have hlt : j < as.length := by rw [← hrr.1]; exact (List.getElem?_eq_some_iff.1 hj).1
    have h1 := List.getElem?_eq_getElem hlt
    exact scalar_one (List.all_eq_true.1 ha _ (List.mem_iff_getElem?.2 ⟨j, h1⟩)) (hrr.2 j _ v h1 hj)
  have one : ∀ {a : AV} {u : Value}, a.scalar = true → VRel S a u → a.cells = [a] ∧ u.cells = #[u] := by
    intro a u ha hr
    cases hr <;> first | exact ⟨rfl, rfl⟩ | cases ha | skip
    rename_i v
    cases u <;> first | exact ⟨rfl, rfl⟩ | cases ha
  cases a with
  | agg cs =>
    cases hr with
    | agg _ vs hl hrr =>
      have hR : Rels S cs vs.toList := ⟨by simpa using hl, fun j b v hb hv => hrr j b v hb (by simpa using hv)⟩
      exact ⟨hR, key hs hR⟩
  | _ =>
    all_goals
      have hs' := hs
      simp only [AV.cells, List.all_cons, List.all_nil, Bool.and_true] at hs'
      obtain ⟨h1, h2⟩ := one hs' hr
      rw [h1, h2]
      refine ⟨Rels.cons hr (Rels.nil S), fun v hv => ?_⟩
      simp at hv
      subst hv
      exact scalar_one hs' hr

def setB (x : Nat) (cs : List AV) : List (Nat × List AV) → List (Nat × List AV)
  | [] => []
  | (k, d) :: r => bif k == x then (k, cs) :: r else (k, d) :: setB x cs r
theorem lookB_setB (x : Nat) (cs : List AV) (bs : List (Nat × List AV)) (y : Nat) : lookB (setB x cs bs) y = if y = x then (lookB bs x).map (fun _ => cs) else lookB bs y := by
  induction bs with
  | nil => simp [setB, lookB]
  | cons p r ih =>
    obtain ⟨k, d⟩ := p
    by_cases hk : k = x
    · subst hk
      simp only [setB, beq_self_eq_true, cond_true, lookB_cons]
      by_cases hy : k = y
      · subst hy; simp
      · rw [if_neg hy, if_neg (Ne.symm hy), if_neg hy]
    · have e : setB x cs ((k, d) :: r) = (k, d) :: setB x cs r := by rw [setB, beq_eq_false_iff_ne.2 hk]; rfl
      rw [e, lookB_cons, ih, lookB_cons, lookB_cons, if_neg hk]
      by_cases hy : k = y
      · subst hy; rw [if_pos rfl, if_neg hk, if_pos rfl]
      · rw [if_neg hy, if_neg hy]

def storeF (P : Program) (t : TypeId) (p : Tv) (x : Tv) (fr : Fr) (st : St) : Option (Fr × St) :=
  match x, shp P t with
  | .v a, some (_, n) =>
    if a.cells.length = n ∧ a.cells.all AV.scalar = true then
      match p with
      | .l y off => match lookB fr.boxes y with
        | some cs => if off + n ≤ cs.length then some ({ fr with boxes := setB y (splice cs off a.cells) fr.boxes }, st) else none
        | none => none
      | .v (.ptr i off) => match st.mem[i]? with
        | some (.cells cs) => if off + n ≤ cs.length then some (fr, { st with mem := st.mem.set i (.cells (splice cs off a.cells)) }) else none
        | _ => none
      | _ => none
    else none
  | _, _ => none

theorem setRow_other (w : World) (g : Nat) (cs : Array Value) (i : Nat) (h : i ≠ g) : (w.setRow g cs).heap[i]? = w.heap[i]? := by
  simp only [World.setRow, Array.getElem?_modify]; rw [if_neg (Ne.symm h)]
theorem setRow_size (w : World) (g : Nat) (cs : Array Value) : (w.setRow g cs).heap.size = w.heap.size := by simp [World.setRow]

theorem store_run {P : Program} {w : World} {t : TypeId} {g : Bool} {n : Nat} (hs : shp P t = some (g, n)) {b off : Nat} {cur : Array Value} {e : TypeId} (hh : w.heap[b]? = some (.cells cur e (0, 0))) {v : Value}
    (hl : v.cells.toList.length = n) (h1 : ∀ u ∈ v.cells.toList, u.oneCell' = true) (hfit : off + n ≤ cur.size) :
    (Instr.storeAt t (.pointer (some ⟨b, off, none⟩)) v).run P w = .ok () (w.setRow b (splice cur.toList off v.cells.toList).toArray) := by
  obtain ⟨d, i, hd, hi, hn, hg⟩ := shp_inv hs
  have hst := run_storeCells_at P b off e v.cells.toList 0 cur w hh (by rw [hl]; simpa using hfit) h1
  have hsz : v.cells.size = i.size := by rw [hn, ← hl]; simp
  simp only [Instr.storeAt, Instr.sureAddr, storeVar, Sem.run_bind, Sem.run_pure, Result.andThen_ok, run_size hi, Sem.run_ite, hsz]
  simp only [Nat.add_zero] at hst
  simpa [splice] using hst

theorem storeF_ok {P : Program} {t : TypeId} {p x : Tv} {fr fr' : Fr} {st st' : St} (h : storeF P t p x fr st = some (fr', st')) {S0 S : Sit} {β : Nat → Nat} {a : Act} (hi : Inv S0 S β fr st a) {v u : Value} (hp : TRel β S p v) (hx : TRel β S x u) :
    ∃ S', (Instr.storeAt t v u).run P S.w = .ok () S'.w ∧ Inv S0 S' β fr' st' a ∧ ((Ext S S' ∧ ∀ x off, p ≠ .l x off) ∨ ∃ x off, p = .l x off ∧ Wk S S' ∧ S'.k = S.k ∧ S'.o = S.o ∧ S.w.heap.size ≤ S'.w.heap.size ∧ ∀ b, b ≠ β x → S'.w.heap[b]? = S.w.heap[b]?) := by
  unfold storeF at h
  split at h
  · rename_i av g n hs
    split at h
    · rename_i hc
      obtain ⟨hcl, hca⟩ := hc
      obtain ⟨hR, hone⟩ := cells_rel hca (show VRel S av u from hx)
      have hlen : u.cells.toList.length = n := by rw [hR.1]; exact hcl
      split at h
      · rename_i y off
        split at h
        · rename_i cs hb
          split at h
          · rename_i hfit
            cases h
            cases hp
            obtain ⟨hB, hk, vs, e, hh, hrr⟩ := hi.fr.box y cs hb
            have hfit' : off + n ≤ vs.size := by have := hrr.1; simp at this; omega
            have hrun := store_run (P := P) hs hh hlen hone hfit'
            have hoth : ∀ i, i ≠ β y → (S.w.setRow (β y) (splice vs.toList off u.cells.toList).toArray).heap[i]? = S.w.heap[i]? := fun i hne => setRow_other _ _ _ _ hne
            refine ⟨S.onW (S.w.setRow (β y) (splice vs.toList off u.cells.toList).toArray), hrun, ⟨ext_touch hi.ext (.inr ⟨hk, hB⟩) hoth (setRow_size _ _ _) rfl rfl rfl, hi.st.touchPriv hk hoth (setRow_size _ _ _), ?_⟩, .inr ⟨y, off, rfl, wk_touch S (.inr hk) hoth, rfl, rfl, Nat.le_of_eq (setRow_size _ _ _).symm, hoth⟩⟩
            have hw := wk_touch S (.inr hk) hoth
            refine ⟨hi.fr.size, fun s => (hi.fr.tmp s).mono hw, fun z ds hz => ?_, fun z z' ds ds' hz hz' he => ?_, hi.fr.defers⟩
            · rw [lookB_setB] at hz
              by_cases hzy : z = y
              · subst hzy
                rw [if_pos rfl, hb] at hz
                simp at hz
                subst hz
                exact ⟨hB, hk, (splice vs.toList off u.cells.toList).toArray, e, setRow_heap _ _ _ _ _ _ hh, (hrr.splice hR off).mono hw⟩
              · rw [if_neg hzy] at hz
                obtain ⟨g1, g2, ws, e', g3, g4⟩ := hi.fr.box z ds hz
                have hne : β z ≠ β y := fun he => hzy (hi.fr.inj z y ds cs hz hb he)
                exact ⟨g1, g2, ws, e', (hoth _ hne).trans g3, g4.mono hw⟩
            · have back : ∀ z ds, lookB (setB y (splice cs off av.cells) fr.boxes) z = some ds → ∃ ds', lookB fr.boxes z = some ds' := by
                intro z ds hz
                rw [lookB_setB] at hz
                split at hz
                · rename_i e; subst e; exact ⟨cs, hb⟩
                · exact ⟨ds, hz⟩
              obtain ⟨d1, h1⟩ := back z ds hz
              obtain ⟨d2, h2⟩ := back z' ds' hz'
              exact hi.fr.inj z z' d1 d2 h1 h2 he
          · cases h
        · cases h
      · rename_i i off
        split at h
        · rename_i cs hm
          split at h
          · rename_i hfit
            cases h
            cases hp with
            | ptr _ _ hlt =>
              obtain ⟨hk, vs, e, hh, hrr⟩ := hi.st.obj i _ hm
              have hfit' : off + n ≤ vs.size := by have := hrr.1; simp at this; omega
              have hrun := store_run (P := P) hs hh hlen hone hfit'
              have hoth : ∀ j, j ≠ S.o i → (S.w.setRow (S.o i) (splice vs.toList off u.cells.toList).toArray).heap[j]? = S.w.heap[j]? := fun j hne => setRow_other _ _ _ _ hne
              have hw := wk_touch S (.inl hk) hoth
              refine ⟨S.onW (S.w.setRow (S.o i) (splice vs.toList off u.cells.toList).toArray), hrun, ⟨ext_touch hi.ext (.inl hk) hoth (setRow_size _ _ _) rfl rfl rfl,
                hi.st.touchObj hlt hoth (setRow_size _ _ _) ⟨_, e, setRow_heap _ _ _ _ _ _ hh, (hrr.splice hR off).mono hw⟩, ?_⟩, .inl ⟨ext_touch (.refl S) (.inl hk) hoth (setRow_size _ _ _) rfl rfl rfl, fun x off h => by cases h⟩⟩
              refine hi.fr.mono hw fun z ds hz => ⟨hoth _ fun he => ?_, rfl⟩
              have := (hi.fr.box z ds hz).2.1
              rw [he, hk] at this
              cases this
          · cases h
        · cases h
      · cases h
    · cases h
  · cases h
end Go.Proofs.YtknocbhocdenoaaGreatDoor
