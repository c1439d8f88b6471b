/- Maps; all operations under one name. -/
import Derived.Test.YtknocbhocdenoaaGreatDoorAwI
namespace Go.Proofs.YtknocbhocdenoaaGreatDoor
open Go Go.RowKit

/-! ### Maps keyed by strings -/
def mfind (s : ByteArray) : List (ByteArray × AV) → Option AV
  | [] => none
  | (k, v) :: r => if (s == k) = true then some v else mfind s r
def mset (s : ByteArray) (x : AV) : List (ByteArray × AV) → List (ByteArray × AV)
  | [] => [(s, x)]
  | (k, v) :: r => if (s == k) = true then (s, x) :: r else (k, v) :: mset s x r
/-- Entries and what they stand for. -/
def Ents (S : Sit) (es : List (ByteArray × AV)) (ents : List MapEntry) : Prop := ents.length = es.length ∧ ∀ (j : Nat) (kv : ByteArray × AV) en, es[j]? = some kv → ents[j]? = some en → en.key = .string kv.1 ∧ VRel S kv.2 en.val
theorem Ents.inv {S : Sit} {p : ByteArray × AV} {es : List (ByteArray × AV)} {ents : List MapEntry} (h : Ents S (p :: es) ents) : ∃ e r, ents = e :: r ∧ e.key = .string p.1 ∧ VRel S p.2 e.val ∧ Ents S es r := by
  cases ents with
  | nil => have := h.1; simp at this
  | cons e r =>
    obtain ⟨h1, h2⟩ := h.2 0 p e rfl rfl
    exact ⟨e, r, rfl, h1, h2, by have := h.1; simpa using this, fun j a b ha hb => h.2 (j + 1) a b (by simpa using ha) (by simpa using hb)⟩
theorem Ents.cons {S : Sit} {k : ByteArray} {a : AV} {e : MapEntry} {es : List (ByteArray × AV)} {ents : List MapEntry} (hk : e.key = .string k) (hv : VRel S a e.val) (h : Ents S es ents) : Ents S ((k, a) :: es) (e :: ents) := by
  refine ⟨by simp [h.1], fun j kv en h1 h2 => ?_⟩
  cases j with
  | zero => simp at h1 h2; subst h1; subst h2; exact ⟨hk, hv⟩
  | succ j => simp at h1 h2; exact h.2 j kv en h1 h2
theorem Ents.mono {S S' : Sit} (hw : Wk S S') {es : List (ByteArray × AV)} {ents : List MapEntry} (h : Ents S es ents) : Ents S' es ents := ⟨h.1, fun j kv en h1 h2 => ⟨(h.2 j kv en h1 h2).1, (h.2 j kv en h1 h2).2.mono hw⟩⟩

theorem bytes_beq {s k : ByteArray} (h : (s == k) = true) : s = k := by
  rw [beq_toListBytes, ByteArray.toList_eq, ByteArray.toList_eq] at h
  have h' : s.data.toList = k.data.toList := by simpa using h
  apply ByteArray.ext
  exact Array.toList_inj.1 h'

/-- What the model's search finds; and what comes of a store there. -/
theorem find_ok {S : Sit} (s : ByteArray) : ∀ {es : List (ByteArray × AV)} {ents : List MapEntry} (i : Nat), Ents S es ents →
    (mfind s es = none ∧ Instr.findNow .string (.string s) ents i = some none ∧ ∀ x, mset s x es = es ++ [(s, x)]) ∨
    (∃ a j en, mfind s es = some a ∧ Instr.findNow .string (.string s) ents i = some (some (i + j, en.val)) ∧ ents[j]? = some en ∧ VRel S a en.val ∧ en.key = .string s ∧
      ∀ (x : AV) (u : Value) (nk : Value), nk = .string s → VRel S x u → Ents S (mset s x es) (ents.modify j fun e => { e with key := nk, val := u }))
  | [], ents, i, h => by
    have : ents = [] := by have := h.1; simpa using this
    subst this
    exact .inl ⟨rfl, rfl, fun x => rfl⟩
  | (k, v) :: es, ents, i, h => by
    obtain ⟨e, r, rfl, hk, hv, hr⟩ := h.inv
    simp only at hk hv
    cases hsk : (s == k) with
    | true =>
      right
      refine ⟨v, 0, e, by simp [mfind, hsk], by simp [Instr.findNow, Instr.sameNow, hk, hsk], rfl, hv, ?_, fun x u nk hn hx => ?_⟩
      · rw [hk, bytes_beq hsk]
      · simp only [mset, hsk, if_true, List.modify_zero_cons]
        exact Ents.cons hn hx hr
    | false =>
      rcases find_ok s (i + 1) hr with ⟨h1, h2, h3⟩ | ⟨a, j, en, h1, h2, h3, h4, h5, h6⟩
      · left
        exact ⟨by simp [mfind, hsk, h1], by simp [Instr.findNow, Instr.sameNow, hk, hsk, h2], fun x => by simp [mset, hsk, h3 x]⟩
      · right
        refine ⟨a, j + 1, en, by simp [mfind, hsk, h1], ?_, by simpa using h3, h4, h5, fun x u nk hn hx => ?_⟩
        · simp only [Instr.findNow, Instr.sameNow, hk, hsk, h2]
          congr 3
          omega
        · simp only [mset, hsk, Bool.false_eq_true, if_false, List.modify_succ_cons]
          exact Ents.cons hk hv (h6 x u nk hn hx)

/-- A map's type keyed by strings: its element's zero value. -/
def mapZ (P : Program) (t : TypeId) : Option AV :=
  match P.underlying t with
  | some (.map k e) => match P.underlying k with
    | some .string => zeroV P e
    | _ => none
  | _ => none
theorem mapZ_inv {P : Program} {t : TypeId} {z : AV} (h : mapZ P t = some z) : ∃ k e, P.underlying t = some (.map k e) ∧ P.underlying k = some .string ∧ zeroV P e = some z := by
  unfold mapZ at h
  split at h
  · rename_i k e hu
    split at h
    · rename_i hk; exact ⟨k, e, hu, hk, h⟩
    · cases h
  · cases h
theorem run_checkKey_str {P : Program} {k : TypeId} (hk : P.underlying k = some .string) (e : Bool) (s : ByteArray) (w : World) : (Instr.checkKey e 10000 k (.string s)).run P w = .ok () w := by
  have h : ∀ n : Nat, (Instr.checkKey e (n + 1) k (.string s)).run P w = .ok () w := fun n => by
    rw [Instr.checkKey]
    simp only [Sem.run_bind, run_underlying hk, Result.andThen_ok]
    rfl
  exact h 9999
def lookupF (P : Program) (t : TypeId) (m k : AV) (ok : Bool) (st : St) : Option AV :=
  match m, k, mapZ P t with
  | .map i, .val (.string s), some z =>
    match st.mem[i]? with
    | some (.map es) =>
      match mfind s es with
      | some v => some (if ok = true then .tuple [v, .val (.bool true)] else v)
      | none => some (if ok = true then .tuple [z, .val (.bool false)] else z)
    | _ => none
  | _, _, _ => none
theorem tuple2 {S : Sit} {a b : AV} {u v : Value} (h1 : VRel S a u) (h2 : VRel S b v) : VRel S (.tuple [a, b]) (.tuple #[u, v]) := by
  have := Rels.cons h1 (Rels.cons h2 (Rels.nil S))
  exact .tuple _ _ rfl (fun j b u hb hu => this.2 j b u hb (by simpa using hu))
theorem lookup_ok {P : Program} {o : Oper} {t : TypeId} {m k : Operand} {ok : Bool} (ho : o.op = .lookup t m k ok) {fr : Fr} {st : St} {a b r : AV} (ha : fr.ev m = .v a) (hb : fr.ev k = .v b) (h : lookupF P t a b ok st = some r) : OpOk P o fr st (.v r) fr st := by
  refine OpOk.value fun S0 S β act hi => ?_
  have hx := hi.fr.ev m
  have hy := hi.fr.ev k
  rw [ha] at hx
  rw [hb] at hy
  unfold lookupF at h
  split at h
  · rename_i i s z hz
    obtain ⟨kt, et, hu, hk, hz0⟩ := mapZ_inv hz
    split at h
    · rename_i es hm
      have ey : act.eval k = .string s := val_inv hy
      have hx' : VRel S (.map i) (act.eval m) := hx
      have ex : execOp act.eval o = (do pure (.value (← Instr.lookup t (act.eval m) (act.eval k) ok))) := by simp [execOp, ho]
      rw [ex, ey]
      clear ex hx hy
      generalize act.eval m = vm at hx'
      cases hx' with
      | map _ hlt =>
        obtain ⟨hkk, ents, clock, hh, hsz, hrel⟩ := hi.st.obj i _ hm
        have hE : Ents S es ents.toList := ⟨by simpa using hsz, fun j kv en h1 h2 => hrel j kv en h1 (by simpa using h2)⟩
        have hget : (getObj (S.o i)).run P S.w = .ok (.map ents clock) S.w := by simp [getObj, Sem.run, hh]
        rcases find_ok s 0 hE with ⟨f1, f2, _⟩ | ⟨v, j, en, f1, f2, f3, f4, f5, _⟩
        · rw [f1] at h
          simp only [Option.some.injEq] at h
          subst h
          obtain ⟨zv, hzr, hzv⟩ := zeroV_run hz0 S
          cases ok
          · refine ⟨zv, ?_, hzv⟩
            simp [Instr.lookup, run_underlying hu, hget, run_checkKey_str hk, Instr.findKey, run_underlying hk, f2, hzr]
          · refine ⟨_, ?_, tuple2 hzv (.val (.bool false))⟩
            simp [Instr.lookup, run_underlying hu, hget, run_checkKey_str hk, Instr.findKey, run_underlying hk, f2, hzr]
        · rw [f1] at h
          simp only [Option.some.injEq] at h
          subst h
          cases ok
          · refine ⟨en.val, ?_, f4⟩
            simp [Instr.lookup, run_underlying hu, hget, run_checkKey_str hk, Instr.findKey, run_underlying hk, f2]
          · refine ⟨_, ?_, tuple2 f4 (.val (.bool true))⟩
            simp [Instr.lookup, run_underlying hu, hget, run_checkKey_str hk, Instr.findKey, run_underlying hk, f2]
    · cases h
  · cases h

def mapSetF (P : Program) (t : TypeId) (m k x : AV) (st : St) : Option St :=
  match m, k, mapZ P t with
  | .map i, .val (.string s), some _ =>
    match st.mem[i]? with
    | some (.map es) => some { st with mem := st.mem.set i (.map (mset s x es)) }
    | _ => none
  | _, _, _ => none
theorem mapSet_ok {P : Program} {t : TypeId} {m k x : AV} {st st' : St} (h : mapSetF P t m k x st = some st') {S0 S : Sit} {β : Nat → Nat} {fr : Fr} {a : Act} (hi : Inv S0 S β fr st a) {vm vk vx : Value} (hm : VRel S m vm) (hk : VRel S k vk) (hx : VRel S x vx) :
    ∃ S', (Instr.mapUpdate t vm vk vx).run P S.w = .ok () S'.w ∧ Inv S0 S' β fr st' a ∧ Ext S S' := by
  unfold mapSetF at h
  split at h
  · rename_i i s z hz
    obtain ⟨kt, et, hu, hks, _⟩ := mapZ_inv hz
    split at h
    · rename_i es hme
      cases h
      have ek := val_inv hk
      subst ek
      cases hm with
      | map _ hlt =>
        obtain ⟨hkk, ents, clock, hh, hsz, hrel⟩ := hi.st.obj i _ hme
        have hE : Ents S es ents.toList := ⟨by simpa using hsz, fun j kv en h1 h2 => hrel j kv en h1 (by simpa using h2)⟩
        have hget : (getObj (S.o i)).run P S.w = .ok (.map ents clock) S.w := by simp [getObj, Sem.run, hh]
        have hset : ∀ o : Obj, (setObj (S.o i) o).run P S.w = .ok () { S.w with heap := S.w.heap.setIfInBounds (S.o i) o } := fun o => by simp [setObj, Sem.run, hh]
        have hlt' : S.o i < S.w.heap.size := (Array.getElem?_eq_some_iff.1 hh).1
        -- the end, once the new entries are known
        have fin : ∀ (ents' : Array MapEntry) (clock' : Nat), (∀ S' : Sit, Wk S S' → Ents S' (mset s x es) ents'.toList) →
            Inv S0 (S.onW { S.w with heap := S.w.heap.setIfInBounds (S.o i) (.map ents' clock') }) β fr { st with mem := st.mem.set i (.map (mset s x es)) } a ∧ Ext S (S.onW { S.w with heap := S.w.heap.setIfInBounds (S.o i) (.map ents' clock') }) := by
          intro ents' clock' hE'
          have hoth : ∀ j, j ≠ S.o i → ({ S.w with heap := S.w.heap.setIfInBounds (S.o i) (.map ents' clock') } : World).heap[j]? = S.w.heap[j]? := fun j hne => by
            simp only [Array.getElem?_setIfInBounds]; rw [if_neg (Ne.symm hne)]
          have hs : ({ S.w with heap := S.w.heap.setIfInBounds (S.o i) (.map ents' clock') } : World).heap.size = S.w.heap.size := by simp
          have hw := wk_touch S (.inl hkk) hoth
          have hE2 := hE' _ hw
          refine ⟨⟨ext_touch hi.ext (.inl hkk) hoth hs rfl rfl rfl, hi.st.touchObj hlt hoth hs ⟨ents', clock', by simp [Sit.onW, hlt'], by simpa using hE2.1, fun j kv en h1 h2 => hE2.2 j kv en h1 (by simpa using h2)⟩, ?_⟩, ext_touch (.refl S) (.inl hkk) hoth hs rfl rfl rfl⟩
          refine hi.fr.mono hw fun z ds hz => ⟨hoth _ fun he => ?_, rfl⟩
          have := (hi.fr.box z ds hz).2.1
          rw [he, hkk] at this
          cases this
        rcases find_ok s 0 hE with ⟨f1, f2, f3⟩ | ⟨v, j, en, f1, f2, f3, f4, f5, f6⟩
        · refine ⟨_, ?_, fin (ents.push { key := .string s, val := vx, born := clock }) (clock + 1) (fun S' hw => ?_)⟩
          · simp only [Instr.mapUpdate, Sem.run_bind, run_underlying hu, Result.andThen_ok, hget]
            simp [run_checkKey_str hks, Instr.findKey, run_underlying hks, f2, hset, Sit.onW]
          · rw [f3 x]
            refine ⟨by simp [hE.1], fun j kv en h1 h2 => ?_⟩
            by_cases hj : j < es.length
            · rw [List.getElem?_append_left hj] at h1
              have : (ents.push { key := .string s, val := vx, born := clock }).toList[j]? = ents.toList[j]? := by
                simp only [Array.toList_push]
                rw [List.getElem?_append_left (by rw [hE.1]; exact hj)]
              rw [this] at h2
              exact ⟨(hE.2 j kv en h1 h2).1, (hE.2 j kv en h1 h2).2.mono hw⟩
            · rw [List.getElem?_append_right (by omega)] at h1
              have h0 : j - es.length = 0 := by
                rcases Nat.eq_zero_or_pos (j - es.length) with g | g
                · exact g
                · rw [List.getElem?_eq_none (by simp; omega)] at h1; cases h1
              rw [h0] at h1
              cases h1
              have hjj : j = ents.toList.length := by have := hE.1; omega
              rw [hjj] at h2
              simp at h2
              subst h2
              exact ⟨rfl, hx.mono hw⟩
        · have hj : ents[j]? = some en := by simpa using f3
          refine ⟨_, ?_, fin (ents.modify j fun e => { e with key := .string s, val := vx }) clock (fun S' hw => ?_)⟩
          · simp only [Instr.mapUpdate, Sem.run_bind, run_underlying hu, Result.andThen_ok, hget]
            have hst : (Instr.keyThatStays (.string s) (.string s)).run P S.w = .ok (.string s) S.w := by
              have hss : (s == s) = true := by rw [beq_toListBytes]; simp
              simp [Instr.keyThatStays, Instr.sameBits, hss]
            simp [run_checkKey_str hks, Instr.findKey, run_underlying hks, f2, hj, f5, hst, hset, Sit.onW]
          · have := (f6 x vx (.string s) rfl hx).mono hw
            simpa using this
    · cases h
  · cases h

/-! ### All operations but calls of Go functions -/
def pickT (t : Bool) : Tv → Tv → Tv
  | .v (.val (.bool x)), .v (.val (.bool y)) => .v (.val (.bool (bif t then x else y)))
  | a, b => bif t then a else b
theorem pickT_rel {β : Nat → Nat} {S : Sit} (t : Bool) {a b : Tv} {u v : Value} (ha : TRel β S a u) (hb : TRel β S b v) : TRel β S (pickT t a b) (if t then u else v) := by
  unfold pickT
  split
  · have e1 : u = _ := val_inv ha
    have e2 : v = _ := val_inv hb
    subst e1; subst e2
    cases t <;> exact .val _
  · cases t
    · exact hb
    · exact ha
def listEv (fr : Fr) (xs : Array Operand) : Option (List AV) := xs.toList.mapM fun x => match fr.ev x with | .v a => some a | _ => none
theorem listEv_ok {B : Nat} {S : Sit} {β : Nat → Nat} {fr : Fr} {a : Act} (h : FrOk B S β fr a) : ∀ {l : List Operand} {as : List AV}, (l.mapM fun x => match fr.ev x with | .v a => some a | _ => none : Option (List AV)) = some as → Rels S as (l.map a.eval)
  | [], as, he => by simp at he; subst he; exact Rels.nil S
  | x :: l, as, he => by
    rw [List.mapM_cons] at he
    simp only [Option.bind_eq_bind, Option.pure_def, Option.bind_eq_some_iff] at he
    obtain ⟨p, hp, as', hps, e⟩ := he
    cases e
    have hx := h.ev x
    split at hp
    · rename_i av hav
      cases hp
      rw [hav] at hx
      exact Rels.cons hx (listEv_ok h hps)
    · cases hp
def intK (P : Program) (t : TypeId) : Option IntKind := match P.underlying t with | some (.int k) => some k | _ => none
def zeroOk (P : Program) (t : TypeId) : Bool :=
  match P.underlying t with
  | some (.slice e) => match P.info? e with | some i => i.zero.isSome | none => false
  | _ => false
def builtinF (P : Program) (b : Builtin) (ts : Array TypeId) (xs : List AV) (st : St) : Option (AV × St) :=
  match b, ts.toList, xs with
  | .len, [t], [x] => (lenF P t x).map fun r => (r, st)
  | .min, _, [.val (.int k a), .val (.int _ b)] => some (.val (.int k (if b < a then b else a)), st)
  | .max, _, [.val (.int k a), .val (.int _ b)] => some (.val (.int k (if b > a then b else a)), st)
  | .append, [t, tx], [s, x] => appendF P t tx s x st
  | _, _, _ => none
/-- A new row of noughts, in an object. -/
def repC (z : List AV) : Nat → List AV
  | 0 => []
  | n + 1 => z ++ repC z n
def makeI (P : Program) (t : TypeId) : Option (List AV × Nat) :=
  match P.underlying t with
  | some (.slice e) => match P.info? e with
    | some i => match i.zero with
      | some z => if z.cells.size = i.size then some (z.cells.toList.map AV.of1, i.bytes) else none
      | none => none
    | none => none
  | _ => none
def makeF (P : Program) (t : TypeId) (n m : Int) (st : St) : Option (AV × St) :=
  match makeI P t with
  | some (z, by_) => if 0 ≤ n ∧ n ≤ m ∧ (by_ : Int) * m ≤ 281474976710656 ∧ m ≤ 9223372036854775807 then
      some (.osl st.mem.length 0 n.toNat m.toNat, { st with mem := st.mem ++ [.cells (repC z m.toNat)] }) else none
  | none => none
/-- The package-level variable errors.errorType. -/
def globF (P : Program) (t : TypeId) : Operand → Option AV
  | .global 0 => match shp P t with | some (false, 1) => some (.iface 225 (.agg [.val (.pointer (some ⟨1, 38, none⟩))])) | _ => none
  | _ => none
def opF (P : Program) (o : Oper) (fr : Fr) (st : St) : Option (Tv × Fr × St) :=
  match o.op with
  | .move x => some (fr.ev x, fr, st)
  | .assign x => some (fr.ev x, fr, st)
  | .pick c a b => match fr.ev c with | .v (.val (.bool t)) => some (pickT t (fr.ev a) (fr.ev b), fr, st) | _ => none
  | .alloc e => allocF P o e fr st
  | .box _ x => boxF o (fr.ev x) fr st
  | .build t parts => match buildF P t parts fr with | some r => some (.v r, fr, st) | none => none
  | .buildSlice t len parts => if zeroOk P t = true then match buildSliceF P t len parts fr with | some r => some (.v r, fr, st) | none => none else none
  | .load t p => match loadF P t (fr.ev p) fr st with
    | some r => some (.v r, fr, st)
    | none => match globF P t p with | some r => some (.v r, fr, st) | none => none
  | .store t p x => match storeF P t (fr.ev p) (fr.ev x) fr st with | some (fr', st') => some (.u, fr', st') | none => none
  | .nilCheck x => match fr.ev x with
    | .l y off => some (.l y off, fr, st)
    | .v (.ptr i off) => some (.v (.ptr i off), fr, st)
    | .v (.rptr cs off) => some (.v (.rptr cs off), fr, st)
    | _ => none
  | .binOp op t x y _ => match fr.ev x, fr.ev y with
    | .v a, .v b => match binF P op t a b with | some r => some (.v r, fr, st) | none => match groundF P o fr with | some v => some (.v (.of v), fr, st) | none => none
    | _, _ => none
  | .unOp op _ x => match op, fr.ev x with
    | .not, .v (.val (.bool b)) => some (.v (.val (.bool (!b))), fr, st)
    | .neg, .v (.val (.int k n)) => some (.v (.val (.int k (k.wrap (0 - n)))), fr, st)
    | _, _ => none
  | .convert src dst x => match fr.ev x, intK P src, intK P dst with
    | .v (.val (.int _ n)), some _, some k => some (.v (.val (.int k (k.wrap n))), fr, st)
    | _, _, _ => none
  | .makeInterface t x => match fr.ev x with | .v a => if concr P t = true then some (.v (.iface t a), fr, st) else none | _ => none
  | .makeFunc fn first cap => match listEv fr first, listEv fr cap with | some f, some c => some (.v (.func fn f c), fr, st) | _, _ => none
  | .makeMap _ none => some (.v (.map st.mem.length), fr, { st with mem := st.mem ++ [.map []] })
  | .makeSlice t l c => match fr.ev l, fr.ev c with
    | .v (.val (.int _ n)), .v (.val (.int _ m)) => match makeF P t n m st with | some (r, st') => some (.v r, fr, st') | none => none
    | _, _ => none
  | .slice t x lo hi none => match fr.ev x, evO fr lo, evO fr hi with
    | .v a, some l, some h => match sliceF P t a l h with | some r => some (.v r, fr, st) | none => none
    | _, _, _ => none
  | .fieldAddr s x f => match fieldOff P s f with
    | some n => match (fr.ev x).addP n with | some t => some (t, fr, st) | none => none
    | none => none
  | .field s x f => match fr.ev x with | .v a => (match fieldF P s a f with | some r => some (.v r, fr, st) | none => none) | _ => none
  | .indexAddr t x i => match indexAddrF P t (fr.ev x) (fr.ev i) with | some r => some (r, fr, st) | none => none
  | .index t x i => match fr.ev x, fr.ev i with
    | .v a, .v b => match indexF P t a b with | some r => some (.v r, fr, st) | none => none
    | _, _ => none
  | .lookup t m k ok => match fr.ev m, fr.ev k with
    | .v a, .v b => match lookupF P t a b ok st with | some r => some (.v r, fr, st) | none => none
    | _, _ => none
  | .mapUpdate t m k x => match fr.ev m, fr.ev k, fr.ev x with
    | .v a, .v b, .v c => match mapSetF P t a b c st with | some st' => some (.u, fr, st') | none => none
    | _, _, _ => none
  | .typeAssert x _ t ok => match fr.ev x with | .v a => (match assertF P a t ok with | some r => some (.v r, fr, st) | none => none) | _ => none
  | .extract t i => match fr.ev t with | .v (.tuple vs) => (match vs[i]? with | some r => some (.v r, fr, st) | none => none) | _ => none
  | .call { callee := .builtin b, args := xs, argTypes := ts } => match listEv fr xs with
    | some l => match builtinF P b ts l st with | some (r, st') => some (.v r, fr, st') | none => none
    | none => none
  | _ => match groundF P o fr with | some v => some (.v (.of v), fr, st) | none => none
end Go.Proofs.YtknocbhocdenoaaGreatDoor
