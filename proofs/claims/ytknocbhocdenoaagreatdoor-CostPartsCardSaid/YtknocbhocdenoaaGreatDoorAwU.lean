/- What errors.As asks of package reflectlite: contracts of the entries that the model knows by itself, at the types of this program's errors. -/
import Derived.Test.YtknocbhocdenoaaGreatDoorAwQ
import Derived.Laws.Externs
namespace Go.Proofs.YtknocbhocdenoaaGreatDoor
open Go Go.RowKit Go.Extern Go.Extern.ReflectliteValue

def hV (t : TypeId) : Value := .pointer (some ⟨1, t, none⟩)
abbrev tF : TypeId := 59
abbrev tE : TypeId := 40
abbrev tPF : TypeId := 61
abbrev tPE : TypeId := 140
abbrev tR : TypeId := 225

theorem goodX {f : FuncId} {args : List AV} {st st' : St} {r : AV} (h : ∀ S (vs : Array Value), StOk S st → Rels S args vs.toList → ∃ v S', (callFunc f vs).run Tryz.prog S.w = .ok (.value v) S'.w ∧ Ext S S' ∧ StOk S' st' ∧ VRel S' r v) : Good Tryz.prog f args st (.ret r) st' := .inr ⟨r, rfl, h⟩
theorem arr1 {S : Sit} {a : AV} {vs : Array Value} (h : Rels S [a] vs.toList) : ∃ u, vs = #[u] ∧ VRel S a u := by
  obtain ⟨u, us, h1, h2, h3⟩ := h.inv
  rw [h3.inv_nil] at h1
  exact ⟨u, Array.ext' h1, h2⟩
theorem arr2 {S : Sit} {a b : AV} {vs : Array Value} (h : Rels S [a, b] vs.toList) : ∃ u v, vs = #[u, v] ∧ VRel S a u ∧ VRel S b v := by
  obtain ⟨u, us, h1, h2, h3⟩ := h.inv
  obtain ⟨v, vs', h4, h5, h6⟩ := h3.inv
  rw [h4, h6.inv_nil] at h1
  exact ⟨u, v, Array.ext' h1, h2, h5⟩
theorem agg3 {S : Sit} {a b c : AV} {u : Value} (h : VRel S (.agg [a, b, c]) u) : ∃ x y z, u = .agg #[x, y, z] ∧ VRel S a x ∧ VRel S b y ∧ VRel S c z := by
  cases h with
  | agg _ vs hl hr =>
    have hR : Rels S [a, b, c] vs.toList := ⟨by simpa using hl, fun j a u ha hu => hr j a u ha (by simpa using hu)⟩
    obtain ⟨x, us, h1, h2, h3⟩ := hR.inv
    obtain ⟨y, us', h4, h5, h6⟩ := h3.inv
    obtain ⟨z, us'', h7, h8, h9⟩ := h6.inv
    rw [h4, h7, h9.inv_nil] at h1
    exact ⟨x, y, z, by rw [show vs = #[x, y, z] from Array.ext' h1], h2, h5, h8⟩
theorem mkAgg3 {S : Sit} {a b c : AV} {x y z : Value} (h1 : VRel S a x) (h2 : VRel S b y) (h3 : VRel S c z) : VRel S (.agg [a, b, c]) (.agg #[x, y, z]) := by
  have := Rels.cons h1 (Rels.cons h2 (Rels.cons h3 (Rels.nil S)))
  exact .agg _ _ rfl (fun j b u hb hu => this.2 j b u hb (by simpa using hu))
theorem mkR {S : Sit} (t : TypeId) : VRel S (.iface tR (.agg [.val (hV t)])) (.iface tR (.agg #[hV t])) := .iface _ _ _ (.agg _ _ rfl fun j a u ha hu => by
  cases j with
  | zero => cases ha; cases hu; exact .val _
  | succ j => simp at ha)
/-- A pointer at one cell that never changes. -/
theorem rptr_new {S : Sit} {a : AV} {v : Value} (h : VRel S a v) (t : TypeId) : VRel (S.new (.cells #[v] t) .fixed) (.rptr [a] 0) (.pointer (some ⟨S.w.heap.size, 0, none⟩)) := by
  have hs : ∀ j u, [v][j]? = some u → Stable (S.new (.cells #[v] t) .fixed) ((⟨S.w.heap.size, 0, none⟩ : Addr).add j) u := fun j u hj => stable_new S #[v] t j u hj
  have := VRel.rptr (S := S.new (.cells #[v] t) .fixed) [a] 0 ⟨S.w.heap.size, 0, none⟩ [v] rfl hs (fun j b u hb hu => by
    cases j with
    | zero => cases hb; cases hu; exact h.mono (ext_new S _ _).wk
    | succ j => simp at hb)
  rwa [addr_zero_add] at this
theorem rptr_inv {S : Sit} {a : AV} {u : Value} (h : VRel S (.rptr [a] 0) u) : ∃ ad v, u = .pointer (some ad) ∧ S.w.cell? ad = some v ∧ VRel S a v := by
  cases h with
  | rptr _ _ ad us hl hs hr =>
    obtain ⟨v, rfl⟩ : ∃ v, us = [v] := by
      match us, hl with
      | [v], _ => exact ⟨v, rfl⟩
    have h0 := (hs 0 v rfl).1
    exact ⟨_, v, rfl, h0, hr 0 a v rfl rfl⟩
theorem ptr_inv {S : Sit} {i off : Nat} {u : Value} (h : VRel S (.ptr i off) u) : u = .pointer (some ⟨S.o i, off, none⟩) ∧ i < S.no := by
  cases h with | ptr _ _ h => exact ⟨rfl, h⟩

/-! ### ValueOf -/
theorem vo59 (p : Addr) (w : World) : (callFunc 83 #[.iface tF (.pointer (some p))]).run Tryz.prog w = .ok (.value (.agg #[hV tF, .pointer (some ⟨w.heap.size, 0, none⟩), .int .u64 150])) (w.alloc (.cells #[.pointer (some p)] tF)) := by kernel_rfl
theorem vo61 (p : Addr) (w : World) : (callFunc 83 #[.iface tPF (.pointer (some p))]).run Tryz.prog w = .ok (.value (.agg #[hV tPF, .pointer (some ⟨w.heap.size, 0, none⟩), .int .u64 150])) (w.alloc (.cells #[.pointer (some p)] tPF)) := by kernel_rfl
theorem vo140 (p : Addr) (w : World) : (callFunc 83 #[.iface tPE (.pointer (some p))]).run Tryz.prog w = .ok (.value (.agg #[hV tPE, .pointer (some ⟨w.heap.size, 0, none⟩), .int .u64 150])) (w.alloc (.cells #[.pointer (some p)] tPE)) := by kernel_rfl
theorem vo40 (n : Int) (w : World) : (callFunc 83 #[.iface tE (.int .i64 n)]).run Tryz.prog w = .ok (.value (.agg #[hV tE, .pointer (some ⟨w.heap.size, 0, none⟩), .int .u64 130])) (w.alloc (.cells #[.int .i64 n] tE)) := by kernel_rfl
def valueOfF : List AV → St → Option (AEnd × St)
  | [.iface t (.ptr i off)], st => bif t == tF || (t == tPF || t == tPE) then some (.ret (.agg [.val (hV t), .rptr [.ptr i off] 0, .val (.int .u64 150)]), st) else none
  | [.iface t (.val (.int .i64 n))], st => bif t == tE then some (.ret (.agg [.val (hV tE), .rptr [.val (.int .i64 n)] 0, .val (.int .u64 130)]), st) else none
  | _, _ => none
theorem valueOf_ok {args : List AV} {st st' : St} {e : AEnd} (h : valueOfF args st = some (e, st')) : Good Tryz.prog 83 args st e st' := by
  unfold valueOfF at h
  split at h
  · rename_i t i off
    cases hb : (t == tF || (t == tPF || t == tPE)) with
    | false => rw [hb] at h; cases h
    | true =>
      rw [hb] at h
      cases h
      refine goodX fun S vs hst hr => ?_
      obtain ⟨u, rfl, hu⟩ := arr1 hr
      cases hu with
      | iface _ _ v hv =>
        obtain ⟨rfl, hi⟩ := ptr_inv hv
        refine ⟨_, S.new (.cells #[.pointer (some ⟨S.o i, off, none⟩)] t) .fixed, ?_, ext_new S _ _, hst.new _ _, mkAgg3 (.val _) (rptr_new hv t) (.val _)⟩
        simp only [Bool.or_eq_true, beq_iff_eq] at hb
        rcases hb with rfl | rfl | rfl
        · exact vo59 _ _
        · exact vo61 _ _
        · exact vo140 _ _
  · rename_i t n
    cases hb : (t == tE) with
    | false => rw [hb] at h; cases h
    | true =>
      rw [hb] at h
      cases h
      have ht : t = tE := by simpa using hb
      subst ht
      refine goodX fun S vs hst hr => ?_
      obtain ⟨u, rfl, hu⟩ := arr1 hr
      cases hu with
      | iface _ _ v hv =>
        have := val_inv hv
        subst this
        exact ⟨_, S.new (.cells #[.int .i64 n] tE) .fixed, vo40 _ _, ext_new S _ _, hst.new _ _, mkAgg3 (.val _) (rptr_new hv tE) (.val _)⟩
  · cases h

/-! ### Type, IsNil, Elem of a target's Value -/
theorem ty61 (a : Addr) (w : World) : (callFunc 84 #[.agg #[hV tPF, .pointer (some a), .int .u64 150]]).run Tryz.prog w = .ok (.value (.iface tR (.agg #[hV tPF]))) w := by kernel_rfl
theorem ty140 (a : Addr) (w : World) : (callFunc 84 #[.agg #[hV tPE, .pointer (some a), .int .u64 150]]).run Tryz.prog w = .ok (.value (.iface tR (.agg #[hV tPE]))) w := by kernel_rfl
def vTypeF : List AV → St → Option (AEnd × St)
  | [.agg [.val (.pointer (some ⟨1, t, none⟩)), .rptr [a] 0, .val (.int .u64 150)]], st => bif t == tPF || t == tPE then some (.ret (.iface tR (.agg [.val (hV t)])), st) else none
  | _, _ => none
theorem vType_ok {args : List AV} {st st' : St} {e : AEnd} (h : vTypeF args st = some (e, st')) : Good Tryz.prog 84 args st e st' := by
  unfold vTypeF at h
  split at h
  · rename_i t a
    cases hb : (t == tPF || t == tPE) with
    | false => rw [hb] at h; cases h
    | true =>
      rw [hb] at h
      cases h
      refine goodX fun S vs hst hr => ?_
      obtain ⟨u, rfl, hu⟩ := arr1 hr
      obtain ⟨x, y, z, rfl, h1, h2, h3⟩ := agg3 hu
      obtain ⟨ad, v, rfl, hc, hv⟩ := rptr_inv h2
      have e1 := val_inv h1
      have e3 := val_inv h3
      subst e1; subst e3
      refine ⟨_, S, ?_, .refl S, hst, mkR t⟩
      simp only [Bool.or_eq_true, beq_iff_eq] at hb
      rcases hb with rfl | rfl
      · exact ty61 _ _
      · exact ty140 _ _
  · cases h
theorem rlm (z : Sem Value) (f : TypeId → Addr → Nat → Nat → Sem Value) (v : Value) :
    ReflectliteValue.method z f #[v] = (do match ← ReflectliteValue.parts v with | none => z | some (t, a, fl) => f t a fl (fl % 32)) := rfl
theorem parts61 (a : Addr) (w : World) : (ReflectliteValue.parts (.agg #[hV tPF, .pointer (some a), .int .u64 150])).run Tryz.prog w = .ok (some (tPF, a, 150)) w := by kernel_rfl
theorem parts140 (a : Addr) (w : World) : (ReflectliteValue.parts (.agg #[hV tPE, .pointer (some a), .int .u64 150])).run Tryz.prog w = .ok (some (tPE, a, 150)) w := by kernel_rfl
theorem h85 (args : Array Value) (w : World) : (callFunc 85 args).run Tryz.prog w = (((ReflectliteValue.method (ReflectliteValue.valueError "reflectlite.Value.IsNil" 0) ReflectliteValue.isNil) args).run Tryz.prog w).andThen fun v w' => .ok (.value v) w' := run_callFunc_extern Tryz.func85 (by kernel_rfl) (by kernel_rfl) (by kernel_rfl) (by kernel_rfl) args w
theorem h161 (args : Array Value) (w : World) : (callFunc 161 args).run Tryz.prog w = (((ReflectliteValue.method (ReflectliteValue.valueError "reflectlite.Value.Elem" 0) ReflectliteValue.elem) args).run Tryz.prog w).andThen fun v w' => .ok (.value v) w' := run_callFunc_extern Tryz.func161 (by kernel_rfl) (by kernel_rfl) (by kernel_rfl) (by kernel_rfl) args w
theorem h162 (args : Array Value) (w : World) : (callFunc 162 args).run Tryz.prog w = (((ReflectliteValue.set) args).run Tryz.prog w).andThen fun v w' => .ok (.value v) w' := run_callFunc_extern Tryz.func162 (by kernel_rfl) (by kernel_rfl) (by kernel_rfl) (by kernel_rfl) args w
theorem nl61 (a p : Addr) (W : World) (ha : W.cell? a = some (.pointer (some p))) : (callFunc 85 #[.agg #[hV tPF, .pointer (some a), .int .u64 150]]).run Tryz.prog W = .ok (.value (.bool false)) W := by
  rw [h85, rlm]
  simp only [Sem.run_bind, parts61, Result.andThen]
  simp [ReflectliteValue.isNil, loadVar, isAgg, underlying, Tryz.underlying61, ha, Result.andThen]
theorem nl140 (a p : Addr) (W : World) (ha : W.cell? a = some (.pointer (some p))) : (callFunc 85 #[.agg #[hV tPE, .pointer (some a), .int .u64 150]]).run Tryz.prog W = .ok (.value (.bool false)) W := by
  rw [h85, rlm]
  simp only [Sem.run_bind, parts140, Result.andThen]
  simp [ReflectliteValue.isNil, loadVar, isAgg, underlying, Tryz.underlying140, ha, Result.andThen]
theorem elemOf61 (w : World) : (Rtype.elem? tPF).run Tryz.prog w = .ok (some tF) w := by kernel_rfl
theorem elemOf140 (w : World) : (Rtype.elem? tPE).run Tryz.prog w = .ok (some tE) w := by kernel_rfl
theorem mk59 (p : Addr) (w : World) : (ReflectliteValue.mk tF p ReflectliteValue.flagAddr).run Tryz.prog w = .ok (.agg #[hV tF, .pointer (some p), .int .u64 406]) w := by kernel_rfl
theorem mk40 (p : Addr) (w : World) : (ReflectliteValue.mk tE p ReflectliteValue.flagAddr).run Tryz.prog w = .ok (.agg #[hV tE, .pointer (some p), .int .u64 386]) w := by kernel_rfl
theorem el61 (a p : Addr) (W : World) (ha : W.cell? a = some (.pointer (some p))) : (callFunc 161 #[.agg #[hV tPF, .pointer (some a), .int .u64 150]]).run Tryz.prog W = .ok (.value (.agg #[hV tF, .pointer (some p), .int .u64 406])) W := by
  rw [h161, rlm]
  simp only [Sem.run_bind, parts61, Result.andThen]
  simp [ReflectliteValue.elem, loadVar, isAgg, underlying, Tryz.underlying61, ha, Result.andThen, elemOf61, mk59]
theorem el140 (a p : Addr) (W : World) (ha : W.cell? a = some (.pointer (some p))) : (callFunc 161 #[.agg #[hV tPE, .pointer (some a), .int .u64 150]]).run Tryz.prog W = .ok (.value (.agg #[hV tE, .pointer (some p), .int .u64 386])) W := by
  rw [h161, rlm]
  simp only [Sem.run_bind, parts140, Result.andThen]
  simp [ReflectliteValue.elem, loadVar, isAgg, underlying, Tryz.underlying140, ha, Result.andThen, elemOf140, mk40]
def vNilF : List AV → St → Option (AEnd × St)
  | [.agg [.val (.pointer (some ⟨1, t, none⟩)), .rptr [.ptr _ _] 0, .val (.int .u64 150)]], st => bif t == tPF || t == tPE then some (.ret (.val (.bool false)), st) else none
  | _, _ => none
theorem vNil_ok {args : List AV} {st st' : St} {e : AEnd} (h : vNilF args st = some (e, st')) : Good Tryz.prog 85 args st e st' := by
  unfold vNilF at h
  split at h
  · rename_i t i off
    cases hb : (t == tPF || t == tPE) with
    | false => rw [hb] at h; cases h
    | true =>
      rw [hb] at h
      cases h
      refine goodX fun S vs hst hr => ?_
      obtain ⟨u, rfl, hu⟩ := arr1 hr
      obtain ⟨x, y, z, rfl, h1, h2, h3⟩ := agg3 hu
      obtain ⟨ad, v, rfl, hc, hv⟩ := rptr_inv h2
      obtain ⟨rfl, hi⟩ := ptr_inv hv
      have e1 := val_inv h1
      have e3 := val_inv h3
      subst e1; subst e3
      refine ⟨_, S, ?_, .refl S, hst, .val _⟩
      simp only [Bool.or_eq_true, beq_iff_eq] at hb
      rcases hb with rfl | rfl
      · exact nl61 _ _ _ hc
      · exact nl140 _ _ _ hc
  · cases h
def vElemF : List AV → St → Option (AEnd × St)
  | [.agg [.val (.pointer (some ⟨1, t, none⟩)), .rptr [.ptr i off] 0, .val (.int .u64 150)]], st =>
    bif t == tPF then some (.ret (.agg [.val (hV tF), .ptr i off, .val (.int .u64 406)]), st) else bif t == tPE then some (.ret (.agg [.val (hV tE), .ptr i off, .val (.int .u64 386)]), st) else none
  | _, _ => none
theorem vElem_ok {args : List AV} {st st' : St} {e : AEnd} (h : vElemF args st = some (e, st')) : Good Tryz.prog 161 args st e st' := by
  unfold vElemF at h
  split at h
  · rename_i t i off
    cases hb : (t == tPF) with
    | true =>
      rw [hb] at h
      cases h
      have ht : t = tPF := by simpa using hb
      subst ht
      refine goodX fun S vs hst hr => ?_
      obtain ⟨u, rfl, hu⟩ := arr1 hr
      obtain ⟨x, y, z, rfl, h1, h2, h3⟩ := agg3 hu
      obtain ⟨ad, v, rfl, hc, hv⟩ := rptr_inv h2
      obtain ⟨rfl, hi⟩ := ptr_inv hv
      have e1 := val_inv h1
      have e3 := val_inv h3
      subst e1; subst e3
      exact ⟨_, S, el61 _ _ _ hc, .refl S, hst, mkAgg3 (.val _) hv (.val _)⟩
    | false =>
      rw [hb] at h
      simp only [cond_false] at h
      cases hb2 : (t == tPE) with
      | false => rw [hb2] at h; cases h
      | true =>
        rw [hb2] at h
        cases h
        have ht : t = tPE := by simpa using hb2
        subst ht
        refine goodX fun S vs hst hr => ?_
        obtain ⟨u, rfl, hu⟩ := arr1 hr
        obtain ⟨x, y, z, rfl, h1, h2, h3⟩ := agg3 hu
        obtain ⟨ad, v, rfl, hc, hv⟩ := rptr_inv h2
        obtain ⟨rfl, hi⟩ := ptr_inv hv
        have e1 := val_inv h1
        have e3 := val_inv h3
        subst e1; subst e3
        exact ⟨_, S, el140 _ _ _ hc, .refl S, hst, mkAgg3 (.val _) hv (.val _)⟩
  · cases h

/-! ### Set -/
theorem rls (v x : Value) : ReflectliteValue.set #[v, x] = (do
    let (some (dst, a, fl), some (src, b, _)) := (← ReflectliteValue.parts v, ← ReflectliteValue.parts x)
      | unsupported (.noEntry "extern/(internal/reflectlite.Value).Set.zeroValue")
    if fl / ReflectliteValue.flagAddr % 2 == 0 then unsupported (.noEntry "extern/(internal/reflectlite.Value).Set.unaddressable")
    let val ← loadVar src b
    if ← Rtype.directlyAssignable dst src then storeVar dst a val
    else if ← Rtype.implements dst src then
      if (← Rtype.kind src) == 20 then
        match val with
        | .nilIface => unsupported (.noEntry "extern/reflectlite: a nil value of one interface type handed on as a value of another")
        | _ => storeVar dst a val
      else storeVar dst a (.iface src val)
    else panicString ("reflectlite.Set: value of type " ++ (← Rtype.spelt src) ++ " is not assignable to type " ++ (← Rtype.spelt dst))
    pure (.tuple #[])) := rfl
theorem parts59a (a : Addr) (w : World) : (ReflectliteValue.parts (.agg #[hV tF, .pointer (some a), .int .u64 406])).run Tryz.prog w = .ok (some (tF, a, 406)) w := by kernel_rfl
theorem parts59 (a : Addr) (w : World) : (ReflectliteValue.parts (.agg #[hV tF, .pointer (some a), .int .u64 150])).run Tryz.prog w = .ok (some (tF, a, 150)) w := by kernel_rfl
theorem parts40a (a : Addr) (w : World) : (ReflectliteValue.parts (.agg #[hV tE, .pointer (some a), .int .u64 386])).run Tryz.prog w = .ok (some (tE, a, 386)) w := by kernel_rfl
theorem parts40 (a : Addr) (w : World) : (ReflectliteValue.parts (.agg #[hV tE, .pointer (some a), .int .u64 130])).run Tryz.prog w = .ok (some (tE, a, 130)) w := by kernel_rfl
theorem direct59 (w : World) : (Rtype.directlyAssignable tF tF).run Tryz.prog w = .ok true w := by kernel_rfl
theorem direct40 (w : World) : (Rtype.directlyAssignable tE tE).run Tryz.prog w = .ok true w := by kernel_rfl
theorem st59 (ta b e : Addr) (old : Value) (W : World) (hb : W.cell? b = some (.pointer (some e))) (ht : W.cell? ta = some old) (hf : W.frozen? ta = false) :
    (callFunc 162 #[.agg #[hV tF, .pointer (some ta), .int .u64 406], .agg #[hV tF, .pointer (some b), .int .u64 150]]).run Tryz.prog W = .ok (.value (.tuple #[])) (W.setCell ta (.pointer (some e))) := by
  rw [h162, rls]
  simp only [Sem.run_bind, parts59a, parts59, Result.andThen]
  simp [ReflectliteValue.flagAddr, loadVar, isAgg, underlying, Tryz.underlying59, hb, Result.andThen, direct59, storeVar, Value.cells, storeCells, Addr.add]
  rw [run_store Tryz.prog W ta _ _ (by rfl)]
  simp [ht, hf]
theorem st40 (ta b : Addr) (n : Int) (old : Value) (W : World) (hb : W.cell? b = some (.int .i64 n)) (ht : W.cell? ta = some old) (hf : W.frozen? ta = false) :
    (callFunc 162 #[.agg #[hV tE, .pointer (some ta), .int .u64 386], .agg #[hV tE, .pointer (some b), .int .u64 130]]).run Tryz.prog W = .ok (.value (.tuple #[])) (W.setCell ta (.int .i64 n)) := by
  rw [h162, rls]
  simp only [Sem.run_bind, parts40a, parts40, Result.andThen]
  simp [ReflectliteValue.flagAddr, loadVar, isAgg, underlying, Tryz.underlying40, hb, Result.andThen, direct40, storeVar, Value.cells, storeCells, Addr.add]
  rw [run_store Tryz.prog W ta _ _ (by rfl)]
  simp [ht, hf]
/-- A cell of an object is set. -/
theorem set_obj {S : Sit} {st : St} (hst : StOk S st) {i off : Nat} {cs : List AV} (hm : st.mem[i]? = some (.cells cs)) (ho : off < cs.length) {x : AV} {v : Value} (hv : VRel S x v) :
    (∃ old, S.w.cell? ⟨S.o i, off, none⟩ = some old) ∧ S.w.frozen? ⟨S.o i, off, none⟩ = false ∧ ∃ S', S'.w = S.w.setCell ⟨S.o i, off, none⟩ v ∧ Ext S S' ∧ StOk S' { st with mem := st.mem.set i (.cells (cs.set off x)) } := by
  obtain ⟨hk, vs, e, hh, hr⟩ := hst.obj i _ hm
  have hi : i < S.no := by rw [hst.no]; exact (List.getElem?_eq_some_iff.1 hm).1
  have hlen : off < vs.toList.length := by rw [hr.1]; exact ho
  refine ⟨⟨vs[off]'(by simpa using hlen), by rw [cell_of_row _ _ _ _ _ _ hh]; exact Array.getElem?_eq_getElem (by simpa using hlen)⟩, by simp [World.frozen?, hh], ?_⟩
  have hoth : ∀ j, j ≠ S.o i → (S.w.setCell ⟨S.o i, off, none⟩ v).heap[j]? = S.w.heap[j]? := fun j hne => Below.heap_setCell S.w ⟨S.o i, off, none⟩ v j hne
  have hsz : (S.w.setCell ⟨S.o i, off, none⟩ v).heap.size = S.w.heap.size := heap_setCell_size _ _ _
  refine ⟨S.onW (S.w.setCell ⟨S.o i, off, none⟩ v), rfl, ext_touch (.refl S) (.inl hk) hoth hsz rfl rfl rfl, hst.touchObj hi hoth hsz ⟨_, e, heap_setCell_same _ _ _ _ hh, ?_⟩⟩
  have hw := wk_touch S (w := S.w.setCell ⟨S.o i, off, none⟩ v) (.inl hk) hoth
  have := (hr.mono hw).set off (hv.mono hw)
  simpa using this
def vSetF : List AV → St → Option (AEnd × St)
  | [.agg [.val (.pointer (some ⟨1, t, none⟩)), .ptr i off, .val (.int .u64 fl)], .agg [.val (.pointer (some ⟨1, u, none⟩)), .rptr [x] 0, .val (.int .u64 fl')]], st =>
    match st.mem[i]? with
    | some (.cells cs) => bif Nat.blt off cs.length then match x with
      | .ptr j o => bif t == tF && (u == tF && (fl == 406 && fl' == 150)) then some (.ret (.tuple []), { st with mem := st.mem.set i (.cells (cs.set off (.ptr j o))) }) else none
      | .val (.int .i64 n) => bif t == tE && (u == tE && (fl == 386 && fl' == 130)) then some (.ret (.tuple []), { st with mem := st.mem.set i (.cells (cs.set off (.val (.int .i64 n)))) }) else none
      | _ => none
      else none
    | _ => none
  | _, _ => none
theorem vSet_ok {args : List AV} {st st' : St} {e : AEnd} (h : vSetF args st = some (e, st')) : Good Tryz.prog 162 args st e st' := by
  unfold vSetF at h
  split at h
  · rename_i t i off fl u x fl'
    split at h
    · rename_i cs hm
      cases hlt : Nat.blt off cs.length with
      | false => rw [hlt] at h; cases h
      | true =>
        rw [hlt] at h
        simp only [cond_true] at h
        have ho : off < cs.length := by simpa [Nat.blt_eq] using hlt
        split at h
        · rename_i j o
          cases hb : (t == tF && (u == tF && (fl == 406 && fl' == 150))) with
          | false => rw [hb] at h; cases h
          | true =>
            rw [hb] at h
            cases h
            simp only [Bool.and_eq_true, beq_iff_eq] at hb
            obtain ⟨rfl, rfl, rfl, rfl⟩ := hb
            refine goodX fun S vs hst hr => ?_
            obtain ⟨p, q, rfl, hp, hq⟩ := arr2 hr
            obtain ⟨x1, y1, z1, rfl, a1, a2, a3⟩ := agg3 hp
            obtain ⟨x2, y2, z2, rfl, b1, b2, b3⟩ := agg3 hq
            obtain ⟨rfl, hi⟩ := ptr_inv a2
            obtain ⟨ad, v, rfl, hc, hv⟩ := rptr_inv b2
            have ev := (ptr_inv hv).1
            subst ev
            have e1 := val_inv a1; have e2 := val_inv a3; have e3 := val_inv b1; have e4 := val_inv b3
            subst e1; subst e2; subst e3; subst e4
            obtain ⟨⟨old, hold⟩, hfz, S', hS', hx, hst'⟩ := set_obj hst hm ho hv
            refine ⟨.tuple #[], S', ?_, hx, hst', .tuple _ _ rfl (fun j a u ha => by simp at ha)⟩
            rw [hS']
            exact st59 _ _ _ _ _ hc hold hfz
        · rename_i n
          cases hb : (t == tE && (u == tE && (fl == 386 && fl' == 130))) with
          | false => rw [hb] at h; cases h
          | true =>
            rw [hb] at h
            cases h
            simp only [Bool.and_eq_true, beq_iff_eq] at hb
            obtain ⟨rfl, rfl, rfl, rfl⟩ := hb
            refine goodX fun S vs hst hr => ?_
            obtain ⟨p, q, rfl, hp, hq⟩ := arr2 hr
            obtain ⟨x1, y1, z1, rfl, a1, a2, a3⟩ := agg3 hp
            obtain ⟨x2, y2, z2, rfl, b1, b2, b3⟩ := agg3 hq
            obtain ⟨rfl, hi⟩ := ptr_inv a2
            obtain ⟨ad, v, rfl, hc, hv⟩ := rptr_inv b2
            have ev := val_inv hv
            subst ev
            have e1 := val_inv a1; have e2 := val_inv a3; have e3 := val_inv b1; have e4 := val_inv b3
            subst e1; subst e2; subst e3; subst e4
            obtain ⟨⟨old, hold⟩, hfz, S', hS', hx, hst'⟩ := set_obj hst hm ho hv
            refine ⟨.tuple #[], S', ?_, hx, hst', .tuple _ _ rfl (fun j a u ha => by simp at ha)⟩
            rw [hS']
            exact st40 _ _ _ _ _ hc hold hfz
        · cases h
    · cases h
  · cases h

/-! ### TypeOf -/
theorem to59 (v : Value) (w : World) : (callFunc 124 #[.iface tF v]).run Tryz.prog w = .ok (.value (.iface tR (.agg #[hV tF]))) w := by kernel_rfl
theorem to40 (v : Value) (w : World) : (callFunc 124 #[.iface tE v]).run Tryz.prog w = .ok (.value (.iface tR (.agg #[hV tE]))) w := by kernel_rfl
def typeOfF : List AV → St → Option (AEnd × St)
  | [.iface t _], st => bif t == tF || t == tE then some (.ret (.iface tR (.agg [.val (hV t)])), st) else none
  | _, _ => none
theorem typeOf_ok {args : List AV} {st st' : St} {e : AEnd} (h : typeOfF args st = some (e, st')) : Good Tryz.prog 124 args st e st' := by
  unfold typeOfF at h
  split at h
  · rename_i t a
    cases hb : (t == tF || t == tE) with
    | false => rw [hb] at h; cases h
    | true =>
      rw [hb] at h
      cases h
      refine goodX fun S vs hst hr => ?_
      obtain ⟨u, rfl, hu⟩ := arr1 hr
      cases hu with
      | iface _ _ v hv =>
        refine ⟨_, S, ?_, .refl S, hst, mkR t⟩
        simp only [Bool.or_eq_true, beq_iff_eq] at hb
        rcases hb with rfl | rfl
        · exact to59 _ _
        · exact to40 _ _
  · cases h
end Go.Proofs.YtknocbhocdenoaaGreatDoor
