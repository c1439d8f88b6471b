/- From what a row's reading of its arguments says of the memory to the abstract machine's values; from a contract's end to what a row asks for behind the call. -/
import Derived.Test.YtknocbhocdenoaaGreatDoorBbJ
import Derived.Test.YtknocbhocdenoaaGreatDoorRows
import Derived.ChangeSame
import Derived.ChangeStays
import Derived.ChangeVars
import Derived.JoinedOf
import Derived.RowKit
import Derived.RowKitTokens
import Derived.LaidLaws
import Derived.LaidHandle
import Derived.Stop.Joined
import Derived.ReadAgain
import Derived.Below
namespace Go.Proofs.YtknocbhocdenoaaGreatDoor
open Go Go.ChangeShapes Go.WideShapes Go.RowKit

theorem own : ownKnob Tryz.prog.godebug = none := by kernel_rfl
theorem et : Tryz.prog.globalNamed "errors.errorType" = some 0 := by kernel_rfl
theorem rt : (Tryz.prog.cutTypes.find? (·.1 == "internal/reflectlite.rtype")).map (·.2) = some 225 := by kernel_rfl
theorem rowsLen : ∃ n, Tryz.prog.types.size = n := ⟨_, rfl⟩
theorem oneRow : ((List.range Tryz.prog.types.size).filter fun t => Tryz.prog.rowNamed t [101, 114, 114, 111, 114]) = [38] := by kernel_rfl
theorem hh : typeHandle Tryz.prog 38 = .pointer (some ⟨1, 38, none⟩) := by kernel_rfl

def laidE : List (String × DataW Unit) := [("errors.errorType", Rows.laid_errors_errorType)]
/-- What the condition on the laid variable says of its cell. -/
theorem handle_of_laid {W : World} (h : laidMetH Tryz.prog laidE W) : W.cell? ⟨0, 0, none⟩ = some errV := by
  have h' : laidMet Tryz.prog [] W ∧ handlesMet Tryz.prog laidE W := h
  obtain ⟨name, u, ty, e1, e2, e3, e4, e5⟩ := h'.2 _ (List.mem_singleton.2 rfl)
  have en : name = [101, 114, 114, 111, 114] := (Option.some.inj e1).symm
  subst en
  obtain rfl := Option.some.inj (rt.symm.trans e2)
  have hm : ty ∈ (List.range Tryz.prog.types.size).filter fun t => Tryz.prog.rowNamed t [101, 114, 114, 111, 114] := List.mem_filter.2 ⟨List.mem_range.2 e3, e4⟩
  rw [oneRow] at hm
  obtain rfl := List.mem_singleton.1 hm
  rw [hh] at e5
  exact (show W.cell? ⟨0, 0, none⟩ = (#[errV] : Array Value)[0]? from World.var?_cell et e5 0)

/-- A world that meets the condition. -/
noncomputable def laidWorld (os : Os) : World :=
  let w0 := World.holding Tryz.prog os ⟨#[], #[], []⟩
  { w0 with heap := w0.heap.modify 0 fun
      | .cells _ t frozen => .cells #[errV] t frozen
      | o => o }
theorem laidWorld_met (os : Os) (args : Array Value) : laidMetH Tryz.prog laidE ((laidWorld os).forCall (fun _ _ => 0) ⟨#[], args, []⟩).memory :=
  laidMetH_of_parts (laidMet_nil _ _) (by kernel_rfl)

/-! ### The situation when the call begins: nothing of what is there turns -/
def S0 (W : World) : Sit := ⟨W, fun _ => .fixed, fun _ => 0, fun _ => 0, 0, 0⟩
theorem st0 {W : World} (h : W.cell? ⟨0, 0, none⟩ = some errV) : StOk (S0 W) ⟨[], []⟩ where
  glob := ⟨h, trivial⟩
  no := rfl
  nr := rfl
  obj := fun i ob hi => by simp at hi
  inj := fun i j hi => by simp [S0] at hi
  row := fun r m hi => by simp at hi
  rinj := fun r r' m m' hi => by simp at hi
theorem below_of_ext {W : World} {S' : Sit} (h : Ext (S0 W) S') : Below W.heap.size W S'.w :=
  ⟨h.os, h.tape, h.output, h.size, fun b hb => (h.keep b hb rfl).1⟩

theorem kidsT : Kids Tryz.prog (· < Tryz.prog.types.size) := kids_rows (by kernel_rfl) (by kernel_rfl)
theorem fullT : ∀ t e, t < Tryz.prog.types.size → Tryz.prog.underlying t = some (.slice e) → 0 < Tryz.prog.cellsOf e := slices_full_of Tryz.prog (by kernel_rfl)
section
variable {H : Type} {enc : TypeId × Value → H}
theorem trodAll_stays {W W' : World} {sp : Nat → Bool} : ∀ {ts : List TypeId} {vs : List Value} {ds : List (DataW H)} {ps : List MemPlace}, (∀ t ∈ ts, t < Tryz.prog.types.size) → DataW.TrodAll enc Tryz.prog W 0 (fun _ => true) true ts vs ds ps →
    (∀ p ∈ ps, W.sameAt W' p) → (∀ p ∈ ps, sp p.block = true) → DataW.TrodAll enc Tryz.prog W' 0 sp true ts vs ds ps
  | [], [], [], _, _, h, _, _ => h
  | _ :: _, _ :: _, _ :: _, _, hT, ⟨p, q, ⟨n, h1⟩, h2, e⟩, hs, hp =>
    ⟨p, q, ⟨n, DataW.trod_stays kidsT (fun {t e} ht hu => fullT t e ht hu) (fun h => by cases h) (hT _ (List.mem_cons.2 (Or.inl rfl))) h1 (fun x hx => hs x (by rw [e]; exact List.mem_append_left _ hx)) (fun x hx => hp x (by rw [e]; exact List.mem_append_left _ hx))⟩,
      trodAll_stays (fun t ht => hT t (List.mem_cons.2 (Or.inr ht))) h2 (fun x hx => hs x (by rw [e]; exact List.mem_append_right _ hx)) (fun x hx => hp x (by rw [e]; exact List.mem_append_right _ hx)), e⟩

/-- Behind a call that turned nothing of what was there and gave true. -/
theorem post_true {fn : Func} {s : ChangeSpec} {W W' : World} {args : Array Value} {ds : List (DataW H)} {before : List MemPlace} (hv : s.vars = []) (hr : fn.resultTypes = #[4]) (hT : ∀ t ∈ fn.params.toList, t < Tryz.prog.types.size)
    (hW : DataW.Whole enc Tryz.prog fn.params.toList s.vars false W args.toList ds [] before) (hb : Below W.heap.size W W') (hs : s.fn H (ds ++ []) = { results := [.lit (.bool true)], args := ds }) :
    s.post enc Tryz.prog fn false true false false W args (.bool true) W' := by
  have hW' := hW
  obtain ⟨p, q, hA, hV, rfl, hfz, hnd⟩ := hW
  rw [hv] at hV
  obtain ⟨_, rfl⟩ := trodVars_none hV
  have hlt := hW'.lt
  refine ⟨ds, [], p ++ [], [], p, [], hW', ?_, ?_, ?_, hb.frame _, fun h => by cases h⟩
  · rw [hs, hr]
    exact trodAll_mk1 (shut_bool Tryz.underlying4 true)
  · rw [hs]
    exact trodAll_stays hT hA (fun x hx => hb.same (hlt x (by simp [hx]))) (fun x hx => by simpa using hlt x (by simp [hx]))
  · rw [hs, hv]; rfl

/-! ### Nodes -/
theorem trod_nodes {W : World} {a : Addr} : ∀ len : Nat, (∀ i, i < len → ∃ (d : Nd) (cs : List Value), W.cells? 0 (a.add (i * 8)) 8 = some cs ∧ Rels (S0 W) d.cells cs ∧ d.fit = true) →
    ∃ (ks : List Nd) (us : List Value), ks.length = len ∧ Rels (S0 W) (flat ks) us ∧ (∀ j u, us[j]? = some u → W.cell? (a.add j) = some u) ∧ ∀ k ∈ ks, k.fit = true
  | 0, _ => ⟨[], [], rfl, by rw [flat_nil]; exact .nil _, fun j u h => by simp at h, fun k h => by cases h⟩
  | len + 1, h => by
    obtain ⟨ks, us, h1, h2, h3, h4⟩ := trod_nodes len fun i hi => h i (by omega)
    obtain ⟨d, cs, g1, g2, g3⟩ := h len (by omega)
    obtain ⟨_, gl, gc⟩ := World.cells?_some g1
    have hul : us.length = len * 8 := by rw [h2.1, flat_len, h1]
    refine ⟨ks ++ [d], us ++ cs, by simp [h1], ?_, ?_, ?_⟩
    · rw [flat_append, flat_cons, flat_nil, List.append_nil]
      exact h2.append g2
    · intro j u hj
      by_cases hlt : j < us.length
      · rw [List.getElem?_append_left hlt] at hj
        exact h3 j u hj
      · rw [List.getElem?_append_right (by omega)] at hj
        have hl : j - us.length < 8 := by have := (List.getElem?_eq_some_iff.1 hj).1; omega
        have := gc (j - us.length) hl
        rw [hj] at this
        rw [← this]
        rw [Addr.add_add, show len * 8 + (j - us.length) = j by omega]
    · intro k hk
      rcases List.mem_append.1 hk with hk | hk
      · exact h4 k hk
      · rw [List.mem_singleton.1 hk]; exact g3

end
end Go.Proofs.YtknocbhocdenoaaGreatDoor
