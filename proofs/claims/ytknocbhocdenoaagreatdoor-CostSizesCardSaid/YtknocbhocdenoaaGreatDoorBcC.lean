/- The row of CostSizes. -/
import Derived.Test.YtknocbhocdenoaaGreatDoorBcB
import Derived.Test.YtknocbhocdenoaaGreatDoorBcE
import Derived.Test.YtknocbhocdenoaaGreatDoorBcF
import Derived.Test.YtknocbhocdenoaaGreatDoorBbL
import Derived.Test.YtknocbhocdenoaaGreatDoorCards
import Derived.Test.YtknocbhocdenoaaGreatDoorTie
import Derived.SevenTiedAt
namespace Go.Proofs.YtknocbhocdenoaaGreatDoor
open Go Go.ChangeShapes Go.WideShapes Go.RowKit

set_option maxRecDepth 100000 in
theorem costSizes_lifted (os : Os) (started : os.Started) (H : Type) (enc : TypeId × Value → H) :
    ReturnsInHanded {} Tryz.checked os 17 .any (fun w args => (Rows.costSizesSpec.pre enc Tryz.prog Tryz.f17 [] false w args ∧ laidMetH Tryz.prog laidE w) ∧ sizedMet enc Tryz.prog Tryz.f17 (OpenSpec.ofChange Rows.costSizesSpec) false w args)
      (Rows.costSizesSpec.post enc Tryz.prog Tryz.f17 false true false false) := by
  refine returnsInHanded_of_change_and (C := Tryz.checked) (X := fun w _ => laidMetH Tryz.prog laidE w) (fun _ _ _ hh h => h.of_heap hh) own started (by kernel_rfl) Tryz.func17
    (ChangeSpec.witness_at (enc := enc) (C := Tryz.checked) (os := os) (X := fun w _ => laidMetH Tryz.prog laidE w) false (laidWorld os) #[.agg #[.int .u8 0, .int .u8 0, .int .u8 0, .int .i64 0, .int .u8 0, .string ⟨#[]⟩, .slice none 0 0, .int .i64 0]] 8 rfl (by kernel_rfl) (by kernel_rfl) (by kernel_rfl) (by kernel_rfl) (by kernel_rfl) (laidWorld_met os _)) ?_
  intro W base args ds gs before hval0 hW _ hsz hL _
  have hval : ∀ (j : Nat) t v, Tryz.f17.params[j]? = some t → args[j]? = some v → Value.okWide Tryz.prog W .any base t v := hval0
  have hW' := hW
  obtain ⟨p, q, hA0, hV, rfl, hfz, hnd⟩ := hW
  obtain ⟨rfl, rfl⟩ := trodVars_none hV
  have hA : DataW.TrodAll enc Tryz.prog W 0 (fun _ => true) true Tryz.f17.params.toList args.toList ds p := hA0
  rw [Tryz.params17] at hA hval
  obtain ⟨v0, d0, rfl, rfl, h0⟩ := trodAll_one hA
  have hw0 : (d0.weights Tryz.prog 35).all (· ≤ reachBytes) = true := by
    have : (DataW.weightsEach Tryz.prog [35] [d0]).all (· ≤ reachBytes) = true := by
      rw [← List.append_nil [d0]]
      exact hsz
    simpa [DataW.weightsEach] using this
  obtain ⟨a, ha, hf⟩ := open_node (hval 0 35 v0 rfl rfl) h0 hw0
  refine (good_law Tryz.func17 rfl rfl hL (.cons ha (.nil _)) (g17 (fun st => g52 st) a hf ⟨[], []⟩)).mono fun e W' ⟨he, hb⟩ => ?_
  exact ⟨_, he, post_true rfl rfl (by rw [Tryz.params17]; decide) hW' hb rfl⟩

theorem f17_place : ((Rows.costSizesRow.inPlace == Tryz.prog.inPlace 17) : Bool) = true := by kernel_rfl
theorem f17_unfollowed : ((Rows.costSizesRow.unfollowed == Tryz.prog.unfollowed 17) : Bool) = true := by kernel_rfl
theorem f17_recurses : ((Rows.costSizesRow.recurses == Tryz.prog.recurses 17) : Bool) = true := by kernel_rfl
theorem f17_named : ((Rows.costSizesRow.named == Tryz.prog.varsNamed 17) : Bool) = true := by kernel_rfl
theorem f17_joined : joinedFacts Tryz.prog 17 Tryz.f17 Rows.costSizesSpec Rows.costSizesRow = true :=
  joined_of (by kernel_rfl) (by kernel_rfl) (by kernel_rfl) rfl rfl f17_place f17_unfollowed f17_recurses f17_named (by kernel_rfl) (by kernel_rfl) (by kernel_rfl) (by kernel_rfl) (by kernel_rfl) (by kernel_rfl) (by kernel_rfl) (by kernel_rfl) (by kernel_rfl) p_k22 (by kernel_rfl) p_k24b p_k24c rfl rfl (by kernel_rfl) (by kernel_rfl) (by kernel_rfl)
theorem f17_func : Tryz.prog.funcNamed "tripwire/tripwirelaw16.CostSizes" = some 17 := by kernel_rfl
theorem costSizes_holds : Rows.CostSizesSaid :=
  OpenClaim.holds_of_wide 17 Tryz.f17 rfl rfl rfl rfl rfl rfl rfl ⟨rfl, rfl, rfl, rfl, rfl⟩ rfl rfl rfl rfl rfl f17_func Tryz.func17 f17_joined
    (of_decide_eq_true (by kernel_rfl)) (by unfold Func.isWrapper; rw [if_neg (of_decide_eq_false (by kernel_rfl))]; exact ⟨rfl, rfl⟩)
    (fun os started H enc _ => costSizes_lifted os started H enc)

theorem f17_goes : false = Rows.costSizesRow.goesBy Tryz.pinned.checked.prog := by kernel_rfl
theorem f17_wf : Rows.costSizesRow.wfByText (OpenSpec.ofChange Rows.costSizesSpec) = true := by kernel_rfl
theorem costSizes_card : Rows.CostSizesCardSaid :=
  Claim7.holds_tied_plain_at .later [] [.handle] true (true, "9abeb16d8adb9a1320dcc905a9192c230b8dbeb117e6934aeee7d1c6e9696810") true
    costSizes_holds (fun _ h => by cases h) f17_wf (fun _ h => by cases h) costSizes_row_tie rfl ⟨rfl, rfl⟩ p_main rfl
    (fun f fn hf hfn => by
      obtain rfl : f = 17 := Option.some.inj (f17_func.symm.trans hf) |>.symm
      obtain rfl : fn = Tryz.f17 := (Option.some.inj (Tryz.func17.symm.trans hfn)).symm
      exact ⟨p_looks, fun j t ht => by
        rw [Tryz.params17] at ht
        have h3 : t = 35 := by
          rcases j with _ | j
          · simpa using ht.symm
          · simp at ht
        subst h3
        exact p_node⟩)
    f17_goes
#print axioms costSizes_card
end Go.Proofs.YtknocbhocdenoaaGreatDoor
