/- How the closed facts of a row are put together from facts of the program and small ones. -/
import Derived.Test.YtknocbhocdenoaaGreatDoorBcD
namespace Go.Proofs.YtknocbhocdenoaaGreatDoor
open Go
theorem and_ {a b : Bool} (ha : a = true) (hb : b = true) : (a && b) = true := by rw [ha, hb]; rfl
set_option maxRecDepth 100000 in
/-- The closed facts of a row, put together. -/
theorem joined_of {f : FuncId} {fn : Func} {s : ChangeSpec} {c : OpenClaim}
  (k1 : (c.wf (OpenSpec.ofChange s) : Bool) = true)
  (k4 : (fn.params.all (Tryz.prog.readableRec ·) : Bool) = true)
  (k5 : (namedTie Tryz.prog c.named s.vars : Bool) = true)
  (k6 : ((c.stops == []) : Bool) = true)
  (k8 : ((c.knobs == []) : Bool) = true)
  (k10 : ((c.inPlace == Tryz.prog.inPlace f) : Bool) = true)
  (k11 : ((c.unfollowed == Tryz.prog.unfollowed f) : Bool) = true)
  (k12 : ((c.recurses == Tryz.prog.recurses f) : Bool) = true)
  (k13 : ((c.named == Tryz.prog.varsNamed f) : Bool) = true)
  (k14 : ((c.maps == (fn.params.toList ++ s.plain.varTypes Tryz.prog).any (Tryz.prog.mapsRec ·)) : Bool) = true)
  (k15 : ((c.ifaces == (fn.params.toList ++ s.plain.varTypes Tryz.prog).any (Tryz.prog.ifacesRec ·)) : Bool) = true)
  (k16 : ((c.mapsOut == Tryz.prog.mapsAmong fn.resultTypes.toList) : Bool) = true)
  (k17 : ((c.loops == (fn.params.toList ++ s.plain.varTypes Tryz.prog).any (Tryz.prog.loopsFrom ·)) : Bool) = true)
  (k17b : ((c.wideKeys == (fn.params.toList ++ s.plain.varTypes Tryz.prog ++ fn.resultTypes.toList).any (Tryz.prog.wideKeysFrom ·)) : Bool) = true)
  (k18 : (s.vars.all (Tryz.prog.varReadable ·) : Bool) = true)
  (k19 : (fn.resultTypes.all (fun t => Tryz.prog.readableRec t && decide (t < Tryz.prog.types.size)) : Bool) = true)
  (k20 : ((c.ifacesOut == fn.resultTypes.toList.any (Tryz.prog.ifacesRec ·)) : Bool) = true)
  (k21 : ((c.loopsOut == fn.resultTypes.toList.any (Tryz.prog.loopsFrom ·)) : Bool) = true)
  (k22 : ((c.plainKeys == Tryz.prog.plainKeys) : Bool) = true)
  (k23 : (c.shortTexts.isNone : Bool) = true)
  (k24b : ((c.lifted == Tryz.prog.liftsFinal) : Bool) = true)
  (k24c : ((Tryz.prog.make == some c.make) : Bool) = true)
  (k25a : c.domain = []) (k25b : c.kinds = [])
  (k26 : ((c.pinned == c.pinnedBy) : Bool) = true)
  (k27 : ((c.veiled == (fn.params.toList ++ s.plain.varTypes Tryz.prog ++ fn.resultTypes.toList).any (Tryz.prog.veiledRec ·)) : Bool) = true)
  (k28 : (c.veiledFits Tryz.prog fn.params.toList (fn.params.toList ++ s.plain.varTypes Tryz.prog ++ fn.resultTypes.toList) : Bool) = true) :
    joinedFacts Tryz.prog f fn s c = true := by
  unfold joinedFacts
  exact and_ (and_ (and_ (and_ (and_ (and_ (and_ (and_ (and_ (and_ (and_ (and_ (and_ (and_ (and_ (and_ (and_ (and_ (and_ (and_ (and_ (and_ (and_ (and_ (and_ (and_ (and_ (and_ (and_ (and_ (and_ k1 p_k2) p_k3) k4) k5) k6) p_k7) k8) p_k9) k10) k11) k12) k13) k14) k15) k16) k17) k17b) k18) k19) k20) k21) k22) k23) p_k23b) p_k24) k24b) k24c) (by rw [k25a, k25b]; rfl)) k26) k27) k28
end Go.Proofs.YtknocbhocdenoaaGreatDoor
