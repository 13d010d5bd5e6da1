/- The law 'counterfoillaw26.ScriptNil' (a session that is not there tells so): for every line the law answers true and leaves all as it was. Conditions: those of the given row alone (the listed tables of the library hold what its text lays). THE ROW. -/
import Derived.Test.YtpbmighaddkelaaGreatDoorS4
import Derived.ChangeMaps5
namespace Go.Proofs.YtpbmighaddkelaaGreatDoor
open Go.ChangeShapes Go.WideShapes Go.RowKit Go.Ev

theorem goes_none : (Tryz.prog.funcs.toList.all fun fn => !fn.goes) = true := by kernel_rfl
theorem draws_fine : drawsOk cfg = true := draws_ok
theorem prog_fine : progOk Tryz.prog = true := by kernel_rfl
theorem mixed_fine : Tryz.prog.follows .mixedOrders = true := by kernel_rfl
theorem laid_out : laidOutB Tryz.prog = true := by kernel_rfl


theorem params3_readable : (Tryz.f3.params.toList.all fun t => Tryz.prog.readableRec t && decide (t < Tryz.prog.types.size)) = true := by kernel_rfl

set_option maxRecDepth 100000 in
theorem law_lifted (os : Os) (started : os.Started) (H : Type) (enc : TypeId × Value → H) :
    ReturnsInHanded {} Tryz.checked os 3 .any (fun w args => (Rows.scriptNilSpec.pre enc Tryz.prog Tryz.f3 [] false w args ∧ laidMetH Tryz.prog Rows.scriptNilRow.laid w) ∧ sizedMet enc Tryz.prog Tryz.f3 (OpenSpec.ofChange Rows.scriptNilSpec) false w args)
      (Rows.scriptNilSpec.post enc Tryz.prog Tryz.f3 false true false false) := by
  refine returnsInHanded_shaped_and (C := Tryz.checked) (X := fun w _ => laidMetH Tryz.prog Rows.scriptNilRow.laid w) (fun _ _ _ hh h => h.of_heap hh) own_none started (by kernel_rfl) Tryz.func3
    (ChangeSpec.witness_at (enc := enc) (C := Tryz.checked) (os := os) (X := fun w _ => laidMetH Tryz.prog Rows.scriptNilRow.laid w) false (laidWorld os) #[.string ⟨#[]⟩] 8 rfl (by kernel_rfl) (by kernel_rfl) (by kernel_rfl) (by kernel_rfl) (by kernel_rfl) (laidWorld_met os _)) ?_
  intro W base args ds gs before hval0 hW _ _ _ _
  have hval : ∀ (j : Nat) t v, Tryz.f3.params[j]? = some t → args[j]? = some v → Value.okWide Tryz.prog W .any base t v := hval0
  have hW' := hW
  obtain ⟨p, q, hA0, hV0, rfl, hfz, hnd⟩ := hW
  have hA : DataW.TrodAll enc Tryz.prog W 0 (fun _ => true) true Tryz.f3.params.toList args.toList ds p := hA0
  rw [Tryz.params3] at hA hval
  obtain ⟨v0, d0, rfl, rfl, h0⟩ := trodAll_one hA
  obtain ⟨s, rfl, rfl, rfl, hws⟩ := Go.ChangeMaps.open_string Tryz.underlying9 (hval 0 9 v0 rfl rfl) h0
  refine ev_row (C := cfg) prog_fine mixed_fine draws_fine (ext_ok _) (args := [.str s]) ⟨rfl, fun i hi => ?_⟩ (ev_law s) ?_
  · obtain rfl : i = 0 := by simpa using hi
    exact .str s
  · rintro v W' hB ⟨g', hv⟩
    obtain rfl : v = .bool true := V.ofBool hv
    refine ⟨_, rfl, ?_⟩
    exact law_post rfl (fun ds hds => by
      match ds, hds with
      | [d], _ => rfl) (by kernel_rfl) Tryz.underlying4 laid_out params3_readable hW' hB

end Go.Proofs.YtpbmighaddkelaaGreatDoor
