/- The law 'counterfoillaw26.ScriptNil': the row's closed facts that look at the functions it comes to. -/
import Derived.Test.YtpbmighaddkelaaGreatDoorRows
import Derived.Test.YtpbmighaddkelaaGreatDoorS6
namespace Go.Proofs.YtpbmighaddkelaaGreatDoor
theorem fact_inPlace : Tryz.prog.inPlace 3 = Rows.scriptNilRow.inPlace := by
  unfold Program.inPlace
  rw [clo]
  kernel_rfl
theorem fact_unfollowed : Tryz.prog.unfollowed 3 = true := by
  unfold Program.unfollowed
  rw [clo]
  kernel_rfl
theorem fact_recurses : Tryz.prog.recurses 3 = true := by
  unfold Program.recurses
  rw [fact_unfollowed, Bool.true_or]
theorem fact_named : Tryz.prog.varsNamed 3 = Rows.scriptNilRow.named := by
  unfold Program.varsNamed
  rw [clo]
  kernel_rfl
end Go.Proofs.YtpbmighaddkelaaGreatDoor
