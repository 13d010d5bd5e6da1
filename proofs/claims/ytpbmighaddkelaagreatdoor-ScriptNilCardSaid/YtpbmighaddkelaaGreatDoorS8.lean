/- The law 'counterfoillaw26.ScriptNil': the row's closed facts. -/
import Derived.Test.YtpbmighaddkelaaGreatDoorS7
import Derived.JoinedOf
import Derived.KernelRfl
namespace Go.Proofs.YtpbmighaddkelaaGreatDoor
theorem closed_facts : joinedFacts Tryz.pinned.checked.prog 3 Tryz.f3 Rows.scriptNilSpec Rows.scriptNilRow = true := by
  have e : Tryz.pinned.checked.prog = Tryz.prog := rfl
  rw [e]
  unfold joinedFacts
  rw [fact_inPlace, fact_unfollowed, fact_recurses, fact_named]
  show _ = true
  kernel_rfl
end Go.Proofs.YtpbmighaddkelaaGreatDoor
