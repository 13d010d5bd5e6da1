/- The law 'counterfoillaw26.ScriptNil' (a session that is not there tells so): for every line the law answers true and leaves all as it was. Conditions: those of the given row alone (the listed tables of the library hold what its text lays). THE ROW. -/
import Derived.Test.YtpbmighaddkelaaGreatDoorRows
import Derived.Test.YtpbmighaddkelaaGreatDoorS3
import Derived.Test.YtpbmighaddkelaaGreatDoorE19
import Derived.ChangeSame
import Derived.ChangeVars
import Derived.JoinedOf
import Derived.RowKit
import Derived.RowKitTokens
import Derived.LaidLaws
import Derived.LaidHandle
import GoSem.ClaimGoes
namespace Go.Proofs.YtpbmighaddkelaaGreatDoor
open Go.ChangeShapes Go.WideShapes Go.RowKit Go.Ev

theorem own_none : ownKnob Tryz.prog.godebug = none := by kernel_rfl

mutual
def dcells : DataW Unit → List Value
  | .lit l => [l.value]
  | .agg ps => dcellsL ps
  | _ => [undef]
def dcellsL : List (DataW Unit) → List Value
  | [] => []
  | d :: r => dcells d ++ dcellsL r
end

noncomputable def low : Nat := (World.holding Tryz.prog default ⟨#[], #[], []⟩).heap.size

def rangeS : ByteArray := ⟨#[118, 97, 108, 117, 101, 32, 111, 117, 116, 32, 111, 102, 32, 114, 97, 110, 103, 101]⟩
def syntaxS : ByteArray := ⟨#[105, 110, 118, 97, 108, 105, 100, 32, 115, 121, 110, 116, 97, 120]⟩

noncomputable def layAt (g : Nat) (cs : List Value) (h : Array Obj) : Array Obj := h.modify g fun
  | .cells _ t frozen => .cells cs.toArray t frozen
  | o => o

/-- A world that meets the condition: the settled one, the listed variables' cells laid. -/
noncomputable def laidWorld (os : Os) : World :=
  let w0 := World.holding Tryz.prog os ⟨#[.cells #[.string rangeS] 387, .cells #[.string syntaxS] 387], #[], []⟩
  { w0 with heap := layAt 8 (dcells Rows.laid_math_bits_deBruijn32tab) (layAt 9 (dcells Rows.laid_math_bits_deBruijn64tab) (layAt 3 (dcells Rows.laid_internal_strconv_uint64pow10) (layAt 7 (dcells Rows.laid_unicode_utf8_acceptRanges)
      (layAt 5 [.iface 385 (.pointer (some ⟨low, 0, none⟩))] (layAt 4 [.iface 385 (.pointer (some ⟨low + 1, 0, none⟩))] (layAt 6 (dcells Rows.laid_unicode_utf8_first) w0.heap)))))) }

noncomputable def laidWorld0 (os : Os) (args : Array Value) : World := ((laidWorld os).forCall (fun _ _ => 0) ⟨#[], args, []⟩).memory

theorem laidWorld_met (os : Os) (args : Array Value) : laidMetH Tryz.prog Rows.scriptNilRow.laid ((laidWorld os).forCall (fun _ _ => 0) ⟨#[], args, []⟩).memory :=
  laidMetH_of_parts (laidMet_of_run' 8 (by kernel_rfl) (by kernel_rfl)) (by kernel_rfl)

end Go.Proofs.YtpbmighaddkelaaGreatDoor
