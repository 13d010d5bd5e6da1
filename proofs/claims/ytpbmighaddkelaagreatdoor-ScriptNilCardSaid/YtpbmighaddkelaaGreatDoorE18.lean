/- From a row's world into the evaluator's, and back; a library function's contract, as the evaluator takes it. -/
import Derived.Test.YtpbmighaddkelaaGreatDoorE17
namespace Go.Ev
open Go.RowKit (Below)

section
variable {K : Base} {g : Gh} {H : Heap} {w : World}

theorem RH.onward (hr : RH K g H w) {w' : World} (hb : Below w.heap.size w w') : Ext g H w g H w' ∧ RH K g H w' := by
  have e : Ext g H w g H w' := ⟨hb.os, hb.tape, hb.output, hb.size, fun β h _ => hb.block β h, fun _ h => h, fun _ h => .inl h, fun _ h => .inl h, Nat.le_refl _, fun b k k' hk hk' => by
    rw [hk] at hk'; cases hk'; exact Blk.to_refl g b k⟩
  refine ⟨e, ⟨fun b k h => ?_, hr.notS, hr.inj, fun β hs => Nat.lt_of_lt_of_le (hr.below β hs) hb.size, fun β h => ⟨(hr.base β h).1, by rw [hb.block β (hr.below β (hr.base β h).1)]; exact (hr.base β h).2⟩⟩⟩
  by_cases hl : k.live = true
  · exact Blk.at_mono hr e rfl rfl rfl (hb.block _ (hr.live_lt ⟨b, k, h, hl, rfl⟩)) (hr.at_ b k h)
  · cases k <;> first | trivial | (exact absurd rfl hl)

/-- A call that leaves what was there, and hands back what leads to no memory. -/
theorem CallPost.onward (hr : RH K g H w) {e : Ending} {w' : World} {r : AV} {v : Value} (he : e = .returned v) (hb : Below w.heap.size w w') (hv : V g H w' r v) : CallPost K g H w r H e w' := by
  obtain ⟨e1, hr'⟩ := hr.onward hb
  exact ⟨v, g, he, e1, hr', hv⟩

/-- What the memory of a row's world is to the evaluator: what nobody writes. -/
def baseOf (W : World) : Base := ⟨W.heap.size, fun β => W.heap[β]?⟩
def ghOf (W : World) : Gh := ⟨fun β => β < W.heap.size, fun _ => 0, fun _ => 0, fun _ => 0⟩

theorem rh_of (W : World) : RH (baseOf W) (ghOf W) [] W :=
  ⟨fun b k h => by simp at h, fun β hl => by obtain ⟨b, k, hk, _⟩ := hl; simp at hk, fun b b' k k' h => by simp at h, fun _ h => h, fun _ h => ⟨h, rfl⟩⟩

/-- THE EVALUATOR's ANSWER AT A ROW's WORLD. -/
theorem ev_row {C : Cfg} {W : World} (hP : progOk C.P = true) (hM : C.P.follows .mixedOrders = true) (hD : drawsOk C = true) (hE : ExtOK C.P (baseOf W) C) {n : Nat} {f : FuncId} {args : List AV} {vs : Array Value} {r : AV} {H' : Heap}
    (ha : Args (ghOf W) [] W args vs) (h : (ev C n).call f args [] = some (r, H')) {R : Ending → World → Prop} (hR : ∀ v W', Below W.heap.size W W' → (∃ g', V g' H' W' r v) → R (.returned v) W') : Calls C.P f vs W R := by
  obtain ⟨_, hc⟩ := (ev_sound (K := baseOf W) hP hM hD hE n).1 f args [] r H' h
  refine (hc (ghOf W) W vs (rh_of W) ha).mono ?_
  rintro e W' ⟨v, g', rfl, e1, hr', hv⟩
  refine hR v W' ⟨e1.os, e1.tape, e1.output, e1.size, fun β hb => e1.frame β hb fun hl => ?_⟩ ⟨g', hv⟩
  obtain ⟨b, k, hk, _⟩ := hl
  simp at hk

/-- What a table of the program's holds, wherever the evaluator is. -/
theorem RH.table {W : World} (hr : RH (baseOf W) g H w) {β : Nat} (hb : β < W.heap.size) (o : Nat) : w.cell? ⟨β, o, none⟩ = W.cell? ⟨β, o, none⟩ := World.cell?_of_block (w := W) (w' := w) (a := ⟨β, o, none⟩) (hr.base β hb).2

end
end Go.Ev
