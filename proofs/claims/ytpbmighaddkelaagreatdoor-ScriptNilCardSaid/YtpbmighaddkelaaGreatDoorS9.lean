/- The law 'counterfoillaw26.ScriptNil' (a session that is not there tells so): for every line the law answers true and leaves all as it was. Conditions: those of the given row alone (the listed tables of the library hold what its text lays); the card ties these to the program's text. THE ROW AND THE CARD. -/
import Derived.Test.YtpbmighaddkelaaGreatDoorCards
import Derived.Test.YtpbmighaddkelaaGreatDoorTie
import Derived.Test.YtpbmighaddkelaaGreatDoorS5
import Derived.Test.YtpbmighaddkelaaGreatDoorS8
import Derived.SevenTiedAt
namespace Go.Proofs.YtpbmighaddkelaaGreatDoor
open Go

theorem scriptNil_holds : Rows.ScriptNilSaid :=
  OpenClaim.holds_of_wide 3 Tryz.f3 rfl rfl rfl rfl rfl rfl rfl ⟨rfl, rfl, rfl, rfl, rfl⟩ rfl rfl rfl rfl rfl (by kernel_rfl) Tryz.func3 closed_facts
    (of_decide_eq_true (by kernel_rfl)) (by unfold Func.isWrapper; rw [if_neg (of_decide_eq_false (by kernel_rfl))]; exact ⟨rfl, rfl⟩)
    (fun os started H enc _ => law_lifted os started H enc)

/-- No text of the program starts a goroutine, so none that the law comes to does. -/
theorem goes_by {c : OpenClaim} (hs : c.start = .entering) : false = c.goesBy Tryz.pinned.checked.prog := by
  have hg : ∀ fn ∈ Tryz.prog.funcs.toList, fn.goes = false := fun fn h => by
    have := List.all_eq_true.1 goes_none fn h
    simpa using this
  have h1 : ∀ f : FuncId, ((Tryz.prog.funcs[f]?).any Func.goes) = false := fun f => by
    cases h : Tryz.prog.funcs[f]? with
    | none => rfl
    | some fn => exact hg fn (by rw [Array.mem_toList_iff]; exact Array.mem_of_getElem? h)
  have h2 : Tryz.prog.funcs.any Func.goes = false := by
    rw [Bool.eq_false_iff]
    intro h
    rw [Array.any_eq_true] at h
    obtain ⟨i, hi, h⟩ := h
    rw [hg _ (by rw [Array.mem_toList_iff]; exact Array.getElem_mem hi)] at h
    cases h
  have h3 : ∀ f : FuncId, Tryz.prog.goes f = false := fun f => by
    unfold Program.goes
    rw [h2, Bool.and_false, Bool.or_false, Bool.eq_false_iff]
    intro h
    rw [List.any_eq_true] at h
    obtain ⟨g, _, h⟩ := h
    rw [h1] at h
    cases h
  show false = Tryz.prog.goesAt c.start c.func
  rw [hs]
  unfold Program.goesAt Program.goesFrom
  cases Tryz.prog.funcNamed c.func with
  | none => rfl
  | some f => simp [h3]

theorem scriptNil_card_holds : Rows.ScriptNilCardSaid :=
  Claim7.holds_tied_plain_at .later [] [.data, .data, .data, .data, .sentinel, .sentinel, .pinned] true (true, "6e441b5dba84f7612cb4e774537794e45600b882aff2c307725ed583720951dd") true
    scriptNil_holds (fun _ h => by cases h) (by kernel_rfl) (fun _ h => by cases h) scriptNil_row_tie rfl ⟨rfl, rfl⟩ (by kernel_rfl) rfl
    (fun f fn hf hfn => by
      obtain rfl : f = 3 := Option.some.inj ((show Tryz.prog.funcNamed "counterfoil/counterfoillaw26.ScriptNil" = some 3 by kernel_rfl).symm.trans hf) |>.symm
      obtain rfl : fn = Tryz.f3 := (Option.some.inj (Tryz.func3.symm.trans hfn)).symm
      exact ⟨by kernel_rfl, fun j t ht => by
        rw [Tryz.params3] at ht
        have h3 : t = 9 := by
          rcases j with _ | j
          · simpa using ht.symm
          · simp at ht
        subst h3
        exact (show Tryz.prog.wantsStandIn 9 = false by kernel_rfl)⟩)
    (goes_by rfl)
end Go.Proofs.YtpbmighaddkelaaGreatDoor
