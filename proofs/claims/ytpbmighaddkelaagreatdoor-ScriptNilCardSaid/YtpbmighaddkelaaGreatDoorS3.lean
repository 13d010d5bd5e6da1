/- What the evaluator is told of two library functions is so. -/
import Derived.Test.YtpbmighaddkelaaGreatDoorS1
import Derived.Test.YtpbmighaddkelaaGreatDoorS2
namespace Go.Proofs.YtpbmighaddkelaaGreatDoor
open Go.Ev

theorem findB_eq (c : UInt8) : ∀ (l : List UInt8) (i : Nat), findB c l i = if Lib.indexByte l c = -1 then -1 else Lib.indexByte l c + i
  | [], _ => rfl
  | b :: l, i => by
    have ih := findB_eq c l (i + 1)
    have hge := Lib.indexByte_ge l c
    simp only [findB, Lib.indexByte]
    by_cases hb : b = c
    · rw [if_pos hb]
      simp [hb]
    · rw [if_neg hb, ih]
      have hb' : (b == c) = false := by simpa using hb
      simp only [hb', Bool.false_eq_true, if_false, beq_iff_eq]
      by_cases h : Lib.indexByte l c = -1
      · simp [h]
      · rw [if_neg h, if_neg h, if_neg (by omega)]
        omega

theorem itoaS_eq {n : Int} {b : ByteArray} (h : itoaS n = some b) : ∃ i : Nat, i < 100 ∧ n = i ∧ b = ⟨(Lib.decDigits i).toArray⟩ := by
  unfold itoaS at h
  split at h
  · rename_i hn
    cases h
    refine ⟨n.toNat, by omega, by omega, ?_⟩
    rw [Lib.decDigits, dif_pos (by omega)]
  · split at h
    · rename_i hn
      cases h
      refine ⟨n.toNat, by omega, by omega, ?_⟩
      rw [Lib.decDigits, dif_neg (by omega), Lib.decDigits, dif_pos (by omega)]
      rfl
    · cases h

theorem ext_ok (K : Base) : ExtOK Tryz.prog K cfg := by
  intro f F hf
  have hf' : extF f = some F := hf
  unfold extF at hf'
  split at hf'
  · rename_i h326
    obtain rfl : f = 326 := Nat.eq_of_beq_eq_true h326
    cases hf'
    refine ⟨⟨_, Tryz.func326, by kernel_rfl⟩, fun args r hF _ g H w vs hr ha => ?_⟩
    unfold extIdx at hF
    split at hF
    · rename_i s c _
      cases hF
      obtain ⟨h1, h2⟩ := ha
      have e0 : vs.getD 0 undef = .string s := V.ofStr (h2 0 (by simp))
      have e1 : vs.getD 1 undef = .int .u8 c := V.ofInt (h2 1 (by simp))
      have ev : vs = #[.string s, .int .u8 c] := by
        have hs : vs.size = 2 := h1
        apply Array.ext
        · simpa using hs
        · intro i hi1 hi2
          rw [Array.getD_eq_getD_getElem?] at e0 e1
          simp at hi2
          rcases i with _ | _ | i
          · rw [Array.getElem?_eq_getElem hi1] at e0; simpa using e0
          · rw [Array.getElem?_eq_getElem hi1] at e1; simpa using e1
          · omega
      rw [ev]
      refine (Tryz.stringslite_IndexByte s c w).mono ?_
      rintro e w' ⟨he, hw⟩
      subst hw
      refine CallPost.onward hr he (.refl _ _) ?_
      have : findB c.toNat.toUInt8 s.data.toList 0 = Lib.indexByte s.data.toList c.toNat.toUInt8 := by
        rw [findB_eq]
        split
        · rename_i h; exact h.symm
        · simp
      rw [this]
      exact .int _ _
    · cases hF
  · split at hf'
    · rename_i h82
      obtain rfl : f = 82 := Nat.eq_of_beq_eq_true h82
      cases hf'
      refine ⟨⟨_, Tryz.func82, by kernel_rfl⟩, fun args r hF _ g H w vs hr ha => ?_⟩
      unfold extItoa at hF
      split at hF
      · rename_i n
        obtain ⟨b, hb, he⟩ := Option.map_eq_some_iff.1 hF
        cases he
        obtain ⟨i, hi, rfl, rfl⟩ := itoaS_eq hb
        obtain ⟨h1, h2⟩ := ha
        have e0 : vs.getD 0 undef = .int .i64 i := V.ofInt (h2 0 (by simp))
        have ev : vs = #[.int .i64 i] := by
          have hs : vs.size = 1 := h1
          apply Array.ext
          · simpa using hs
          · intro k hi1 hi2
            rw [Array.getD_eq_getD_getElem?] at e0
            simp at hi2
            subst hi2
            rw [Array.getElem?_eq_getElem hi1] at e0; simpa using e0
        rw [ev]
        refine (Tryz.strconv_Itoa_small i hi w).mono ?_
        rintro e w' ⟨he, hw⟩
        subst hw
        exact CallPost.onward hr he (.refl _ _) (.str _)
      · cases hF
    · cases hf'
end Go.Proofs.YtpbmighaddkelaaGreatDoor
