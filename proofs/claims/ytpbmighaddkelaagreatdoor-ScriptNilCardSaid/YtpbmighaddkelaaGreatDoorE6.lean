/- What becomes of the relation when memory is made, written or left. -/
import Derived.Test.YtpbmighaddkelaaGreatDoorE5
namespace Go.Ev

section
variable {P : Program} {K : Base} {g : Gh} {H : Heap} {w : World}

theorem Blk.at_mono {g' : Gh} {H' : Heap} {w' : World} (hr : RH K g H w) (e : Ext g H w g' H' w') {b : Nat} {k : Blk} (hμ : g'.μ b = g.μ b) (hcap : g'.cap b = g.cap b) (hsz : g'.sz b = g.sz b)
    (hh : w'.heap[g.μ b]? = w.heap[g.μ b]?) (h : k.at g H w b) : k.at g' H' w' b := by
  cases k with
  | dead => trivial
  | void => trivial
  | arr z xs =>
    obtain ⟨h0, arr, ty, fr, h1, h2, h3, h4, h5, h6⟩ := h
    refine ⟨by rw [hsz]; exact h0, arr, ty, fr, by rw [hμ, hh]; exact h1, h2, by rw [hcap, hsz]; exact h3, by rw [hcap]; exact h4, by rw [hcap]; exact h5, fun i hi => ?_⟩
    obtain ⟨h7, h8⟩ := h6 i hi
    rw [hsz]
    exact ⟨h7, fun j hj => V.mono hr e (h8 j hj)⟩
  | mapb es c =>
    obtain ⟨es', h1, h2, h3⟩ := h
    refine ⟨es', by rw [hμ, hh]; exact h1, h2, fun i hi hi' => ?_⟩
    obtain ⟨h4, h5, h6⟩ := h3 i hi hi'
    exact ⟨V.mono hr e h4, V.mono hr e h5, h6⟩
  | siter s p =>
    show w'.heap[g'.μ b]? = _
    rw [hμ, hh]; exact h

/-- The machine's blocks as they were, but for one more. -/
structure Pushed (w w' : World) (o : Obj) : Prop where
  heap : w'.heap = w.heap.push o
  os : w'.os = w.os
  tape : w'.tape = w.tape
  output : w'.output = w.output

theorem Pushed.size {w' : World} {o : Obj} (h : Pushed w w' o) : w'.heap.size = w.heap.size + 1 := by rw [h.heap]; simp
theorem Pushed.old {w' : World} {o : Obj} (h : Pushed w w' o) {β : Nat} (hb : β < w.heap.size) : w'.heap[β]? = w.heap[β]? := by
  rw [h.heap, Array.getElem?_push, if_neg (by omega)]
theorem Pushed.new {w' : World} {o : Obj} (h : Pushed w w' o) : w'.heap[w.heap.size]? = some o := by
  rw [h.heap, Array.getElem?_push, if_pos rfl]
theorem Pushed.alloc (w : World) (o : Obj) : Pushed w (w.alloc o) o := ⟨rfl, rfl, rfl, rfl⟩
theorem Pushed.drew {w' : World} {o : Obj} (h : Pushed w.drew w' o) : Pushed w w' o := ⟨h.heap, h.os, h.tape, h.output⟩

def Gh.put (g : Gh) (b β cap sz : Nat) : Gh :=
  ⟨g.S, fun x => if x = b then β else g.μ x, fun x => if x = b then cap else g.cap x, fun x => if x = b then sz else g.sz x⟩

theorem getElem?_snoc {H : Heap} {k k' : Blk} {b : Nat} (h : (H ++ [k])[b]? = some k') : (b < H.length ∧ H[b]? = some k') ∨ (b = H.length ∧ k' = k) := by
  rcases Nat.lt_trichotomy b H.length with h1 | h1 | h1
  · rw [List.getElem?_append_left h1] at h; exact .inl ⟨h1, h⟩
  · subst h1; simp at h; exact .inr ⟨rfl, h.symm⟩
  · rw [List.getElem?_eq_none (by simp; omega)] at h; cases h

theorem getElem?_set_cases {H : Heap} {k k' : Blk} {b x : Nat} (h : (H.set b k)[x]? = some k') : (x ≠ b ∧ H[x]? = some k') ∨ (x = b ∧ k' = k ∧ b < H.length) := by
  rw [List.getElem?_set] at h
  by_cases hx : b = x
  · subst hx
    rw [if_pos rfl] at h
    split at h
    · rename_i hb; cases h; exact .inr ⟨rfl, rfl, hb⟩
    · cases h
  · rw [if_neg hx] at h
    exact .inl ⟨fun e => hx e.symm, h⟩

theorem Real.set {H : Heap} {b : Nat} {k : Blk} (h : b < H.length) (hk : k ≠ .void) : Real (H.set b k) b := ⟨k, by simp [h], hk⟩

theorem newB_spec {al : Option Nat} {k : Blk} {b : Nat} {H' : Heap} (h : newB al H k = some (b, H')) (hv : k ≠ .void) : H.length ≤ H'.length ∧ H'[b]? = some k ∧ Real H' b ∧ (∀ k0, H[b]? = some k0 → k0 = .void) ∧ (∀ x k', H'[x]? = some k' → (x ≠ b ∧ H[x]? = some k') ∨ (x = b ∧ k' = k)) ∧ (∀ x k1 k2, H[x]? = some k1 → H'[x]? = some k2 → (x ≠ b ∧ k2 = k1) ∨ k1 = .void) := by
  unfold newB at h
  cases al with
  | none =>
    cases h
    have hg : (H ++ [k])[H.length]? = some k := by simp
    refine ⟨by simp, hg, ⟨k, hg, hv⟩, fun k0 h0 => ?_, fun x k' hx => ?_, fun x k1 k2 h1 h2 => ?_⟩
    · rw [List.getElem?_eq_none (Nat.le_refl _)] at h0; cases h0
    · rcases getElem?_snoc hx with ⟨h1, h2⟩ | h1
      · exact .inl ⟨by omega, h2⟩
      · exact .inr h1
    · have hb : x < H.length := (List.getElem?_eq_some_iff.1 h1).1
      rw [List.getElem?_append_left hb, h1] at h2
      cases h2
      exact .inl ⟨by omega, rfl⟩
  | some i =>
    simp only at h
    split at h
    · rename_i hi
      cases h
      have hb : b < H.length := (List.getElem?_eq_some_iff.1 hi).1
      have hg : (H.set b k)[b]? = some k := by simp [hb]
      refine ⟨by simp, hg, ⟨k, hg, hv⟩, fun k0 h0 => ?_, fun x k' hx => ?_, fun x k1 k2 h1 h2 => ?_⟩
      · rw [hi] at h0; cases h0; rfl
      · rcases getElem?_set_cases hx with h1 | ⟨h1, h2, _⟩
        · exact .inl h1
        · exact .inr ⟨h1, h2⟩
      · rcases getElem?_set_cases h2 with ⟨h3, h4⟩ | ⟨rfl, _, _⟩
        · rw [h1] at h4; cases h4; exact .inl ⟨h3, rfl⟩
        · rw [hi] at h1; cases h1; exact .inr rfl
    · cases h

/-- A block more on both sides. -/
theorem alloc_blk (hr : RH K g H w) {w' : World} {o : Obj} (hp : Pushed w w' o) {al : Option Nat} {b0 : Nat} {H' : Heap} (k : Blk) (cap sz : Nat) (hk : k.live = true) (hnb : newB al H k = some (b0, H'))
    (hat : ∀ g' : Gh, g' = g.put b0 w.heap.size cap sz → Ext g H w g' H' w' → k.at g' H' w' b0) :
    Ext g H w (g.put b0 w.heap.size cap sz) H' w' ∧ RH K (g.put b0 w.heap.size cap sz) H' w' := by
  obtain ⟨q1, q2, _, q3, q4, q5⟩ := newB_spec hnb (by rintro rfl; cases hk)
  have hsz := hp.size
  have hold : ∀ b, b ≠ b0 → (g.put b0 w.heap.size cap sz).μ b = g.μ b ∧ (g.put b0 w.heap.size cap sz).cap b = g.cap b ∧ (g.put b0 w.heap.size cap sz).sz b = g.sz b := fun b hb => by
    simp [Gh.put, hb]
  have hnew : (g.put b0 w.heap.size cap sz).μ b0 = w.heap.size := by simp [Gh.put]
  have e : Ext g H w (g.put b0 w.heap.size cap sz) H' w' := by
    refine ⟨hp.os, hp.tape, hp.output, by omega, fun β hb _ => hp.old hb, fun _ h => h, fun _ h => .inl h, ?_, q1, ?_⟩
    · rintro β ⟨b, k', hb, hl, rfl⟩
      rcases q4 b k' hb with ⟨h1, h2⟩ | ⟨rfl, rfl⟩
      · rw [(hold b h1).1]; exact .inl ⟨b, k', h2, hl, rfl⟩
      · rw [hnew]; exact .inr (Nat.le_refl _)
    · intro b k1 k2 h1 h2
      rcases q5 b k1 k2 h1 h2 with ⟨hb, rfl⟩ | rfl
      · obtain ⟨e1, e2, e3⟩ := hold b hb
        cases k2 with
        | void => trivial
        | dead => rfl
        | arr z xs => exact .inr ⟨xs, rfl, Nat.le_refl _, fun _ => ⟨e1, e2⟩, e3⟩
        | mapb es c => exact .inr ⟨es, c, rfl, e1⟩
        | siter s p => exact .inr ⟨s, p, rfl, e1⟩
      · trivial
  refine ⟨e, ?_⟩
  have hlt : ∀ b k', H[b]? = some k' → k'.live = true → g.μ b < w.heap.size := fun b k' h1 h2 => hr.live_lt ⟨b, k', h1, h2, rfl⟩
  refine ⟨fun b k' hb => ?_, ?_, ?_, fun β h => by have := hr.below β h; omega, fun β h => ⟨(hr.base β h).1, by rw [hp.old (hr.below β (hr.base β h).1)]; exact (hr.base β h).2⟩⟩
  · rcases q4 b k' hb with ⟨h1, h2⟩ | ⟨rfl, rfl⟩
    · by_cases hl : k'.live = true
      · obtain ⟨e1, e2, e3⟩ := hold b h1
        exact Blk.at_mono hr e e1 e2 e3 (hp.old (hlt b k' h2 hl)) (hr.at_ b k' h2)
      · cases k' <;> first | trivial | (exact absurd rfl hl)
    · exact hat _ rfl e
  · rintro β ⟨b, k', hb, hl, rfl⟩ hS
    rcases q4 b k' hb with ⟨h1, h2⟩ | ⟨rfl, rfl⟩
    · rw [(hold b h1).1] at hS; exact hr.notS _ ⟨b, k', h2, hl, rfl⟩ hS
    · rw [hnew] at hS; have := hr.below _ hS; omega
  · intro b b' k1 k2 hb hb' hl hl' he
    rcases q4 b k1 hb with ⟨h1, h2⟩ | ⟨rfl, rfl⟩ <;> rcases q4 b' k2 hb' with ⟨h3, h4⟩ | ⟨rfl, rfl⟩
    · rw [(hold b h1).1, (hold b' h3).1] at he; exact hr.inj b b' k1 k2 h2 h4 hl hl' he
    · rw [(hold b h1).1, hnew] at he; have := hlt b k1 h2 hl; omega
    · rw [(hold b' h3).1, hnew] at he; have := hlt b' k2 h4 hl'; omega
    · rfl

/-- A block more of the machine's that nobody will write. -/
theorem alloc_stable (hr : RH K g H w) {w' : World} {o : Obj} (hp : Pushed w w' o) :
    Ext g H w ⟨fun β => g.S β ∨ β = w.heap.size, g.μ, g.cap, g.sz⟩ H w' ∧ RH K ⟨fun β => g.S β ∨ β = w.heap.size, g.μ, g.cap, g.sz⟩ H w' := by
  have hsz := hp.size
  have e : Ext g H w ⟨fun β => g.S β ∨ β = w.heap.size, g.μ, g.cap, g.sz⟩ H w' :=
    ⟨hp.os, hp.tape, hp.output, by omega, fun β hb _ => hp.old hb, fun _ h => .inl h, fun β h => by
      rcases h with h | h
      · exact .inl h
      · exact .inr (.inr (by omega)), fun β h => .inl h, Nat.le_refl _, fun b k1 k2 h1 h2 => by
        rw [h1] at h2; cases h2
        cases k1 with
        | void => trivial
        | dead => rfl
        | arr z xs => exact .inr ⟨xs, rfl, Nat.le_refl _, fun _ => ⟨rfl, rfl⟩, rfl⟩
        | mapb es c => exact .inr ⟨es, c, rfl, rfl⟩
        | siter s p => exact .inr ⟨s, p, rfl, rfl⟩⟩
  refine ⟨e, fun b k hb => ?_, fun β hl h => ?_, hr.inj, fun β h => ?_, fun β h => ⟨.inl (hr.base β h).1, by rw [hp.old (hr.below β (hr.base β h).1)]; exact (hr.base β h).2⟩⟩
  · by_cases hl : k.live = true
    · exact Blk.at_mono hr e rfl rfl rfl (hp.old (hr.live_lt ⟨b, k, hb, hl, rfl⟩)) (hr.at_ b k hb)
    · cases k <;> first | trivial | (exact absurd rfl hl)
  · rcases h with h | h
    · exact hr.notS β hl h
    · have := hr.live_lt hl; omega
  · rcases h with h | h
    · have := hr.below β h; omega
    · omega

/-- One of the evaluator's blocks turns: its block of the machine's is written, or another, new one takes its place. -/
theorem set_blk (hr : RH K g H w) {w' : World} {b : Nat} {k0 k : Blk} (hb : H[b]? = some k0) (hk0 : k0.live = true) (hk : k.live = true) (β cap : Nat)
    (hos : w'.os = w.os ∧ w'.tape = w.tape ∧ w'.output = w.output) (hsize : w.heap.size ≤ w'.heap.size)
    (hold : ∀ x, x < w.heap.size → x ≠ g.μ b → w'.heap[x]? = w.heap[x]?)
    (hβ : β = g.μ b ∨ w.heap.size ≤ β)
    (hto : k0.to g (g.put b β cap (g.sz b)) b k)
    (hat : ∀ g' : Gh, g' = g.put b β cap (g.sz b) → Ext g H w g' (H.set b k) w' → k.at g' (H.set b k) w' b) :
    Ext g H w (g.put b β cap (g.sz b)) (H.set b k) w' ∧ RH K (g.put b β cap (g.sz b)) (H.set b k) w' := by
  have hbl : b < H.length := (List.getElem?_eq_some_iff.1 hb).1
  have hother : ∀ x, x ≠ b → (g.put b β cap (g.sz b)).μ x = g.μ x ∧ (g.put b β cap (g.sz b)).cap x = g.cap x ∧ (g.put b β cap (g.sz b)).sz x = g.sz x := fun x hx => by simp [Gh.put, hx]
  have hnew : (g.put b β cap (g.sz b)).μ b = β := by simp [Gh.put]
  have hμb : g.μ b < w.heap.size := hr.live_lt ⟨b, k0, hb, hk0, rfl⟩
  have e : Ext g H w (g.put b β cap (g.sz b)) (H.set b k) w' := by
    refine ⟨hos.1, hos.2.1, hos.2.2, hsize, fun x hx hl => hold x hx (fun he => hl ⟨b, k0, hb, hk0, he.symm⟩), fun _ h => h, fun _ h => .inl h, ?_, by simp, ?_⟩
    · rintro x ⟨y, k', hy, hl, rfl⟩
      rcases getElem?_set_cases hy with ⟨h1, h2⟩ | ⟨rfl, rfl, _⟩
      · rw [(hother y h1).1]; exact .inl ⟨y, k', h2, hl, rfl⟩
      · rw [hnew]
        rcases hβ with rfl | h
        · exact .inl ⟨y, k0, hb, hk0, rfl⟩
        · exact .inr h
    · intro y k1 k2 h1 h2
      rcases getElem?_set_cases h2 with ⟨h3, h4⟩ | ⟨rfl, rfl, _⟩
      · rw [h1] at h4; cases h4
        obtain ⟨e1, e2, e3⟩ := hother y h3
        cases k1 with
        | void => trivial
        | dead => rfl
        | arr z xs => exact .inr ⟨xs, rfl, Nat.le_refl _, fun _ => ⟨e1, e2⟩, e3⟩
        | mapb es c => exact .inr ⟨es, c, rfl, e1⟩
        | siter s p => exact .inr ⟨s, p, rfl, e1⟩
      · rw [hb] at h1; cases h1; exact hto
  refine ⟨e, fun y k' hy => ?_, ?_, ?_, fun x h => by have := hr.below x h; omega, fun x h => ⟨(hr.base x h).1, ?_⟩⟩
  · rcases getElem?_set_cases hy with ⟨h1, h2⟩ | ⟨rfl, rfl, _⟩
    · by_cases hl : k'.live = true
      · obtain ⟨e1, e2, e3⟩ := hother y h1
        refine Blk.at_mono hr e e1 e2 e3 (hold _ (hr.live_lt ⟨y, k', h2, hl, rfl⟩) fun he => h1 (hr.inj y b k' k0 h2 hb hl hk0 he)) (hr.at_ y k' h2)
      · cases k' <;> first | trivial | (exact absurd rfl hl)
    · exact hat _ rfl e
  · rintro x ⟨y, k', hy, hl, rfl⟩ hS
    rcases getElem?_set_cases hy with ⟨h1, h2⟩ | ⟨rfl, rfl, _⟩
    · rw [(hother y h1).1] at hS; exact hr.notS _ ⟨y, k', h2, hl, rfl⟩ hS
    · rw [hnew] at hS
      rcases hβ with rfl | h
      · exact hr.notS _ ⟨y, k0, hb, hk0, rfl⟩ hS
      · have := hr.below _ hS; omega
  · intro x y k1 k2 hx hy hl hl' he
    rcases getElem?_set_cases hx with ⟨h1, h2⟩ | ⟨rfl, rfl, _⟩ <;> rcases getElem?_set_cases hy with ⟨h3, h4⟩ | ⟨rfl, rfl, _⟩
    · rw [(hother x h1).1, (hother y h3).1] at he; exact hr.inj x y k1 k2 h2 h4 hl hl' he
    · rw [(hother x h1).1, hnew] at he
      rcases hβ with rfl | h
      · exact absurd (hr.inj x y k1 k0 h2 hb hl hk0 he) h1
      · have := hr.live_lt ⟨x, k1, h2, hl, rfl⟩; omega
    · rw [(hother y h3).1, hnew] at he
      rcases hβ with rfl | h
      · exact absurd (hr.inj y x k2 k0 h4 hb hl' hk0 he.symm) h3
      · have := hr.live_lt ⟨y, k2, h4, hl', rfl⟩; omega
    · rfl
  · rw [hold x (hr.below x (hr.base x h).1) (fun he => hr.notS _ ⟨b, k0, hb, hk0, rfl⟩ (he ▸ (hr.base x h).1))]
    exact (hr.base x h).2

end
end Go.Ev
