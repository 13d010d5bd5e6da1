/- How the evaluator's values stand to the machine's: the relation, and that it lasts. -/
import Derived.Test.YtpbmighaddkelaaGreatDoorE1
import Derived.Tactics
import Derived.Below
namespace Go.Ev
open Go.RowKit (Below)

/-- What a proof knows of the machine's memory: the blocks that nobody writes any more; for each of the evaluator's blocks its own block, how many elements that has room for, how many cells an element has. -/
structure Gh where
  S : Nat → Prop
  μ : Nat → Nat
  cap : Nat → Nat
  sz : Nat → Nat

/-- The evaluator has such a block. -/
def Real (H : Heap) (b : Nat) : Prop := ∃ k, H[b]? = some k ∧ k ≠ .void

inductive V (g : Gh) (H : Heap) (w : World) : AV → Value → Prop where
  | bool (b : Bool) : V g H w (.bool b) (.bool b)
  | int (k : IntKind) (n : Int) : V g H w (.int k n) (.int k n)
  | str (s : ByteArray) : V g H w (.str s) (.string s)
  | agg (cs : List AV) (arr : Array Value) : arr.size = cs.length → (∀ i, i < cs.length → V g H w (cs.getD i .und) (arr.getD i undef)) → V g H w (.agg cs) (.agg arr)
  | tup (cs : List AV) (arr : Array Value) : arr.size = cs.length → (∀ i, i < cs.length → V g H w (cs.getD i .und) (arr.getD i undef)) → V g H w (.tup cs) (.tuple arr)
  | slnil (a : Option Addr) (cap : Nat) : V g H w (.sl []) (.slice a 0 cap)
  | sl (xs : List AV) (β off cap sz : Nat) (u : Nat → Nat → Value) : xs.length ≤ cap → g.S β → (∀ i, i < xs.length → (xs.getD i .und).cells.length = sz) →
      (∀ i j, i < xs.length → j < sz → w.cell? ⟨β, off + i * sz + j, none⟩ = some (u i j)) →
      (∀ i j, i < xs.length → j < sz → V g H w ((xs.getD i .und).cells.getD j .und) (u i j)) → V g H w (.sl xs) (.slice (some ⟨β, off, none⟩) xs.length cap)
  | zsl (n : Bool) (a : Option Addr) : (n = true → a = none) → (n = false → a.isSome = true) → V g H w (.zsl n) (.slice a 0 0)
  | own (b n : Nat) (v : Value) : v.oneCell' = true → Real H b → (∀ z xs, H[b]? = some (.arr z xs) → n ≤ xs.length ∧ (n = xs.length → v = .slice (some ⟨g.μ b, 0, none⟩) n (g.cap b))) → V g H w (.own b n) v
  | nilp : V g H w .nilp (.pointer none)
  | ptr (b n i o : Nat) (v : Value) : v.oneCell' = true → Real H b → (∀ z xs, H[b]? = some (.arr z xs) → n ≤ xs.length ∧ (n = xs.length → v = .pointer (some ⟨g.μ b, i * g.sz b + o, none⟩))) → V g H w (.ptr b n i o) v
  | ptrI (x : AV) (o β off : Nat) (u : Nat → Value) : g.S β → (∀ j, j < x.cells.length → w.cell? ⟨β, off + j, none⟩ = some (u j)) → (∀ j, j < x.cells.length → V g H w (x.cells.getD j .und) (u j)) →
      V g H w (.ptrI x o) (.pointer (some ⟨β, off + o, none⟩))
  | fresh (n : Nat) (v : Value) : V g H w (.fresh n) v
  | map (b : Nat) (v : Value) : v.oneCell' = true → Real H b → (∀ es c, H[b]? = some (.mapb es c) → v = .map (some (g.μ b))) → V g H w (.map b) v
  | itr (b : Nat) (v : Value) : v.oneCell' = true → Real H b → (∀ s p, H[b]? = some (.siter s p) → v = .pointer (some ⟨g.μ b, 0, none⟩)) → V g H w (.itr b) v
  | mit (b β m c : Nat) : g.S β → w.heap[β]? = some (.mapIter (some m) c #[] c) → Real H b → (∀ es c, H[b]? = some (.mapb es c) → m = g.μ b) → V g H w (.mit b) (.pointer (some ⟨β, 0, none⟩))
  | nilm : V g H w .nilm (.map none)
  | fn (f : Fn) (a b : List AV) (a' b' : Array Value) : a'.size = a.length → b'.size = b.length → (∀ i, i < a.length → V g H w (a.getD i .und) (a'.getD i undef)) →
      (∀ i, i < b.length → V g H w (b.getD i .und) (b'.getD i undef)) → V g H w (.fn f a b) (.func f a' b')
  | nilf : V g H w .nilf .nilFunc
  | iface (t : TypeId) (x : AV) (v : Value) : V g H w x v → V g H w (.iface t x) (.iface t v)
  | nili : V g H w .nili .nilIface
  | und (v : Value) : V g H w .und v

def Blk.live : Blk → Bool
  | .dead | .void => false
  | _ => true

/-- A block of the machine's that the evaluator's memory may still write. -/
def Live (g : Gh) (H : Heap) (β : Nat) : Prop := ∃ b k, H[b]? = some k ∧ k.live = true ∧ g.μ b = β

/-- What the machine's memory always holds (the tables that the program's text lays). -/
structure Base where
  n : Nat
  at_ : Nat → Option Obj

def Blk.at (g : Gh) (H : Heap) (w : World) (b : Nat) : Blk → Prop
  | .dead | .void => True
  | .arr z xs => z = g.sz b ∧ ∃ arr ty fr, w.heap[g.μ b]? = some (.cells arr ty fr) ∧ (arr.size ≤ fr.1 ∨ fr.2 = 0) ∧ arr.size = g.cap b * g.sz b ∧ xs.length ≤ g.cap b ∧ g.cap b ≤ maxLen ∧
      ∀ i, i < xs.length → (xs.getD i .und).cells.length = g.sz b ∧ ∀ j, j < g.sz b → V g H w ((xs.getD i .und).cells.getD j .und) (arr.getD (i * g.sz b + j) undef)
  | .mapb es c => ∃ es', w.heap[g.μ b]? = some (.map es' c) ∧ es'.size = es.length ∧ ∀ i (h : i < es.length) (h' : i < es'.size), V g H w es[i].1 es'[i].key ∧ V g H w es[i].2.1 es'[i].val ∧ es'[i].born = es[i].2.2
  | .siter s p => w.heap[g.μ b]? = some (.stringIter s p)

structure RH (K : Base) (g : Gh) (H : Heap) (w : World) : Prop where
  at_ : ∀ (b : Nat) (k : Blk), H[b]? = some k → k.at g H w b
  notS : ∀ β, Live g H β → ¬ g.S β
  inj : ∀ (b b' : Nat) (k k' : Blk), H[b]? = some k → H[b']? = some k' → k.live = true → k'.live = true → g.μ b = g.μ b' → b = b'
  below : ∀ β, g.S β → β < w.heap.size
  base : ∀ β, β < K.n → g.S β ∧ w.heap[β]? = K.at_ β

def Blk.to (g g' : Gh) (b : Nat) : Blk → Blk → Prop
  | .void, _ => True
  | .dead, k => k = .dead
  | .arr z xs, k => k = .dead ∨ ∃ xs', k = .arr z xs' ∧ xs.length ≤ xs'.length ∧ (xs.length = xs'.length → g'.μ b = g.μ b ∧ g'.cap b = g.cap b) ∧ g'.sz b = g.sz b
  | .mapb _ _, k => k = .dead ∨ ∃ es c, k = .mapb es c ∧ g'.μ b = g.μ b
  | .siter _ _, k => k = .dead ∨ ∃ s p, k = .siter s p ∧ g'.μ b = g.μ b

structure Ext (g : Gh) (H : Heap) (w : World) (g' : Gh) (H' : Heap) (w' : World) : Prop where
  os : w'.os = w.os
  tape : w'.tape = w.tape
  output : w'.output = w.output
  size : w.heap.size ≤ w'.heap.size
  frame : ∀ β, β < w.heap.size → ¬ Live g H β → w'.heap[β]? = w.heap[β]?
  S1 : ∀ β, g.S β → g'.S β
  S2 : ∀ β, g'.S β → g.S β ∨ Live g H β ∨ w.heap.size ≤ β
  live : ∀ β, Live g' H' β → Live g H β ∨ w.heap.size ≤ β
  len : H.length ≤ H'.length
  to : ∀ (b : Nat) (k k' : Blk), H[b]? = some k → H'[b]? = some k' → k.to g g' b k'

theorem Blk.to_refl (g : Gh) (b : Nat) (k : Blk) : k.to g g b k := by
  cases k with
  | void => trivial
  | dead => rfl
  | arr z xs => exact .inr ⟨xs, rfl, Nat.le_refl _, fun _ => ⟨rfl, rfl⟩, rfl⟩
  | mapb es c => exact .inr ⟨es, c, rfl, rfl⟩
  | siter s p => exact .inr ⟨s, p, rfl, rfl⟩

theorem Blk.to.real {g g' : Gh} {b : Nat} {k k' : Blk} (h : k.to g g' b k') (hn : k ≠ .void) : k' ≠ .void := by
  cases k with
  | void => exact absurd rfl hn
  | dead => cases h; intro e; cases e
  | arr z xs => rcases h with rfl | ⟨_, rfl, _⟩ <;> (intro e; cases e)
  | mapb es c => rcases h with rfl | ⟨_, _, rfl, _⟩ <;> (intro e; cases e)
  | siter s p => rcases h with rfl | ⟨_, _, rfl, _⟩ <;> (intro e; cases e)

theorem Ext.refl (g : Gh) (H : Heap) (w : World) : Ext g H w g H w :=
  ⟨rfl, rfl, rfl, Nat.le_refl _, fun _ _ _ => rfl, fun _ h => h, fun _ h => .inl h, fun _ h => .inl h, Nat.le_refl _, fun b k k' h h' => by
    rw [h] at h'; cases h'; exact Blk.to_refl g b k⟩

theorem Blk.to_trans {g g1 g2 : Gh} {b : Nat} {k k1 k2 : Blk} (h : k.to g g1 b k1) (h' : k1.to g1 g2 b k2) : k.to g g2 b k2 := by
  cases k with
  | void => trivial
  | dead => cases h; exact h'
  | arr z xs =>
    rcases h with rfl | ⟨ys, rfl, hl, hm, hs⟩
    · cases h'; exact .inl rfl
    · rcases h' with rfl | ⟨zs, rfl, hl', hm', hs'⟩
      · exact .inl rfl
      · refine .inr ⟨zs, rfl, Nat.le_trans hl hl', fun e => ?_, hs'.trans hs⟩
        have e1 : xs.length = ys.length := by omega
        have e2 : ys.length = zs.length := by omega
        exact ⟨(hm' e2).1.trans (hm e1).1, (hm' e2).2.trans (hm e1).2⟩
  | mapb es c =>
    rcases h with rfl | ⟨_, _, rfl, hm⟩
    · cases h'; exact .inl rfl
    · rcases h' with rfl | ⟨es', c', rfl, hm'⟩
      · exact .inl rfl
      · exact .inr ⟨es', c', rfl, hm'.trans hm⟩
  | siter s p =>
    rcases h with rfl | ⟨_, _, rfl, hm⟩
    · cases h'; exact .inl rfl
    · rcases h' with rfl | ⟨es', c', rfl, hm'⟩
      · exact .inl rfl
      · exact .inr ⟨es', c', rfl, hm'.trans hm⟩

theorem Ext.trans {g g1 g2 : Gh} {H H1 H2 : Heap} {w w1 w2 : World} (h : Ext g H w g1 H1 w1) (h' : Ext g1 H1 w1 g2 H2 w2) : Ext g H w g2 H2 w2 where
  os := h'.os.trans h.os
  tape := h'.tape.trans h.tape
  output := h'.output.trans h.output
  size := Nat.le_trans h.size h'.size
  frame β hb hl := by
    rw [h'.frame β (Nat.lt_of_lt_of_le hb h.size) (fun hx => ?_), h.frame β hb hl]
    rcases h.live β hx with h1 | h1
    · exact hl h1
    · omega
  S1 β hs := h'.S1 β (h.S1 β hs)
  S2 β hs := by
    have := h.size
    rcases h'.S2 β hs with h1 | h1 | h1
    · exact h.S2 β h1
    · rcases h.live β h1 with h2 | h2
      · exact .inr (.inl h2)
      · exact .inr (.inr h2)
    · exact .inr (.inr (by omega))
  live β hs := by
    have := h.size
    rcases h'.live β hs with h1 | h1
    · exact h.live β h1
    · exact .inr (by omega)
  len := Nat.le_trans h.len h'.len
  to b k k2 hk hk2 := by
    have hb : b < H.length := (List.getElem?_eq_some_iff.1 hk).1
    obtain ⟨k1, hk1⟩ : ∃ k1, H1[b]? = some k1 := ⟨_, List.getElem?_eq_getElem (Nat.lt_of_lt_of_le hb h.len)⟩
    exact Blk.to_trans (h.to b k k1 hk hk1) (h'.to b k1 k2 hk1 hk2)

theorem RH.live_lt {K : Base} {g : Gh} {H : Heap} {w : World} (h : RH K g H w) {β : Nat} (hl : Live g H β) : β < w.heap.size := by
  obtain ⟨b, k, hb, hk, rfl⟩ := hl
  have := h.at_ b k hb
  cases k with
  | dead => cases hk
  | void => cases hk
  | arr z xs => obtain ⟨_, arr, ty, fr, h1, _⟩ := this; exact (Array.getElem?_eq_some_iff.1 h1).1
  | mapb es c => obtain ⟨es', h1, _⟩ := this; exact (Array.getElem?_eq_some_iff.1 h1).1
  | siter s p => exact (Array.getElem?_eq_some_iff.1 this).1

theorem RH.stable {K : Base} {g : Gh} {H : Heap} {w : World} (h : RH K g H w) {g' : Gh} {H' : Heap} {w' : World} (e : Ext g H w g' H' w') {β : Nat} (hs : g.S β) : w'.heap[β]? = w.heap[β]? :=
  e.frame β (h.below β hs) fun hl => h.notS β hl hs

theorem V.mono0 {g g' : Gh} {H H' : Heap} {w w' : World} (hst : ∀ β, g.S β → w'.heap[β]? = w.heap[β]?) (hS : ∀ β, g.S β → g'.S β) (hlen : H.length ≤ H'.length)
    (hto0 : ∀ (b : Nat) (k k' : Blk), H[b]? = some k → H'[b]? = some k' → k.to g g' b k') {a : AV} {v : Value} (h : V g H w a v) : V g' H' w' a v := by
  have hcell : ∀ β o u, g.S β → w.cell? ⟨β, o, none⟩ = some u → w'.cell? ⟨β, o, none⟩ = some u := fun β o u hs hc => by
    rw [World.cell?_of_block (w := w) (w' := w') (a := ⟨β, o, none⟩) (hst β hs)]; exact hc
  have hto : ∀ b, Real H b → ∀ k', H'[b]? = some k' → ∃ k, H[b]? = some k ∧ k ≠ .void ∧ k.to g g' b k' := fun b hb k' hk' => by
    obtain ⟨k, hk, hn⟩ := hb
    exact ⟨k, hk, hn, hto0 b k k' hk hk'⟩
  have hreal : ∀ b, Real H b → Real H' b := fun b hb => by
    obtain ⟨k, hk, hn⟩ := hb
    have hl : b < H'.length := Nat.lt_of_lt_of_le (List.getElem?_eq_some_iff.1 hk).1 hlen
    exact ⟨_, List.getElem?_eq_getElem hl, (hto0 b k _ hk (List.getElem?_eq_getElem hl)).real hn⟩
  induction h with
  | bool b => exact .bool b
  | int k n => exact .int k n
  | str s => exact .str s
  | agg cs arr hl _ ih => exact .agg cs arr hl ih
  | tup cs arr hl _ ih => exact .tup cs arr hl ih
  | slnil a cap => exact .slnil a cap
  | sl xs β off cap sz u hc hs hz hcell' _ ih => exact .sl xs β off cap sz u hc (hS β hs) hz (fun i j hi hj => hcell _ _ _ hs (hcell' i j hi hj)) ih
  | zsl n a h1 h2 => exact .zsl n a h1 h2
  | own b n v h1c hb h =>
    refine .own b n v h1c (hreal b hb) fun z' xs' hx => ?_
    obtain ⟨k, hk, hnv, ht⟩ := hto b hb _ hx
    cases k with
    | void => exact absurd rfl hnv
    | dead => cases ht
    | arr z xs =>
      rcases ht with ht | ⟨ys, hy, hl, hm, _⟩
      · cases ht
      · cases hy
        obtain ⟨h1, h2⟩ := h _ xs hk
        refine ⟨by omega, fun hn => ?_⟩
        have e1 : xs.length = xs'.length := by omega
        rw [(hm e1).1, (hm e1).2]
        exact h2 (by omega)
    | mapb es c => rcases ht with ht | ⟨_, _, ht, _⟩ <;> cases ht
    | siter s p => rcases ht with ht | ⟨_, _, ht, _⟩ <;> cases ht
  | nilp => exact .nilp
  | ptr b n i o v h1c hb h =>
    refine .ptr b n i o v h1c (hreal b hb) fun z' xs' hx => ?_
    obtain ⟨k, hk, hnv, ht⟩ := hto b hb _ hx
    cases k with
    | void => exact absurd rfl hnv
    | dead => cases ht
    | arr z xs =>
      rcases ht with ht | ⟨ys, hy, hl, hm, hsz⟩
      · cases ht
      · cases hy
        obtain ⟨h1, h2⟩ := h _ xs hk
        refine ⟨by omega, fun hn => ?_⟩
        have e1 : xs.length = xs'.length := by omega
        rw [(hm e1).1, hsz]
        exact h2 (by omega)
    | mapb es c => rcases ht with ht | ⟨_, _, ht, _⟩ <;> cases ht
    | siter s p => rcases ht with ht | ⟨_, _, ht, _⟩ <;> cases ht
  | ptrI x o β off u hs hc _ ih => exact .ptrI x o β off u (hS β hs) (fun j hj => hcell _ _ _ hs (hc j hj)) ih
  | fresh n v => exact .fresh n v
  | map b v h1c hb h =>
    refine .map b v h1c (hreal b hb) fun es c hx => ?_
    obtain ⟨k, hk, hnv, ht⟩ := hto b hb _ hx
    cases k with
    | void => exact absurd rfl hnv
    | dead => cases ht
    | arr z xs => rcases ht with ht | ⟨_, ht, _⟩ <;> cases ht
    | mapb es c => rcases ht with ht | ⟨_, _, ht, hm⟩
                   · cases ht
                   · rw [hm]; exact h _ _ hk
    | siter s p => rcases ht with ht | ⟨_, _, ht, _⟩ <;> cases ht
  | itr b v h1c hb h =>
    refine .itr b v h1c (hreal b hb) fun s p hx => ?_
    obtain ⟨k, hk, hnv, ht⟩ := hto b hb _ hx
    cases k with
    | void => exact absurd rfl hnv
    | dead => cases ht
    | arr z xs => rcases ht with ht | ⟨_, ht, _⟩ <;> cases ht
    | mapb es c => rcases ht with ht | ⟨_, _, ht, _⟩ <;> cases ht
    | siter s p => rcases ht with ht | ⟨_, _, ht, hm⟩
                   · cases ht
                   · rw [hm]; exact h _ _ hk
  | mit b β m c hs hh hb h =>
    refine .mit b β m c (hS β hs) (by rw [hst β hs]; exact hh) (hreal b hb) fun es c hx => ?_
    obtain ⟨k, hk, hnv, ht⟩ := hto b hb _ hx
    cases k with
    | void => exact absurd rfl hnv
    | dead => cases ht
    | arr z xs => rcases ht with ht | ⟨_, ht, _⟩ <;> cases ht
    | mapb es c => rcases ht with ht | ⟨_, _, ht, hm⟩
                   · cases ht
                   · rw [hm]; exact h _ _ hk
    | siter s p => rcases ht with ht | ⟨_, _, ht, _⟩ <;> cases ht
  | nilm => exact .nilm
  | fn f a b a' b' h1 h2 _ _ i1 i2 => exact .fn f a b a' b' h1 h2 i1 i2
  | nilf => exact .nilf
  | iface t x v _ ih => exact .iface t x v ih
  | nili => exact .nili
  | und v => exact .und v


theorem V.mono {K : Base} {g g' : Gh} {H H' : Heap} {w w' : World} (hr : RH K g H w) (e : Ext g H w g' H' w') {a : AV} {v : Value} (h : V g H w a v) : V g' H' w' a v :=
  h.mono0 (fun _ hs => hr.stable e hs) e.S1 e.len e.to

end Go.Ev
