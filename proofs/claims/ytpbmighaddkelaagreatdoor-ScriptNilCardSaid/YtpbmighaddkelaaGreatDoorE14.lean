/- A call that shares no memory with its caller; what it hands back is read for good. -/
import Derived.Test.YtpbmighaddkelaaGreatDoorE13
namespace Go.Ev

/-- A call's arguments stand to the machine's. -/
def Args (g : Gh) (H : Heap) (w : World) (args : List AV) (vs : Array Value) : Prop :=
  vs.size = args.length ∧ ∀ i, i < args.length → V g H w (args.getD i .und) (vs.getD i undef)

/-- A call has come back with a value. -/
def CallPost (K : Base) (g : Gh) (H : Heap) (w : World) (r : AV) (H' : Heap) : Ending → World → Prop := fun e w' =>
  ∃ v g', e = .returned v ∧ Ext g H w g' H' w' ∧ RH K g' H' w' ∧ V g' H' w' r v

def hasBody (P : Program) (f : FuncId) : Prop := ∃ fn, P.funcs[f]? = some fn ∧ fn.body.isSome = true

def CallsOK (P : Program) (K : Base) (X : Ctx) : Prop :=
  ∀ f args H r H', X.call f args H = some (r, H') → hasBody P f ∧ ∀ g w vs, RH K g H w → Args g H w args vs → Calls P f vs w (CallPost K g H w r H')

def ExtOK (P : Program) (K : Base) (C : Cfg) : Prop :=
  ∀ f F, C.ext f = some F → hasBody P f ∧ ∀ args r, F args = some r → flatL args = true → ∀ g H w vs, RH K g H w → Args g H w args vs → Calls P f vs w (CallPost K g H w r H)

theorem flatL_mem : ∀ {xs : List AV} {i : Nat}, flatL xs = true → i < xs.length → (xs.getD i .und).flat = true
  | [], _, _, h => by simp at h
  | x :: xs, 0, h, _ => by simp [flatL] at h; exact h.1
  | x :: xs, i + 1, h, hi => by
    simp [flatL] at h
    have := flatL_mem (i := i) h.2 (by simpa using hi)
    simpa using this

theorem flat_cells {x : AV} (h : x.flat = true) {j : Nat} (hj : j < x.cells.length) : (x.cells.getD j .und).flat = true := by
  cases x with
  | agg cs =>
    simp only [AV.flat, Bool.and_eq_true] at h
    exact flatL_mem h.2 hj
  | _ =>
    obtain rfl : j = 0 := by simpa [AV.cells] using hj
    simpa [AV.cells] using h

/-- What leads to no memory that may be written stands wherever the machine's memory has it. -/
theorem V.flat {g g' : Gh} {H H' : Heap} {w w' : World} (hS : ∀ β, g.S β → g'.S β) (hst : ∀ β, g.S β → w'.heap[β]? = w.heap[β]?) {x : AV} {v : Value} (h : V g H w x v) : x.flat = true → V g' H' w' x v := by
  have hcell : ∀ β o u, g.S β → w.cell? ⟨β, o, none⟩ = some u → w'.cell? ⟨β, o, none⟩ = some u := fun β o u hs hc => by
    rw [World.cell?_of_block (w := w) (w' := w') (a := ⟨β, o, none⟩) (hst β hs)]; exact hc
  induction h with
  | bool b => exact fun _ => .bool b
  | int k n => exact fun _ => .int k n
  | str s => exact fun _ => .str s
  | agg cs arr hl _ ih =>
    intro hf
    simp only [AV.flat, Bool.and_eq_true] at hf
    exact .agg cs arr hl fun i hi => ih i hi (flatL_mem hf.2 hi)
  | tup cs arr hl _ ih => intro hf; cases hf
  | slnil a cap => exact fun _ => .slnil a cap
  | sl xs β off cap sz u hc hs hz hcell' _ ih =>
    intro hf
    simp only [AV.flat] at hf
    exact .sl xs β off cap sz u hc (hS β hs) hz (fun i j hi hj => hcell _ _ _ hs (hcell' i j hi hj)) fun i j hi hj => ih i j hi hj (flat_cells (flatL_mem hf hi) (by rw [hz i hi]; exact hj))
  | zsl n a h1 h2 => exact fun _ => .zsl n a h1 h2
  | own b n v h1c hb h => intro hf; cases hf
  | nilp => exact fun _ => .nilp
  | ptr b n i o v h1c hb h => intro hf; cases hf
  | ptrI x o β off u hs hc _ ih =>
    intro hf
    simp only [AV.flat] at hf
    exact .ptrI x o β off u (hS β hs) (fun j hj => hcell _ _ _ hs (hc j hj)) fun j hj => ih j hj (flat_cells hf hj)
  | fresh n v => intro hf; cases hf
  | map b v h1c hb h => intro hf; cases hf
  | itr b v h1c hb h => intro hf; cases hf
  | mit b β m c hs hh hb h => intro hf; cases hf
  | nilm => exact fun _ => .nilm
  | fn f a b a' b' h1 h2 _ _ i1 i2 =>
    intro hf
    simp only [AV.flat, Bool.and_eq_true] at hf
    exact .fn f a b a' b' h1 h2 (fun i hi => i1 i hi (flatL_mem hf.1 hi)) fun i hi => i2 i hi (flatL_mem hf.2 hi)
  | nilf => exact fun _ => .nilf
  | iface t x v _ ih =>
    intro hf
    simp only [AV.flat] at hf
    exact .iface t x v (ih hf)
  | nili => exact fun _ => .nili
  | und v => intro hf; cases hf

theorem frzL_spec {H : Heap} {n : Nat} : ∀ {xs rs : List AV}, frzL H n xs = some rs → rs.length = xs.length ∧ ∀ i, i < xs.length → frz H n (xs.getD i .und) = some (rs.getD i .und)
  | [], rs, h => by
    simp [frzL, omap] at h; subst h; exact ⟨rfl, fun i hi => by simp at hi⟩
  | x :: xs, rs, h => by
    simp only [frzL, omap] at h
    obtain ⟨y, hy, h⟩ := Option.bind_eq_some_iff.1 h
    obtain ⟨ys, hys, rfl⟩ := Option.map_eq_some_iff.1 h
    obtain ⟨h1, h2⟩ := frzL_spec hys
    refine ⟨by simp [h1], fun i hi => ?_⟩
    cases i with
    | zero => simpa using hy
    | succ i => simpa using h2 i (by simpa using hi)

theorem frz_cells {H : Heap} {n : Nat} {x r : AV} (h : frz H n x = some r) : r.cells.length = x.cells.length ∧ ∀ j, j < x.cells.length → ∃ m, m ≤ n ∧ frz H m (x.cells.getD j .und) = some (r.cells.getD j .und) := by
  have key : x.cells = [x] → r.cells = [r] → r.cells.length = x.cells.length ∧ ∀ j, j < x.cells.length → ∃ m, m ≤ n ∧ frz H m (x.cells.getD j .und) = some (r.cells.getD j .und) := by
    intro h1 h2
    rw [h1, h2]
    refine ⟨rfl, fun j hj => ⟨n, Nat.le_refl _, ?_⟩⟩
    obtain rfl : j = 0 := by simpa using hj
    simpa using h
  cases n with
  | zero => cases x <;> simp only [frz] at h <;> first | (cases h; exact key rfl rfl) | cases h
  | succ n =>
    cases x with
    | agg cs =>
      simp only [frz] at h
      obtain ⟨rs, hrs, rfl⟩ := Option.map_eq_some_iff.1 h
      obtain ⟨h1, h2⟩ := frzL_spec hrs
      exact ⟨h1, fun j hj => ⟨n, by omega, h2 j hj⟩⟩
    | tup cs =>
      have h' := h
      simp only [frz] at h'
      obtain ⟨rs, hrs, rfl⟩ := Option.map_eq_some_iff.1 h'
      exact key rfl rfl
    | own b m =>
      have h' := h
      simp only [frz] at h'
      split at h'
      · split at h'
        · obtain ⟨rs, hrs, rfl⟩ := Option.map_eq_some_iff.1 h'
          exact key rfl rfl
        · cases h'
      · cases h'
    | ptr b m i o =>
      have h' := h
      simp only [frz] at h'
      split at h'
      · split at h'
        · split at h'
          · obtain ⟨rs, hrs, rfl⟩ := Option.map_eq_some_iff.1 h'
            exact key rfl rfl
          · cases h'
        · cases h'
      · cases h'
    | fn f a b =>
      have h' := h
      simp only [frz] at h'
      obtain ⟨a', ha', h'⟩ := Option.bind_eq_some_iff.1 h'
      obtain ⟨b', hb', rfl⟩ := Option.map_eq_some_iff.1 h'
      exact key rfl rfl
    | iface t v =>
      have h' := h
      simp only [frz] at h'
      obtain ⟨a', ha', rfl⟩ := Option.map_eq_some_iff.1 h'
      exact key rfl rfl
    | _ =>
      have h' := h
      simp only [frz] at h'
      first
      | (cases h'; done)
      | (cases h'; exact key rfl rfl)
      | (split at h'
         · cases h'; exact key rfl rfl
         · cases h')

theorem frz_sound {K : Base} {g g' : Gh} {H H0 : Heap} {w : World} (hr : RH K g H w) (hS : ∀ β, g.S β → g'.S β) (hL : ∀ β, Live g H β → g'.S β) : ∀ n x r v, frz H n x = some r → V g H w x v → V g' H0 w r v := by
  intro n
  induction n using Nat.strongRecOn with
  | _ n ih =>
    intro x r v h hv
    have hcells : ∀ m, m < n → ∀ y z (u : Nat → Value), frz H m y = some z → (∀ j, j < y.cells.length → V g H w (y.cells.getD j .und) (u j)) → z.cells.length = y.cells.length ∧ ∀ j, j < z.cells.length → V g' H0 w (z.cells.getD j .und) (u j) := by
      intro m hm y z u hz hu
      obtain ⟨h1, h2⟩ := frz_cells hz
      refine ⟨h1, fun j hj => ?_⟩
      obtain ⟨m', hm', h3⟩ := h2 j (by omega)
      exact ih m' (by omega) _ _ _ h3 (hu j (by omega))
    have hlist : ∀ m, m < n → ∀ xs rs (arr : Array Value), frzL H m xs = some rs → arr.size = xs.length → (∀ i, i < xs.length → V g H w (xs.getD i .und) (arr.getD i undef)) → arr.size = rs.length ∧ ∀ i, i < rs.length → V g' H0 w (rs.getD i .und) (arr.getD i undef) := by
      intro m hm xs rs arr hz hl hu
      obtain ⟨h1, h2⟩ := frzL_spec hz
      exact ⟨by omega, fun i hi => ih m hm _ _ _ (h2 i (by omega)) (hu i (by omega))⟩
    cases n with
    | zero => cases x <;> simp only [frz] at h <;> first | (cases h; cases hv; constructor) | cases h
    | succ n =>
      cases x with
      | bool b => simp only [frz] at h; cases h; cases hv; constructor
      | int k m => simp only [frz] at h; cases h; cases hv; constructor
      | str s => simp only [frz] at h; cases h; cases hv; constructor
      | agg cs =>
        simp only [frz] at h
        obtain ⟨rs, hrs, rfl⟩ := Option.map_eq_some_iff.1 h
        cases hv with
        | agg _ arr hl hu =>
          obtain ⟨h1, h2⟩ := hlist n (by omega) cs rs arr hrs hl hu
          exact .agg rs arr h1 h2
      | tup cs =>
        simp only [frz] at h
        obtain ⟨rs, hrs, rfl⟩ := Option.map_eq_some_iff.1 h
        cases hv with
        | tup _ arr hl hu =>
          obtain ⟨h1, h2⟩ := hlist n (by omega) cs rs arr hrs hl hu
          exact .tup rs arr h1 h2
      | sl xs =>
        simp only [frz] at h
        split at h
        · rename_i hf; cases h; exact V.flat hS (fun _ _ => rfl) hv (by simpa [AV.flat] using hf)
        · cases h
      | zsl b => simp only [frz] at h; cases h; exact V.flat hS (fun _ _ => rfl) hv rfl
      | own b m =>
        simp only [frz] at h
        split at h
        · rename_i z xs hH
          split at h
          · rename_i hm
            obtain ⟨rs, hrs, rfl⟩ := Option.map_eq_some_iff.1 h
            obtain ⟨h1, h2⟩ := frzL_spec hrs
            obtain ⟨q0, arr, ty, fr, q1, q2, q3, q4, q5, q6⟩ := hr.at_ b _ hH
            cases hv with
            | own _ _ _ _ _ hw =>
              obtain rfl := (hw z xs hH).2 hm.symm
              rw [show m = rs.length by omega]
              have hc : ∀ i, i < rs.length → (rs.getD i .und).cells.length = g.sz b ∧ ∀ j, j < g.sz b → V g' H0 w ((rs.getD i .und).cells.getD j .und) (arr.getD (i * g.sz b + j) undef) := by
                intro i hi
                obtain ⟨a1, a2⟩ := q6 i (by omega)
                obtain ⟨b1, b2⟩ := hcells n (by omega) _ _ (fun j => arr.getD (i * g.sz b + j) undef) (h2 i (by omega)) fun j hj => a2 j (by omega)
                exact ⟨by omega, fun j hj => b2 j (by omega)⟩
              refine .sl rs (g.μ b) 0 (g.cap b) (g.sz b) (fun i j => arr.getD (i * g.sz b + j) undef) (by omega) (hL _ ⟨b, _, hH, rfl, rfl⟩) (fun i hi => (hc i hi).1) (fun i j hi hj => ?_) fun i j hi hj => (hc i hi).2 j hj
              have hlt : i * g.sz b + j < arr.size := by
                have := idx_lt (n := g.cap b) (i := i) (by omega) hj
                omega
              simp [World.cell?, q1, Array.getD_eq_getD_getElem?, hlt]
          · cases h
        · cases h
      | nilp => simp only [frz] at h; cases h; exact V.flat hS (fun _ _ => rfl) hv rfl
      | ptr b m i o =>
        simp only [frz] at h
        split at h
        · rename_i z xs hH
          split at h
          · rename_i hm
            split at h
            · rename_i y hy
              obtain ⟨y', hy', rfl⟩ := Option.map_eq_some_iff.1 h
              obtain ⟨u, hl, hc, hu⟩ := hr.elem hH hy
              cases hv with
              | ptr _ _ _ _ _ _ _ hw =>
                obtain rfl := (hw z xs hH).2 hm.symm
                obtain ⟨b1, b2⟩ := hcells n (by omega) _ _ u hy' hu
                exact .ptrI y' o (g.μ b) (i * g.sz b) u (hL _ ⟨b, _, hH, rfl, rfl⟩) (fun j hj => hc j (by omega)) b2
            · cases h
          · cases h
        · cases h
      | ptrI y o =>
        simp only [frz] at h
        split at h
        · rename_i hf; cases h; exact V.flat hS (fun _ _ => rfl) hv (by simpa [AV.flat] using hf)
        · cases h
      | nilm => simp only [frz] at h; cases h; exact V.flat hS (fun _ _ => rfl) hv rfl
      | nili => simp only [frz] at h; cases h; exact V.flat hS (fun _ _ => rfl) hv rfl
      | nilf => simp only [frz] at h; cases h; exact V.flat hS (fun _ _ => rfl) hv rfl
      | fn f a b =>
        simp only [frz] at h
        obtain ⟨a', ha', h'⟩ := Option.bind_eq_some_iff.1 h
        obtain ⟨b', hb', rfl⟩ := Option.map_eq_some_iff.1 h'
        cases hv with
        | fn _ _ _ va vb h1 h2 h3 h4 =>
          obtain ⟨p1, p2⟩ := hlist n (by omega) a a' va ha' h1 h3
          obtain ⟨p3, p4⟩ := hlist n (by omega) b b' vb hb' h2 h4
          exact .fn f a' b' va vb p1 p3 p2 p4
      | iface t y =>
        simp only [frz] at h
        obtain ⟨y', hy', rfl⟩ := Option.map_eq_some_iff.1 h
        cases hv with
        | iface _ _ u hu => exact .iface t y' u (ih n (by omega) _ _ _ hy' hu)
      | fresh m => simp only [frz] at h; cases h
      | map b => simp only [frz] at h; cases h
      | itr b => simp only [frz] at h; cases h
      | mit b => simp only [frz] at h; cases h
      | und => simp only [frz] at h; cases h

/-- A call on memory of its own. -/
theorem pcall_sound {P : Program} {K : Base} {X : Ctx} (hX : CallsOK P K X) {f : FuncId} {args : List AV} {r : AV} (hf : flatL args = true) (h : pcall X f args = some r) :
    hasBody P f ∧ ∀ g H w vs, RH K g H w → Args g H w args vs → Calls P f vs w (CallPost K g H w r H) := by
  unfold pcall at h
  obtain ⟨⟨r1, H1⟩, h1, h2⟩ := Option.bind_eq_some_iff.1 h
  obtain ⟨hb, hc⟩ := hX f args [] r1 H1 h1
  refine ⟨hb, fun g H w vs hr ha => ?_⟩
  have hr0 : RH K g [] w := ⟨fun b k hk => by simp at hk, fun β hl => by obtain ⟨b, k, hk, _⟩ := hl; simp at hk, fun b b' k k' hk => by simp at hk, hr.below, hr.base⟩
  refine (hc g w vs hr0 ⟨ha.1, fun i hi => V.flat (fun _ h => h) (fun _ _ => rfl) (ha.2 i hi) (flatL_mem hf hi)⟩).mono ?_
  rintro e w' ⟨v, g1, rfl, e1, hr1, hv⟩
  have hnl : ∀ β, ¬ Live g [] β := fun β hl => by obtain ⟨b, k, hk, _⟩ := hl; simp at hk
  let g' : Gh := ⟨fun β => g1.S β ∨ Live g1 H1 β, g.μ, g.cap, g.sz⟩
  have hS2 : ∀ β, g'.S β → g.S β ∨ w.heap.size ≤ β := by
    intro β hs
    rcases hs with hs | hs
    · rcases e1.S2 β hs with h | h | h
      · exact .inl h
      · exact absurd h (hnl β)
      · exact .inr h
    · rcases e1.live β hs with h | h
      · exact absurd h (hnl β)
      · exact .inr h
  have hold : ∀ β, β < w.heap.size → w'.heap[β]? = w.heap[β]? := fun β hb => e1.frame β hb (hnl β)
  have e : Ext g H w g' H w' := ⟨e1.os, e1.tape, e1.output, e1.size, fun β hb _ => hold β hb, fun β hs => Or.inl (e1.S1 β hs), fun β hs => (hS2 β hs).elim .inl fun h => .inr (.inr h), fun β hl => .inl hl, Nat.le_refl _, fun b k k' hk hk' => by
    rw [hk] at hk'; cases hk'
    cases k with
    | void => trivial
    | dead => rfl
    | arr z xs => exact .inr ⟨xs, rfl, Nat.le_refl _, fun _ => ⟨rfl, rfl⟩, rfl⟩
    | mapb es c => exact .inr ⟨es, c, rfl, rfl⟩
    | siter s p => exact .inr ⟨s, p, rfl, rfl⟩⟩
  refine ⟨v, g', rfl, e, ⟨fun b k hb => ?_, fun β hl hs => ?_, hr.inj, fun β hs => ?_, fun β hb => ⟨Or.inl (hr1.base β hb).1, (hr1.base β hb).2⟩⟩, frz_sound hr1 (fun _ h => Or.inl h) (fun _ h => Or.inr h) _ _ _ _ h2 hv⟩
  · by_cases hl : k.live = true
    · exact Blk.at_mono hr e rfl rfl rfl (hold _ (hr.live_lt ⟨b, k, hb, hl, rfl⟩)) (hr.at_ b k hb)
    · cases k <;> first | trivial | (exact absurd rfl hl)
  · have hl' : Live g H β := hl
    rcases hS2 β hs with h | h
    · exact hr.notS β hl' h
    · have := hr.live_lt hl'; omega
  · rcases hs with hs | hs
    · exact hr1.below β hs
    · exact hr1.live_lt hs

theorem solidL_mem : ∀ {xs : List AV} {i : Nat}, solidL xs = true → i < xs.length → (xs.getD i .und).solid = true
  | [], _, _, h => by simp at h
  | x :: xs, 0, h, _ => by simp [solidL] at h; exact h.1
  | x :: xs, i + 1, h, hi => by
    simp [solidL] at h
    have := solidL_mem (i := i) h.2 (by simpa using hi)
    simpa using this

/-- What leads to no memory stands anywhere. -/
theorem V.solid {g g' : Gh} {H H' : Heap} {w w' : World} {x : AV} {v : Value} (h : V g H w x v) : x.solid = true → V g' H' w' x v := by
  induction h with
  | bool b => exact fun _ => .bool b
  | int k n => exact fun _ => .int k n
  | str s => exact fun _ => .str s
  | agg cs arr hl _ ih =>
    intro hf
    simp only [AV.solid] at hf
    exact .agg cs arr hl fun i hi => ih i hi (solidL_mem hf hi)
  | tup cs arr hl _ ih =>
    intro hf
    simp only [AV.solid] at hf
    exact .tup cs arr hl fun i hi => ih i hi (solidL_mem hf hi)
  | zsl n a h1 h2 => exact fun _ => .zsl n a h1 h2
  | nilp => exact fun _ => .nilp
  | nilm => exact fun _ => .nilm
  | nilf => exact fun _ => .nilf
  | iface t x v _ ih =>
    intro hf
    simp only [AV.solid] at hf
    exact .iface t x v (ih hf)
  | nili => exact fun _ => .nili
  | _ => intro hf; cases hf

theorem acall_sound {P : Program} {K : Base} {C : Cfg} {X : Ctx} (hX : CallsOK P K X) (hE : ExtOK P K C) {f : FuncId} {args : List AV} {r : AV} (hf : flatL args = true) (h : acall C X f args = some r) :
    hasBody P f ∧ ∀ g H w vs, RH K g H w → Args g H w args vs → Calls P f vs w (CallPost K g H w r H) := by
  unfold acall at h
  split at h
  · rename_i F hF
    obtain ⟨h1, h2⟩ := hE f F hF
    exact ⟨h1, fun g H w vs hr ha => h2 args _ h hf g H w vs hr ha⟩
  · exact pcall_sound hX hf h

/-- A call whose arguments lead to memory that may be written, but not while the call runs, and whose answer leads to none. -/
theorem lent_sound {P : Program} {K : Base} {C : Cfg} {X : Ctx} (hX : CallsOK P K X) (hE : ExtOK P K C) {f : FuncId} {n : Nat} {H : Heap} {args fa : List AV} {r : AV} (hz : frzL H n args = some fa) (hf : flatL fa = true) (h : acall C X f fa = some r) (hs : r.solid = true) :
    hasBody P f ∧ ∀ g w vs, RH K g H w → Args g H w args vs → Calls P f vs w (CallPost K g H w r H) := by
  obtain ⟨hb, hc⟩ := acall_sound hX hE hf h
  refine ⟨hb, fun g w vs hr ha => ?_⟩
  let g1 : Gh := ⟨fun β => g.S β ∨ Live g H β, g.μ, g.cap, g.sz⟩
  obtain ⟨z1, z2⟩ := frzL_spec hz
  have hr0 : RH K g1 [] w := ⟨fun b k hk => by simp at hk, fun β hl => by obtain ⟨b, k, hk, _⟩ := hl; simp at hk, fun b b' k k' hk => by simp at hk, fun β h => h.elim (hr.below β) hr.live_lt, fun β h => ⟨Or.inl (hr.base β h).1, (hr.base β h).2⟩⟩
  have ha' : Args g1 [] w fa vs := ⟨by rw [ha.1, z1], fun i hi => frz_sound hr (fun _ h => Or.inl h) (fun _ h => Or.inr h) _ _ _ _ (z2 i (by omega)) (ha.2 i (by omega))⟩
  refine (hc g1 [] w vs hr0 ha').mono ?_
  rintro e w' ⟨v, g2, rfl, e1, hr1, hv⟩
  have hnl : ∀ β, ¬ Live g1 [] β := fun β hl => by obtain ⟨b, k, hk, _⟩ := hl; simp at hk
  have hold : ∀ β, β < w.heap.size → w'.heap[β]? = w.heap[β]? := fun β hb => e1.frame β hb (hnl β)
  have e : Ext g H w g H w' := ⟨e1.os, e1.tape, e1.output, e1.size, fun β hb _ => hold β hb, fun _ h => h, fun _ h => .inl h, fun _ h => .inl h, Nat.le_refl _, fun b k k' hk hk' => by
    rw [hk] at hk'; cases hk'; exact Blk.to_refl g b k⟩
  refine ⟨v, g, rfl, e, ⟨fun b k hb => ?_, hr.notS, hr.inj, fun β hs => Nat.lt_of_lt_of_le (hr.below β hs) e1.size, fun β hb => ⟨(hr.base β hb).1, by rw [hold β (hr.below β (hr.base β hb).1)]; exact (hr.base β hb).2⟩⟩, hv.solid hs⟩
  by_cases hl : k.live = true
  · exact Blk.at_mono hr e rfl rfl rfl (hold _ (hr.live_lt ⟨b, k, hb, hl, rfl⟩)) (hr.at_ b k hb)
  · cases k <;> first | trivial | (exact absurd rfl hl)

/-- A call, whatever way the evaluator takes it. -/
theorem evCall_sound {P : Program} {K : Base} {C : Cfg} {X : Ctx} (hX : CallsOK P K X) (hE : ExtOK P K C) {f : FuncId} {args : List AV} {H H' : Heap} {r : AV} (h : evCall C X f args H = some (r, H')) :
    hasBody P f ∧ ∀ g w vs, RH K g H w → Args g H w args vs → Calls P f vs w (CallPost K g H w r H') := by
  unfold evCall at h
  split at h
  · exact hX _ _ _ _ _ h
  · split at h
    · rename_i hf
      obtain ⟨v, hv, he⟩ := Option.map_eq_some_iff.1 h
      cases he
      obtain ⟨h1, h2⟩ := acall_sound hX hE hf hv
      exact ⟨h1, fun g w vs hr ha => h2 g _ w vs hr ha⟩
    · split at h
      · obtain ⟨fa, hfa, h⟩ := Option.bind_eq_some_iff.1 h
        split at h
        · rename_i hff
          obtain ⟨v, hv, h⟩ := Option.bind_eq_some_iff.1 h
          split at h
          · rename_i hs
            cases h
            exact lent_sound hX hE hfa hff hv hs
          · cases h
        · cases h
      · exact hX _ _ _ _ _ h

end Go.Ev
