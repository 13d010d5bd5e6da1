/- How a function's slots stand to the machine's, and what one operation makes of them. -/
import Derived.Test.YtpbmighaddkelaaGreatDoorE12
namespace Go.Ev

/-- The slots stand to the machine's; where a variable is made whose value is not told yet, its block is nobody else's. -/
structure RT (n0 : Nat) (g : Gh) (H : Heap) (w : World) (T : Slots) (a : Act) : Prop where
  v : ∀ t, V g H w (T t) (a.tmps.getD t undef)
  new : ∀ t n, T t = .fresh n → ∃ β arr ty, a.tmps.getD t undef = .pointer (some ⟨β, 0, none⟩) ∧ n0 ≤ β ∧ ¬ g.S β ∧ ¬ Live g H β ∧ w.heap[β]? = some (.cells arr ty (0, 0)) ∧ arr.size = n
  inj : ∀ t t' n n', T t = .fresh n → T t' = .fresh n' → a.tmps.getD t undef = a.tmps.getD t' undef → t = t'

/-- Within a function's run that began at g0, H0, w0. -/
structure Inv (K : Base) (N : Nat) (g0 : Gh) (H0 : Heap) (w0 : World) (st : St) (a : Act) (w : World) : Prop where
  rel : ∃ g, Ext g0 H0 w0 g st.H w ∧ RH K g st.H w ∧ RT w0.heap.size g st.H w st.T a
  defers : a.defers = []
  size : N ≤ a.tmps.size

section
variable {P : Program} {K : Base} {g : Gh} {H : Heap} {w : World}

theorem RT.mono {n0 : Nat} {T : Slots} {a : Act} (hr : RH K g H w) {g' : Gh} {H' : Heap} {w' : World} (e : Ext g H w g' H' w') (h : RT n0 g H w T a) : RT n0 g' H' w' T a where
  v t := V.mono hr e (h.v t)
  new t n ht := by
    obtain ⟨β, arr, ty, h1, h2, h3, h4, h5, h6⟩ := h.new t n ht
    have hlt : β < w.heap.size := (Array.getElem?_eq_some_iff.1 h5).1
    refine ⟨β, arr, ty, h1, h2, fun hs => ?_, fun hl => ?_, by rw [e.frame β hlt h4]; exact h5, h6⟩
    · rcases e.S2 β hs with h | h | h
      · exact h3 h
      · exact h4 h
      · omega
    · rcases e.live β hl with h | h
      · exact h4 h
      · omega
  inj := h.inj

theorem put_getD {a : Act} {d t : Nat} {v : Value} (hd : d < a.tmps.size) : (a.put (some d) v).tmps.getD t undef = if t = d then v else a.tmps.getD t undef := by
  simp only [Act.put, Array.getD_eq_getD_getElem?, Array.getElem?_setIfInBounds]
  by_cases h : d = t
  · subst h; simp [hd]
  · rw [if_neg h, if_neg (fun e => h e.symm)]

/-- A slot gets a value that is told. -/
theorem RT.put {n0 : Nat} {T : Slots} {a : Act} (h : RT n0 g H w T a) {d : Option Tmp} {r : AV} {v : Value} (hd : ∀ t, d = some t → t < a.tmps.size) (hv : V g H w r v) (hf : isFresh r = false) : RT n0 g H w (updO T d r) (a.put d v) := by
  cases d with
  | none => exact h
  | some d =>
    have hd' := hd d rfl
    have hne : ∀ t n, updO T (some d) r t = .fresh n → t ≠ d ∧ T t = .fresh n := by
      intro t n ht
      simp only [updO, upd] at ht
      split at ht
      · subst ht; simp [isFresh] at hf
      · exact ⟨by assumption, ht⟩
    refine ⟨fun t => ?_, fun t n ht => ?_, fun t t' n n' ht ht' he => ?_⟩
    · rw [put_getD hd']
      simp only [updO, upd]
      split
      · exact hv
      · exact h.v t
    · obtain ⟨h1, h2⟩ := hne t n ht
      rw [put_getD hd', if_neg h1]
      exact h.new t n h2
    · obtain ⟨h1, h2⟩ := hne t n ht
      obtain ⟨h3, h4⟩ := hne t' n' ht'
      rw [put_getD hd', put_getD hd', if_neg h1, if_neg h3] at he
      exact h.inj t t' n n' h2 h4 he

theorem Act.put_defers {a : Act} {d : Option Tmp} {v : Value} : (a.put d v).defers = a.defers := by cases d <;> rfl
theorem Act.put_size {a : Act} {d : Option Tmp} {v : Value} : (a.put d v).tmps.size = a.tmps.size := by cases d <;> simp [Act.put]

/-- An operation's end: its slot is set. -/
theorem Inv.put {N : Nat} {g0 : Gh} {H0 : Heap} {w0 w w' : World} {st : St} {a : Act} (hI : Inv K N g0 H0 w0 st a w) {g : Gh} (e0 : Ext g0 H0 w0 g st.H w) (hr : RH K g st.H w) (ht : RT w0.heap.size g st.H w st.T a)
    {g' : Gh} {H' : Heap} (e : Ext g st.H w g' H' w') (hr' : RH K g' H' w') {d : Option Tmp} {r : AV} {v : Value} (hd : ∀ t, d = some t → t < N) (hv : V g' H' w' r v) (hf : isFresh r = false) :
    Inv K N g0 H0 w0 ⟨updO st.T d r, H'⟩ (a.put d v) w' :=
  ⟨⟨g', e0.trans e, hr', (ht.mono hr e).put (fun t h => Nat.lt_of_lt_of_le (hd t h) hI.size) hv hf⟩, by rw [Act.put_defers]; exact hI.defers, by rw [Act.put_size]; exact hI.size⟩

/-- A block of the machine's that is nobody's is written for good. -/
theorem bind_new {n0 : Nat} {T : Slots} {a : Act} (hr : RH K g H w) (ht : RT n0 g H w T a) {p : Tmp} {n : Nat} (hp : T p = .fresh n) {x : AV} {vx : Value} (hx : V g H w x vx) (hk : x.okv = true) (hn : x.cells.length = n) (h0 : n ≠ 0) {t : TypeId} (hsz : (ti P t).size = n)
    {g0 : Gh} {H0 : Heap} {w0 : World} (e0 : Ext g0 H0 w0 g H w) (hn0 : n0 = w0.heap.size) :
    ∃ w' g', (Instr.storeAt t (a.tmps.getD p undef) vx).run P w = .ok () w' ∧ Ext g0 H0 w0 g' H w' ∧ RH K g' H w' ∧ RT n0 g' H w' (upd T p (.ptrI x 0)) a := by
  obtain ⟨β, arr, ty, h1, h2, h3, h4, h5, h6⟩ := ht.new p n hp
  obtain ⟨c1, c2⟩ := V.cellsOf hk hx
  obtain ⟨i, d, hi, hd, hti⟩ := ti_size (P := P) (t := t) (by omega)
  have hsz' : i.size = n := by rw [hti] at hsz; exact hsz
  have hlt : β < w.heap.size := (Array.getElem?_eq_some_iff.1 h5).1
  obtain ⟨w', r1, r2, r3, r4, r5, r6, r7⟩ := run_storeCells_arr (P := P) β 0 ty (0, 0) vx.cells.toList 0 w arr h5 (.inr rfl) (by simp only [Array.length_toList]; omega) (cells_one fun j hj => (c2 j (by omega)).2)
  have hrun : (Instr.storeAt t (a.tmps.getD p undef) vx).run P w = .ok () w' := by
    have hne : ¬ vx.cells.size ≠ i.size := by omega
    rw [h1]
    simp only [Instr.storeAt, Instr.sureAddr, Sem.run_bind, Sem.run_pure, Result.andThen_ok, storeVar, run_sizeOf hi]
    rw [if_neg hne]
    exact r1
  let g' : Gh := ⟨fun b => g.S b ∨ b = β, g.μ, g.cap, g.sz⟩
  have hst : ∀ b, g.S b → w'.heap[b]? = w.heap[b]? := fun b hb => r3 b (fun e => h3 (e ▸ hb))
  have hlv : ∀ b, Live g H b → w'.heap[b]? = w.heap[b]? := fun b hb => r3 b (fun e => h4 (e ▸ hb))
  have hto : ∀ (b : Nat) (k k' : Blk), H[b]? = some k → H[b]? = some k' → k.to g g' b k' := by
    intro b k k' hk hk'
    rw [hk] at hk'; cases hk'
    cases k with
    | void => trivial
    | dead => rfl
    | arr z xs => exact .inr ⟨xs, rfl, Nat.le_refl _, fun _ => ⟨rfl, rfl⟩, rfl⟩
    | mapb es c => exact .inr ⟨es, c, rfl, rfl⟩
    | siter s p => exact .inr ⟨s, p, rfl, rfl⟩
  have hmono : ∀ {y : AV} {v : Value}, V g H w y v → V g' H w' y v := fun h => h.mono0 hst (fun _ h => Or.inl h) (Nat.le_refl _) hto
  refine ⟨w', g', hrun, ⟨r5.trans e0.os, r6.trans e0.tape, r7.trans e0.output, by rw [r4]; exact e0.size, fun b hb hl => ?_, fun b h => Or.inl (e0.S1 b h), fun b h => ?_, e0.live, e0.len, e0.to⟩, ⟨fun b k hb => ?_, fun b hl h => ?_, hr.inj, fun b h => ?_, fun b h => ⟨.inl (hr.base b h).1, by rw [hst b (hr.base b h).1]; exact (hr.base b h).2⟩⟩, ⟨fun s => ?_, fun s m hs => ?_, fun s s' m m' hs hs' he => ?_⟩⟩
  · rw [r3 b (by omega)]; exact e0.frame b hb hl
  · rcases h with h | h
    · exact e0.S2 b h
    · exact .inr (.inr (by omega))
  · cases k with
    | void => trivial
    | dead => trivial
    | arr z xs =>
      obtain ⟨q0, arr', ty', fr, q1, q2, q3, q4, q5, q6⟩ := hr.at_ b _ hb
      exact ⟨q0, arr', ty', fr, by rw [show g'.μ b = g.μ b from rfl, hlv _ ⟨b, _, hb, rfl, rfl⟩]; exact q1, q2, q3, q4, q5, fun i hi => ⟨(q6 i hi).1, fun j hj => hmono ((q6 i hi).2 j hj)⟩⟩
    | mapb es c =>
      obtain ⟨es', q1, q2, q3⟩ := hr.at_ b _ hb
      exact ⟨es', by rw [show g'.μ b = g.μ b from rfl, hlv _ ⟨b, _, hb, rfl, rfl⟩]; exact q1, q2, fun i hi hi' => ⟨hmono (q3 i hi hi').1, hmono (q3 i hi hi').2.1, (q3 i hi hi').2.2⟩⟩
    | siter s p =>
      have := hr.at_ b _ hb
      show w'.heap[g.μ b]? = _
      rw [hlv _ ⟨b, _, hb, rfl, rfl⟩]; exact this
  · rcases h with h | h
    · exact hr.notS b hl h
    · exact h4 (h ▸ hl)
  · rcases h with h | h
    · rw [r4]; exact hr.below b h
    · rw [r4]; omega
  · simp only [upd]
    split
    · rename_i hs
      subst hs
      rw [h1]
      have e1 : (⟨β, 0, none⟩ : Addr) = ⟨β, 0 + 0, none⟩ := rfl
      rw [e1]
      refine .ptrI x 0 β 0 (fun j => vx.cells.getD j undef) (.inr rfl) (fun j hj => ?_) fun j hj => hmono (c2 j hj).1
      have hj1 : j < vx.cells.size := by omega
      have hj2 : 0 + 0 + j < (putA arr (0 + 0) vx.cells.toList).size := by rw [putA_size]; omega
      have e3 := putA_in vx.cells.toList (0 + 0) arr j (by simp only [Array.length_toList]; omega) (by simpa using hj1)
      have e4 : (putA arr (0 + 0) vx.cells.toList)[0 + 0 + j]? = some (vx.cells.getD j undef) := by
        rw [Array.getD_eq_getD_getElem?, Array.getElem?_eq_getElem hj2] at e3
        rw [Array.getElem?_eq_getElem hj2]
        simp only [Option.getD_some] at e3
        rw [e3]
        simp [List.getD_eq_getElem?_getD, Array.getD_eq_getD_getElem?]
      simp only [World.cell?, r2]
      simpa using e4
    · exact hmono (ht.v s)
  · simp only [upd] at hs
    split at hs
    · cases hs
    · rename_i hne
      obtain ⟨β', arr', ty', q1, q2, q3, q4, q5, q6⟩ := ht.new s m hs
      have hb : β' ≠ β := by
        rintro rfl
        exact hne (ht.inj s p m n hs hp (by rw [q1, h1]))
      exact ⟨β', arr', ty', q1, q2, fun h => h.elim q3 hb, q4, by rw [r3 β' hb]; exact q5, q6⟩
  · simp only [upd] at hs hs'
    split at hs
    · cases hs
    · split at hs'
      · cases hs'
      · exact ht.inj s s' m m' hs hs' he

end
end Go.Ev
