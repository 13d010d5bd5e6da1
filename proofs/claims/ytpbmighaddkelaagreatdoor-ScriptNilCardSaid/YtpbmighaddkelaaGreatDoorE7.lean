/- The evaluator's operations are the machine's: what is stored, boxed, appended. -/
import Derived.Test.YtpbmighaddkelaaGreatDoorE6
import Derived.Laws.Append
namespace Go.Ev

def putA : Array Value → Nat → List Value → Array Value
  | arr, _, [] => arr
  | arr, o, v :: r => putA (arr.setIfInBounds o v) (o + 1) r

theorem putA_size : ∀ (vs : List Value) (o : Nat) (arr : Array Value), (putA arr o vs).size = arr.size
  | [], _, _ => rfl
  | v :: r, o, arr => by rw [putA, putA_size r]; simp

theorem putA_out : ∀ (vs : List Value) (o : Nat) (arr : Array Value) (j : Nat), j < o ∨ o + vs.length ≤ j → (putA arr o vs).getD j undef = arr.getD j undef
  | [], _, _, _, _ => rfl
  | v :: r, o, arr, j, h => by
    rw [putA, putA_out r (o + 1) _ j (by simp at h; omega)]
    have : o ≠ j := by simp at h; omega
    simp [Array.getD_eq_getD_getElem?, this]

theorem putA_in : ∀ (vs : List Value) (o : Nat) (arr : Array Value) (j : Nat), o + vs.length ≤ arr.size → j < vs.length → (putA arr o vs).getD (o + j) undef = vs.getD j undef
  | [], _, _, _, _, h => by simp at h
  | v :: r, o, arr, 0, h, _ => by
    rw [putA, putA_out r (o + 1) _ _ (by omega)]
    have : o < arr.size := by simp at h; omega
    simp [Array.getD_eq_getD_getElem?, this]
  | v :: r, o, arr, j + 1, h, hj => by
    have := putA_in r (o + 1) (arr.setIfInBounds o v) j (by simp at h ⊢; omega) (by simpa using hj)
    rw [putA, show o + (j + 1) = o + 1 + j by omega, this]
    rfl

theorem putCells_length : ∀ (vs : List AV) (o : Nat) (cs : List AV), (putCells cs o vs).length = cs.length
  | [], _, _ => rfl
  | v :: r, o, cs => by rw [putCells, putCells_length r]; simp

theorem putCells_out : ∀ (vs : List AV) (o : Nat) (cs : List AV) (j : Nat), j < o ∨ o + vs.length ≤ j → (putCells cs o vs).getD j .und = cs.getD j .und
  | [], _, _, _, _ => rfl
  | v :: r, o, cs, j, h => by
    rw [putCells, putCells_out r (o + 1) _ j (by simp at h; omega)]
    have : o ≠ j := by simp at h; omega
    simp [List.getD_eq_getElem?_getD, this]

theorem putCells_in : ∀ (vs : List AV) (o : Nat) (cs : List AV) (j : Nat), o + vs.length ≤ cs.length → j < vs.length → (putCells cs o vs).getD (o + j) .und = vs.getD j .und
  | [], _, _, _, _, h => by simp at h
  | v :: r, o, cs, 0, h, _ => by
    rw [putCells, putCells_out r (o + 1) _ _ (by omega)]
    have : o < cs.length := by simp at h; omega
    simp [List.getD_eq_getElem?_getD, this]
  | v :: r, o, cs, j + 1, h, hj => by
    have := putCells_in r (o + 1) (cs.set o v) j (by simp at h ⊢; omega) (by simpa using hj)
    rw [putCells, show o + (j + 1) = o + 1 + j by omega, this]
    rfl

section
variable {P : Program} {K : Base} {g : Gh} {H : Heap} {w : World}

/-- Cells stored one behind the other into a block of cells. -/
theorem run_storeCells_arr (β o : Nat) (ty : TypeId) (fr : Nat × Nat) : ∀ (vs : List Value) (i : Nat) (w : World) (arr : Array Value), w.heap[β]? = some (.cells arr ty fr) → (arr.size ≤ fr.1 ∨ fr.2 = 0) →
    o + i + vs.length ≤ arr.size → (∀ v ∈ vs, v.oneCell' = true) →
    ∃ w', (storeCells ⟨β, o, none⟩ vs i).run P w = .ok () w' ∧ w'.heap[β]? = some (.cells (putA arr (o + i) vs) ty fr) ∧ (∀ x, x ≠ β → w'.heap[x]? = w.heap[x]?) ∧ w'.heap.size = w.heap.size ∧
      w'.os = w.os ∧ w'.tape = w.tape ∧ w'.output = w.output
  | [], i, w, arr, h, _, _, _ => ⟨w, rfl, h, fun _ _ => rfl, rfl, rfl, rfl, rfl⟩
  | v :: r, i, w, arr, h, hfr, hl, h1 => by
    have hlt : o + i < arr.size := by simp at hl; omega
    have hc : w.cell? ⟨β, o + i, none⟩ = some (arr[o + i]) := by simp [World.cell?, h, hlt]
    have hf : w.frozen? ⟨β, o + i, none⟩ = false := by
      obtain ⟨lo, hi⟩ := fr
      simp only [World.frozen?, h, Bool.and_eq_false_iff, decide_eq_false_iff_not]
      rcases hfr with h | h
      · exact .inl (by simp at h; omega)
      · exact .inr (by simp at h; omega)
    have hst : (store ((⟨β, o, none⟩ : Addr).add i) v).run P w = .ok () (w.setCell ⟨β, o + i, none⟩ v) := by
      rw [add_off, run_store P w _ v _ (h1 v (by simp))]
      simp [hc, hf]
    have hh : (w.setCell ⟨β, o + i, none⟩ v).heap[β]? = some (.cells (arr.setIfInBounds (o + i) v) ty fr) := by
      simp [World.setCell, Array.getElem?_modify, h]
    obtain ⟨w', h2, h3, h4, h5, h6, h7, h8⟩ := run_storeCells_arr β o ty fr r (i + 1) (w.setCell ⟨β, o + i, none⟩ v) (arr.setIfInBounds (o + i) v) hh (by simpa using hfr) (by simp at hl ⊢; omega) (fun x hx => h1 x (by simp [hx]))
    refine ⟨w', by simp only [storeCells, Sem.run_bind, hst, Result.andThen_ok]; exact h2, by rw [putA, Nat.add_assoc o i 1]; exact h3, fun x hx => ?_, by rw [h5]; simp, h6, h7, h8⟩
    rw [h4 x hx]
    simp only [World.setCell, Array.getElem?_modify]
    rw [if_neg (fun e => hx e.symm)]

theorem cells_one {v : Value} (h : ∀ j, j < v.cells.size → (v.cells.getD j undef).oneCell' = true) : ∀ u ∈ v.cells.toList, u.oneCell' = true := by
  intro u hu
  obtain ⟨j, hj, rfl⟩ := List.getElem_of_mem hu
  have hj' : j < v.cells.size := by simpa using hj
  have := h j hj'
  simpa [Array.getD_eq_getD_getElem?, hj'] using this

theorem putAt_some {x y v : AV} {o : Nat} (h : putAt x o v = some y) (hv0 : v.cells.length ≠ 0) : o + v.cells.length ≤ x.cells.length ∧ y.cells.length = x.cells.length ∧
    (∀ j, j < v.cells.length → y.cells.getD (o + j) .und = v.cells.getD j .und) ∧ (∀ j, j < o ∨ o + v.cells.length ≤ j → j < x.cells.length → y.cells.getD j .und = x.cells.getD j .und) := by
  unfold putAt at h
  split at h
  · rename_i hl
    cases h
    refine ⟨hl, ?_⟩
    cases x with
    | agg cs =>
      refine ⟨putCells_length _ _ _, fun j hj => putCells_in _ _ _ _ hl hj, fun j hj _ => putCells_out _ _ _ _ hj⟩
    | _ =>
      all_goals
        have hl' : o + v.cells.length ≤ 1 := hl
        have ho : o = 0 := by omega
        subst ho
        have h1 : v.cells.length = 1 := by omega
        refine ⟨h1, fun j hj => by simp, fun j hj hx => ?_⟩
        have hx' : j < 1 := hx
        omega
  · cases h

theorem evStore_sound (hr : RH K g H w) {t : TypeId} {p x : AV} {vp vx : Value} {H' : Heap} (hp : V g H w p vp) (hx : V g H w x vx) (h : evStore P H t x p = some H') :
    ∃ w' g', (Instr.storeAt t vp vx).run P w = .ok () w' ∧ Ext g H w g' H' w' ∧ RH K g' H' w' := by
  unfold evStore at h
  split at h
  · rename_i b n i o
    split at h
    · rename_i hs
      obtain ⟨xs, hxs, h⟩ := Option.bind_eq_some_iff.1 h
      obtain ⟨z, hz, h⟩ := Option.bind_eq_some_iff.1 h
      obtain ⟨y, hy, he⟩ := Option.map_eq_some_iff.1 h
      cases he
      obtain ⟨⟨z0, hH, hz0⟩, hn⟩ := arrOf_some hxs
      obtain ⟨ii, d, hi, hd, hsz⟩ := ti_size (P := P) (t := t) hs.2.2
      obtain ⟨c1, c2⟩ := V.cellsOf hs.2.1 hx
      have hs0 : x.cells.length ≠ 0 := by rw [hs.1]; exact hs.2.2
      obtain ⟨p1, p2, p3, p4⟩ := putAt_some hy hs0
      cases hp with
      | ptr _ _ _ _ _ _ hbl hv =>
        obtain rfl := (hv z0 xs hH).2 hn.symm
        obtain ⟨a0, arr, ty, fr, a1, a2, a3, a4, a5, a6⟩ := hr.at_ b _ hH
        have hil : i < xs.length := (List.getElem?_eq_some_iff.1 hz).1
        have ez : xs.getD i .und = z := by rw [List.getD_eq_getElem?_getD, hz]; rfl
        have zl := (a6 i hil).1
        rw [ez] at zl
        have hfit : i * g.sz b + o + vx.cells.toList.length ≤ arr.size := by
          have h1 : (i + 1) * g.sz b ≤ g.cap b * g.sz b := Nat.mul_le_mul_right _ (by omega)
          rw [Nat.add_mul] at h1
          simp only [Array.length_toList]
          omega
        obtain ⟨w', r1, r2, r3, r4, r5, r6, r7⟩ := run_storeCells_arr (P := P) (g.μ b) (i * g.sz b + o) ty fr vx.cells.toList 0 w arr a1 a2 (by simpa using hfit) (cells_one fun j hj => (c2 j (by omega)).2)
        have hrun : (Instr.storeAt t (.pointer (some ⟨g.μ b, i * g.sz b + o, none⟩)) vx).run P w = .ok () w' := by
          have hne : ¬ vx.cells.size ≠ ii.size := by rw [c1, hs.1, hsz]; simp
          simp only [Instr.storeAt, Instr.sureAddr, Sem.run_bind, Sem.run_pure, Result.andThen_ok, storeVar, run_sizeOf hi]
          rw [if_neg hne]
          exact r1
        obtain ⟨e, hr'⟩ := set_blk hr (w' := w') (k := .arr (szOf H b) (xs.set i y)) hH rfl rfl (g.μ b) (g.cap b) ⟨r5, r6, r7⟩ (by omega) (fun x _ hx => r3 x hx) (.inl rfl)
          (.inr ⟨_, by rw [hz0], by simp, fun _ => ⟨by simp [Gh.put], by simp [Gh.put]⟩, by simp [Gh.put]⟩) (fun g' hg' e => by
            subst hg'
            refine ⟨by rw [hz0, a0]; simp [Gh.put], putA arr (i * g.sz b + o) vx.cells.toList, ty, fr, by simpa [Gh.put] using r2, by rw [putA_size]; exact a2, by rw [putA_size]; simpa [Gh.put] using a3, by simpa [Gh.put] using a4, by simpa [Gh.put] using a5, fun i' hi' => ?_⟩
            have hi2 : i' < xs.length := by simpa using hi'
            have hsz' : (g.put b (g.μ b) (g.cap b) (g.sz b)).sz b = g.sz b := by simp [Gh.put]
            rw [hsz']
            by_cases hii : i' = i
            · subst hii
              have ey : (xs.set i' y).getD i' .und = y := by simp [List.getD_eq_getElem?_getD, hi2]
              rw [ey]
              refine ⟨by rw [p2]; exact zl, fun j hj => ?_⟩
              by_cases hjo : o ≤ j ∧ j < o + x.cells.length
              · have e1 : j = o + (j - o) := by omega
                have hj1 : j - o < x.cells.length := by omega
                have e2 := p3 (j - o) hj1
                have e3 := putA_in vx.cells.toList (i' * g.sz b + o) arr (j - o) hfit (by simp; omega)
                rw [← e1] at e2
                rw [show i' * g.sz b + o + (j - o) = i' * g.sz b + j by omega] at e3
                rw [e2, e3]
                have := V.mono hr e (c2 (j - o) hj1).1
                simpa [List.getD_eq_getElem?_getD, Array.getD_eq_getD_getElem?] using this
              · have hjz : j < z.cells.length := by omega
                rw [p4 j (by omega) hjz, putA_out _ _ _ _ (by simp; omega)]
                have := (a6 i' hi2).2 j hj
                rw [ez] at this
                exact V.mono hr e this
            · have ey : (xs.set i y).getD i' .und = xs.getD i' .und := by simp [List.getD_eq_getElem?_getD, Ne.symm hii]
              rw [ey]
              refine ⟨(a6 i' hi2).1, fun j hj => ?_⟩
              have hout : i' * g.sz b + j < i * g.sz b + o ∨ i * g.sz b + o + vx.cells.toList.length ≤ i' * g.sz b + j := by
                rcases Nat.lt_or_gt_of_ne hii with h1 | h1
                · left
                  have h2 : (i' + 1) * g.sz b ≤ i * g.sz b := Nat.mul_le_mul_right _ h1
                  rw [Nat.add_mul] at h2
                  omega
                · right
                  have h2 : (i + 1) * g.sz b ≤ i' * g.sz b := Nat.mul_le_mul_right _ h1
                  rw [Nat.add_mul] at h2
                  simp only [Array.length_toList]
                  omega
              rw [putA_out _ _ _ _ hout]
              exact V.mono hr e ((a6 i' hi2).2 j hj))
        exact ⟨w', _, hrun, e, hr'⟩
    · cases h
  · cases h

end
end Go.Ev
