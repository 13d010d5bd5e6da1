/- The evaluator's operations are the machine's: reading, writing, arithmetic. -/
import Derived.Test.YtpbmighaddkelaaGreatDoorE2
import Derived.Laws.Cells
import Derived.Laws.IdiomCopy
namespace Go.Ev
open Go.RowKit (Below)

theorem ti_some {P : Program} {t : TypeId} (h : (ti P t).k ≠ .other) : ∃ i d, P.info? t = some i ∧ P.underlying t = some d ∧ ti P t = ⟨tk d, i.size, i.bytes, (i.zero.map ofVal).getD .und⟩ := by
  unfold ti at h ⊢
  cases h1 : P.info? t with
  | none => simp [h1] at h
  | some i =>
    cases h2 : P.underlying t with
    | none => simp [h1, h2] at h
    | some d => exact ⟨i, d, rfl, rfl, rfl⟩

theorem ti_size {P : Program} {t : TypeId} (h : (ti P t).size ≠ 0) : ∃ i d, P.info? t = some i ∧ P.underlying t = some d ∧ ti P t = ⟨tk d, i.size, i.bytes, (i.zero.map ofVal).getD .und⟩ := by
  unfold ti at h ⊢
  cases h1 : P.info? t with
  | none => simp [h1] at h
  | some i =>
    cases h2 : P.underlying t with
    | none => simp [h1, h2] at h
    | some d => exact ⟨i, d, rfl, rfl, rfl⟩

theorem tk_slice {d : TypeDesc} {e : TypeId} (h : tk d = .slice e) : d = .slice e := by cases d <;> simp [tk] at h; rw [h]
theorem tk_int {d : TypeDesc} {k : IntKind} (h : tk d = .int k) : d = .int k := by cases d <;> simp [tk] at h; rw [h]
theorem tk_str {d : TypeDesc} (h : tk d = .str) : d = .string := by cases d <;> simp [tk] at h; rfl
theorem tk_array {d : TypeDesc} {n : Nat} {e : TypeId} (h : tk d = .array n e) : d = .array n e := by cases d <;> simp [tk] at h; obtain ⟨rfl, rfl⟩ := h; rfl
theorem tk_struct {d : TypeDesc} {fs : List (Nat × TypeId)} (h : tk d = .struct fs) : ∃ gs, d = .struct gs ∧ fs = gs.toList.map fun f => (f.offset, f.type) := by
  cases d <;> simp [tk] at h; exact ⟨_, rfl, h.symm⟩

/-- What the tables say of a slice's type. -/
theorem ti_slice {P : Program} {t e : TypeId} (h : (ti P t).k = .slice e) : P.underlying t = some (.slice e) := by
  obtain ⟨i, d, _, h2, h3⟩ := ti_some (P := P) (t := t) (by rw [h]; simp)
  rw [h3] at h
  rw [h2, tk_slice h]

theorem ti_int {P : Program} {t : TypeId} {k : IntKind} (h : (ti P t).k = .int k) : P.underlying t = some (.int k) := by
  obtain ⟨i, d, _, h2, h3⟩ := ti_some (P := P) (t := t) (by rw [h]; simp)
  rw [h3] at h
  rw [h2, tk_int h]

theorem ti_str {P : Program} {t : TypeId} (h : (ti P t).k = .str) : P.underlying t = some .string := by
  obtain ⟨i, d, _, h2, h3⟩ := ti_some (P := P) (t := t) (by rw [h]; simp)
  rw [h3] at h
  rw [h2, tk_str h]

section
variable {P : Program} {g : Gh} {H : Heap} {w : World}

theorem run_sizeOf {t : TypeId} {i : TypeInfo} (h : P.info? t = some i) (w : World) : (sizeOf t).run P w = .ok i.size w := by
  simp [sizeOf, typeInfo, h]

theorem run_isAgg {t : TypeId} {d : TypeDesc} (h : P.underlying t = some d) (w : World) : (isAgg t).run P w = .ok (tk d).isAgg w := by
  unfold isAgg
  simp only [Sem.run_bind, run_underlying h, Result.andThen_ok]
  cases d <;> simp [tk, TK.isAgg]

theorem add_off (β o n : Nat) : (⟨β, o, none⟩ : Addr).add n = ⟨β, o + n, none⟩ := by
  unfold Addr.add
  split
  · rename_i h; simp [h]
  · rfl

theorem run_load_cell {a : Addr} {v : Value} (h : w.cell? a = some v) : (load a).run P w = .ok v w := by
  rw [run_load]; simp [h]

/-- Loading a variable whose cells are known. -/
theorem run_loadVar_cells {t : TypeId} {i : TypeInfo} {d : TypeDesc} (hi : P.info? t = some i) (hd : P.underlying t = some d) (β o : Nat) (f : Nat → Value)
    (hc : ∀ j, j < (if (tk d).isAgg then i.size else 1) → w.cell? ⟨β, o + j, none⟩ = some (f j)) :
    (loadVar t ⟨β, o, none⟩).run P w = .ok (if (tk d).isAgg then .agg ((List.range i.size).map f).toArray else f 0) w := by
  unfold loadVar
  simp only [Sem.run_bind, run_isAgg hd, Result.andThen_ok]
  cases hk : (tk d).isAgg with
  | true =>
    simp only [hk, if_true] at hc
    have := run_loadCells (P := P) w ⟨β, o, none⟩ i.size f (fun j hj => by rw [add_off]; exact hc j hj)
    simp only [if_true, Sem.run_bind, run_sizeOf hi, Result.andThen_ok, this, Sem.run_pure]
  | false =>
    have := hc 0 (by simp [hk])
    simp only [Bool.false_eq_true, if_false]
    exact run_load_cell (by simpa using this)

theorem V.one {a : AV} {v : Value} (hc : a.cell = true) (h : V g H w a v) : v.oneCell' = true := by
  cases h <;> first | rfl | assumption | (simp [AV.cell] at hc)

theorem cells_of_cell {a : AV} (h : a.cell = true) : a.cells = [a] := by cases a <;> first | rfl | (simp [AV.cell] at h)

theorem vcells_of_one {v : Value} (h : v.oneCell' = true) : v.cells = #[v] := by cases v <;> first | rfl | (simp [Value.oneCell'] at h)

/-- The cells of what may be stored. -/
theorem V.cellsOf {a : AV} {v : Value} (hk : a.okv = true) (h : V g H w a v) :
    v.cells.size = a.cells.length ∧ ∀ j, j < a.cells.length → V g H w (a.cells.getD j .und) (v.cells.getD j undef) ∧ (v.cells.getD j undef).oneCell' = true := by
  by_cases hc : a.cell = true
  · have h1 := V.one hc h
    rw [cells_of_cell hc, vcells_of_one h1]
    refine ⟨rfl, fun j hj => ?_⟩
    obtain rfl : j = 0 := by simpa using hj
    exact ⟨by simpa using h, by simpa using h1⟩
  · cases h with
    | agg cs arr hl hv =>
      refine ⟨hl, fun j hj => ⟨hv j hj, ?_⟩⟩
      have : (cs.getD j .und).cell = true := by
        have h2 : ∀ x ∈ cs, AV.cell x = true := by simpa [AV.okv, AV.cells] using hk
        have hj' : j < cs.length := hj
        rw [List.getD_eq_getElem?_getD, List.getElem?_eq_getElem hj']
        exact h2 _ (List.getElem_mem hj')
      exact V.one this (hv j hj)
    | _ => first | (simp [AV.cell] at hc; done) | (simp [AV.okv, AV.cells, AV.cell] at hk; done)

theorem V_ofCell (v : Value) : V g H w (ofCell v) v := by
  unfold ofCell
  split <;> first | exact .zsl true none (fun _ => rfl) (fun h => by cases h) | constructor

theorem V_ofVal (v : Value) : V g H w (ofVal v) v := by
  unfold ofVal
  split
  · rename_i cs
    refine .agg _ _ (by simp) fun i hi => ?_
    have hi' : i < cs.size := by simpa using hi
    have e1 : (cs.toList.map ofCell).getD i .und = ofCell cs[i] := by
      rw [List.getD_eq_getElem?_getD, List.getElem?_map, List.getElem?_eq_getElem (by simpa using hi')]
      simp
    have e2 : cs.getD i undef = cs[i] := by simp [Array.getD, hi']
    rw [e1, e2]
    exact V_ofCell _
  · exact V_ofCell _

theorem V_op {T : Slots} {a : Act} (ht : ∀ t, V g H w (T t) (a.tmps.getD t undef)) (x : Operand) : V g H w (ρ T x) (a.eval x) := by
  cases x with
  | tmp t => exact ht t
  | const v => exact V_ofVal v
  | global n => exact .und _
  | func f => exact .fn _ [] [] #[] #[] rfl rfl (fun i h => by simp at h) (fun i h => by simp at h)

/-- A part of known cells, at the machine's. -/
theorem part_sound {t : TypeId} {cs : List AV} {o : Nat} {r : AV} (h : part (ti P t) cs o = some r) :
    ∃ i d, P.info? t = some i ∧ P.underlying t = some d ∧ (ti P t).size = i.size ∧
      (if (tk d).isAgg then o + i.size ≤ cs.length ∧ r = .agg ((cs.drop o).take i.size) else o < cs.length ∧ r = cs.getD o .und) := by
  unfold part at h
  have hne : (ti P t).k ≠ .other := by intro e; rw [e] at h; cases h
  obtain ⟨i, d, h1, h2, h3⟩ := ti_some hne
  refine ⟨i, d, h1, h2, by rw [h3], ?_⟩
  rw [h3] at h
  simp only at h
  split at h
  · cases h
  · rename_i e
    rw [e]
    simp only [TK.isAgg, if_true]
    split at h
    · rename_i hl; exact ⟨hl, (Option.some.inj h).symm⟩
    · cases h
  · rename_i e
    rw [e]
    simp only [TK.isAgg, if_true]
    split at h
    · rename_i hl; exact ⟨hl, (Option.some.inj h).symm⟩
    · cases h
  · rename_i n1 n2 n3
    have hk : (tk d).isAgg = false := by
      cases hd : tk d <;> simp [TK.isAgg]
      · rename_i e; exact absurd hd (n2 _)
      · rename_i e; exact absurd hd (n3 _ _)
    rw [hk]
    simp only [Bool.false_eq_true, if_false]
    obtain ⟨hl, he⟩ := List.getElem?_eq_some_iff.1 h
    exact ⟨hl, by rw [List.getD_eq_getElem?_getD, h]; rfl⟩

theorem getD_drop_take (cs : List AV) (o n j : Nat) (hj : j < n) : ((cs.drop o).take n).getD j .und = cs.getD (o + j) .und := by
  simp [List.getD_eq_getElem?_getD, List.getElem?_drop, hj]

theorem getD_range_map (n : Nat) (f : Nat → Value) (j : Nat) (hj : j < n) : ((List.range n).map f).toArray.getD j undef = f j := by
  simp [Array.getD, hj]

/-- Reading a part of an element whose cells lie in memory. -/
theorem load_sound {t : TypeId} {x : AV} {o : Nat} {r : AV} (hp : part (ti P t) x.cells o = some r) (β off : Nat) (u : Nat → Value)
    (hc : ∀ j, j < x.cells.length → w.cell? ⟨β, off + j, none⟩ = some (u j)) (hv : ∀ j, j < x.cells.length → V g H w (x.cells.getD j .und) (u j)) :
    ∃ v, (loadVar t ⟨β, off + o, none⟩).run P w = .ok v w ∧ V g H w r v := by
  obtain ⟨i, d, hi, hd, _, h⟩ := part_sound hp
  cases hk : (tk d).isAgg with
  | true =>
    simp only [hk, if_true] at h
    obtain ⟨hl, rfl⟩ := h
    have := run_loadVar_cells (P := P) (w := w) hi hd β (off + o) (fun j => u (o + j)) (fun j hj => by
      simp only [hk, if_true] at hj
      rw [Nat.add_assoc]; exact hc _ (by omega))
    simp only [hk, if_true] at this
    refine ⟨_, this, .agg _ _ (by simp; omega) fun j hj => ?_⟩
    have hj' : j < i.size := by simp at hj; omega
    rw [getD_drop_take _ _ _ _ hj', getD_range_map _ _ _ hj']
    exact hv _ (by omega)
  | false =>
    simp only [hk, Bool.false_eq_true, if_false] at h
    obtain ⟨hl, rfl⟩ := h
    have := run_loadVar_cells (P := P) (w := w) hi hd β (off + o) (fun j => u (o + j)) (fun j hj => by
      simp only [hk, Bool.false_eq_true, if_false] at hj
      obtain rfl : j = 0 := by omega
      rw [Nat.add_assoc]; exact hc _ (by omega))
    simp only [hk, Bool.false_eq_true, if_false] at this
    exact ⟨_, this, hv _ hl⟩

variable {K : Base}

theorem arrOf_some {b n : Nat} {xs : List AV} (h : arrOf H b n = some xs) : (∃ z, H[b]? = some (.arr z xs) ∧ szOf H b = z) ∧ xs.length = n := by
  unfold arrOf at h
  split at h
  · rename_i z ys hb
    split at h
    · cases h; exact ⟨⟨_, hb, by unfold szOf; rw [hb]⟩, by assumption⟩
    · cases h
  · cases h

/-- The cells of an element of one of the evaluator's blocks. -/
theorem RH.elem (hr : RH K g H w) {b : Nat} {z : Nat} {xs : List AV} (hb : H[b]? = some (.arr z xs)) {i : Nat} {x : AV} (hx : xs[i]? = some x) :
    ∃ u : Nat → Value, x.cells.length = g.sz b ∧ (∀ j, j < x.cells.length → w.cell? ⟨g.μ b, i * g.sz b + j, none⟩ = some (u j)) ∧ ∀ j, j < x.cells.length → V g H w (x.cells.getD j .und) (u j) := by
  obtain ⟨_, arr, ty, fr, h1, _, h3, h4, _, h5⟩ := hr.at_ b _ hb
  have hi : i < xs.length := (List.getElem?_eq_some_iff.1 hx).1
  obtain ⟨h6, h7⟩ := h5 i hi
  have ex : xs.getD i .und = x := by rw [List.getD_eq_getElem?_getD, hx]; rfl
  rw [ex] at h6 h7
  refine ⟨fun j => arr.getD (i * g.sz b + j) undef, h6, fun j hj => ?_, fun j hj => h7 j (by omega)⟩
  have hlt : i * g.sz b + j < arr.size := by
    have : (i + 1) * g.sz b ≤ g.cap b * g.sz b := Nat.mul_le_mul_right _ (by omega)
    rw [Nat.add_mul] at this
    omega
  simp [World.cell?, h1, Array.getD, hlt]

theorem evLoad_sound (hr : RH K g H w) {t : TypeId} {p r : AV} {v : Value} (hp : V g H w p v) (h : evLoad P H t p = some r) : ∃ u, (Instr.loadAt t v).run P w = .ok u w ∧ V g H w r u := by
  unfold evLoad at h
  split at h
  · rename_i x o
    cases hp with
    | ptrI _ _ β off u hs hc hv =>
      obtain ⟨z, h1, h2⟩ := load_sound h β off u hc hv
      exact ⟨z, by simpa [Instr.loadAt, Instr.sureAddr] using h1, h2⟩
  · rename_i b n i o
    obtain ⟨xs, hxs, h⟩ := Option.bind_eq_some_iff.1 h
    obtain ⟨x, hx, h⟩ := Option.bind_eq_some_iff.1 h
    obtain ⟨⟨z0, hb, _⟩, hn⟩ := arrOf_some hxs
    cases hp with
    | ptr _ _ _ _ _ _ _ hv =>
      obtain rfl := (hv z0 xs hb).2 hn.symm
      obtain ⟨u, hl, hc, hu⟩ := hr.elem hb hx
      obtain ⟨z, h1, h2⟩ := load_sound h (g.μ b) (i * g.sz b) u hc hu
      exact ⟨z, by simpa [Instr.loadAt, Instr.sureAddr] using h1, h2⟩
  · cases h
end

end Go.Ev
