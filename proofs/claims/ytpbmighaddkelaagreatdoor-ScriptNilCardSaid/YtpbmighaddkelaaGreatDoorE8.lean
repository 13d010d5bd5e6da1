/- The evaluator's operations are the machine's: what is read of a slice, what is appended to one. -/
import Derived.Test.YtpbmighaddkelaaGreatDoorE7
namespace Go.Ev

section
variable {P : Program} {K : Base} {g : Gh} {H : Heap} {w : World}

theorem sized_mem {n : Nat} {xs : List AV} (h : sized n xs = true) {i : Nat} (hi : i < xs.length) : (xs.getD i .und).cells.length = n ∧ (xs.getD i .und).okv = true := by
  have := List.all_eq_true.1 h (xs.getD i .und) (by rw [List.getD_eq_getElem?_getD, List.getElem?_eq_getElem hi]; exact List.getElem_mem hi)
  simpa using this

theorem okv_cell {x : AV} (h : x.okv = true) {j : Nat} (hj : j < x.cells.length) : (x.cells.getD j .und).cell = true := by
  have h2 : ∀ y ∈ x.cells, AV.cell y = true := by simpa [AV.okv] using h
  rw [List.getD_eq_getElem?_getD, List.getElem?_eq_getElem hj]
  exact h2 _ (List.getElem_mem hj)

/-- The cells of n elements of sz cells each that lie in memory. -/
theorem run_cells (β off n sz : Nat) (u : Nat → Nat → Value) (hc : ∀ i j, i < n → j < sz → w.cell? ⟨β, off + i * sz + j, none⟩ = some (u i j)) :
    ∃ arr : Array Value, (∀ w' : World, w'.heap = w.heap → (loadCells ⟨β, off, none⟩ (n * sz)).run P w' = .ok arr w') ∧ arr.size = n * sz ∧ ∀ i j, i < n → j < sz → arr.getD (i * sz + j) undef = u i j := by
  refine ⟨((List.range (n * sz)).map fun k => u (k / sz) (k % sz)).toArray, fun w' hw => ?_, by simp, fun i j hi hj => ?_⟩
  · refine run_loadCells w' _ _ _ fun k hk => ?_
    have hsz : 0 < sz := by rcases Nat.eq_zero_or_pos sz with h | h
                            · subst h; simp at hk
                            · exact h
    have h1 : k / sz < n := Nat.div_lt_of_lt_mul (by rwa [Nat.mul_comm])
    have h2 := hc (k / sz) (k % sz) h1 (Nat.mod_lt _ hsz)
    rw [Nat.add_assoc, Nat.mul_comm, Nat.div_add_mod] at h2
    rw [add_off, ← h2]
    simp [World.cell?, hw]
  · have hlt : i * sz + j < n * sz := by
      have : (i + 1) * sz ≤ n * sz := Nat.mul_le_mul_right _ hi
      rw [Nat.add_mul] at this
      omega
    rw [getD_range_map _ _ _ hlt]
    have h1 : (i * sz + j) / sz = i := by
      rw [Nat.mul_comm, Nat.mul_add_div (by omega), Nat.div_eq_of_lt hj]; rfl
    have h2 : (i * sz + j) % sz = j := by
      rw [Nat.mul_comm, Nat.mul_add_mod, Nat.mod_eq_of_lt hj]
    rw [h1, h2]

/-- What the machine reads of a slice, or a text. -/
structure Elems (P : Program) (g : Gh) (H : Heap) (w : World) (sz : Nat) (xs : List AV) (vx : Value) (arr : Array Value) : Prop where
  len : ∀ w' : World, (Builtin.lenOf vx).run P w' = .ok xs.length w'
  read : ∀ w' : World, w'.heap = w.heap → (Builtin.firstCells sz xs.length vx).run P w' = .ok arr w'
  size : arr.size = xs.length * sz
  at_ : ∀ i j, i < xs.length → j < sz → V g H w ((xs.getD i .und).cells.getD j .und) (arr.getD (i * sz + j) undef)

theorem Elems.one {sz : Nat} {xs : List AV} {vx : Value} {arr : Array Value} (h : Elems P g H w sz xs vx arr) (hs : sized sz xs = true) : ∀ u ∈ arr.toList, u.oneCell' = true := by
  intro u hu
  obtain ⟨k, hk, rfl⟩ := List.getElem_of_mem hu
  have hk' : k < xs.length * sz := by rw [← h.size]; simpa using hk
  have hsz : 0 < sz := by rcases Nat.eq_zero_or_pos sz with h | h
                          · subst h; simp at hk'
                          · exact h
  have h1 : k / sz < xs.length := Nat.div_lt_of_lt_mul (by rwa [Nat.mul_comm])
  have h2 := h.at_ (k / sz) (k % sz) h1 (Nat.mod_lt _ hsz)
  rw [Nat.mul_comm (k / sz), Nat.div_add_mod] at h2
  obtain ⟨h3, h4⟩ := sized_mem hs h1
  have h5 := V.one (okv_cell h4 (by rw [h3]; exact Nat.mod_lt _ hsz)) h2
  have hk2 : k < arr.size := by simpa using hk
  simpa [Array.getD_eq_getD_getElem?, hk2] using h5

theorem cells_byteAV (c : UInt8) : (byteAV c).cells = [byteAV c] := rfl

theorem elems_sound (hr : RH K g H w) {x : AV} {vx : Value} {xs : List AV} {sz : Nat} (hx : V g H w x vx) (h : elems H x = some xs) (hs : sized sz xs = true) : ∃ arr, Elems P g H w sz xs vx arr := by
  unfold elems at h
  split at h
  · cases h
    generalize hX : AV.sl xs = X at hx
    cases hx <;> first | (cases hX; done) | skip
    · rename_i a cap
      cases hX
      refine ⟨#[], fun _ => rfl, fun w' _ => ?_, by simp, fun i j hi => by simp at hi⟩
      cases a <;> simp [Builtin.firstCells, loadCells, loadCellsFrom]
    · rename_i ys β off cap sz' u hc hS hz hcell hv
      cases hX
      rcases Nat.eq_zero_or_pos xs.length with h0 | h0
      · refine ⟨#[], fun _ => rfl, fun w' _ => by rw [h0]; simp [Builtin.firstCells, loadCells, loadCellsFrom], by simp [h0], fun i j hi => by omega⟩
      · have e : sz' = sz := by rw [← hz 0 h0]; exact (sized_mem hs h0).1
        subst e
        obtain ⟨arr, h1, h2, h3⟩ := run_cells (P := P) β off xs.length sz' u hcell
        exact ⟨arr, fun _ => rfl, fun w' hw => h1 w' hw, h2, fun i j hi hj => by rw [h3 i j hi hj]; exact hv i j hi hj⟩
  · cases h
    cases hx
    rename_i n a _ _
    refine ⟨#[], fun _ => rfl, fun w' _ => ?_, by simp, fun i j hi => by simp at hi⟩
    cases a <;> simp [Builtin.firstCells, loadCells, loadCellsFrom]
  · rename_i b n
    obtain ⟨⟨z0, hH, _⟩, hn⟩ := arrOf_some h
    cases hx with
    | own _ _ _ _ _ hv =>
      obtain rfl := (hv z0 xs hH).2 hn.symm
      obtain ⟨_, arr, ty, fr, a1, a2, a3, a4, a5, a6⟩ := hr.at_ b _ hH
      rcases Nat.eq_zero_or_pos xs.length with h0 | h0
      · refine ⟨#[], fun _ => by rw [← hn]; rfl, fun w' _ => by rw [h0]; simp [Builtin.firstCells, loadCells, loadCellsFrom], by simp [h0], fun i j hi => by omega⟩
      · have e : g.sz b = sz := by rw [← (a6 0 h0).1]; exact (sized_mem hs h0).1
        subst e
        obtain ⟨arr', h1, h2, h3⟩ := run_cells (P := P) (w := w) (g.μ b) 0 xs.length (g.sz b) (fun i j => arr.getD (i * g.sz b + j) undef) (fun i j hi hj => by
          have hlt : i * g.sz b + j < arr.size := by
            have : (i + 1) * g.sz b ≤ g.cap b * g.sz b := Nat.mul_le_mul_right _ (by omega)
            rw [Nat.add_mul] at this
            omega
          simp [World.cell?, a1, Array.getD_eq_getD_getElem?, hlt])
        exact ⟨arr', fun _ => by rw [← hn]; rfl, fun w' hw => h1 w' hw, h2, fun i j hi hj => by rw [h3 i j hi hj]; exact (a6 i hi).2 j hj⟩
  · rename_i s
    cases h
    cases hx
    rcases Nat.eq_zero_or_pos s.size with h0 | h0
    · have hl : (s.data.toList.map byteAV).length = 0 := by simpa using h0
      have hsz : s.data.size = 0 := h0
      refine ⟨#[], fun _ => by rw [hl]; simp [Builtin.lenOf, h0], fun w' _ => ?_, by rw [hl]; simp, fun i j hi => by omega⟩
      rw [hl]
      simp [Builtin.firstCells]
    · have hlen : (s.data.toList.map byteAV).length = s.size := by simp
      have e : 1 = sz := by
        have := (sized_mem hs (i := 0) (by omega)).1
        rw [← this, List.getD_eq_getElem?_getD, List.getElem?_eq_getElem (by omega)]
        simp [byteAV, AV.cells]
      subst e
      refine ⟨s.data.map fun b => .int .u8 b.toNat, fun _ => by rw [hlen]; rfl, fun w' _ => ?_, by simp, fun i j hi hj => ?_⟩
      · rw [hlen]
        have : s.extract 0 s.size = s := by
          apply ByteArray.ext
          simp [ByteArray.extract, ByteArray.copySlice]
          try rfl
        simp [Builtin.firstCells, this]
      · obtain rfl : j = 0 := by omega
        have hi' : i < s.data.size := by simpa using hi
        have e1 : (s.data.toList.map byteAV).getD i .und = byteAV s.data[i] := by
          rw [List.getD_eq_getElem?_getD, List.getElem?_map, List.getElem?_eq_getElem (by simpa using hi')]
          simp
        have e2 : (s.data.map fun b => Value.int .u8 b.toNat).getD (i * 1 + 0) undef = .int .u8 s.data[i].toNat := by
          rw [Array.getD_eq_getD_getElem?, Nat.mul_one, Nat.add_zero, Array.getElem?_map, Array.getElem?_eq_getElem hi']; rfl
        rw [e1, e2]
        exact .int _ _
  · cases h

theorem small_spec {e : TypeId} {n : Nat} (h : small P e n = true) : n ≤ 4294967296 ∧ (ti P e).bytes ≤ 4096 ∧ 0 < (ti P e).size := by
  simp [small] at h
  exact ⟨h.1.1, h.1.2, h.2⟩

theorem grownCap_le (w : World) (need old : Nat) (e : TypeId) (h : need ≤ 4294967296) : need ≤ grownCap w need old e ∧ grownCap w need old e ≤ maxLen := by
  unfold grownCap Question.cut maxLen
  simp only
  have : w.tape w.drawn (.appendCap need old e) % (2 ^ 63 - need) < 2 ^ 63 - need := Nat.mod_lt _ (by omega)
  omega

theorem zeroCells_size (z : Array Value) (n : Nat) : (Builtin.zeroCells z n).size = n * z.size := by simp [Builtin.zeroCells]

/-- 'append' where there is no room. -/
theorem run_append_grows {t u ty e : TypeId} {i : TypeInfo} {z : Value} {d : TypeDesc} (ht : P.underlying t = some (.slice e)) (hu : P.underlying u = some d) (hd : ∀ k, d ≠ .int k) (hi : P.info? e = some i) (hz : i.zero = some z)
    (base : Option Addr) (sLen sCap n : Nat) (olds news : Array Value) (x : Value) (hx : ∀ w' : World, (Builtin.lenOf x).run P w' = .ok n w')
    (hold : ∀ w' : World, w'.heap = w.heap → (Builtin.firstCells i.size sLen (.slice base sLen sCap)).run P w' = .ok olds w') (hnew : ∀ w' : World, w'.heap = w.heap → (Builtin.firstCells i.size n x).run P w' = .ok news w')
    (hg : sCap < sLen + n) (h63 : sLen + n ≤ 4294967296) (hb : i.bytes ≤ 4096) :
    (Builtin.append_ #[t, u] ty #[.slice base sLen sCap, x]).run P w =
      .ok (.slice (some ⟨w.heap.size, 0, none⟩) (sLen + n) (grownCap w (sLen + n) sCap e))
        (w.drew.alloc (.cells (olds ++ news ++ Builtin.zeroCells z.cells (grownCap w (sLen + n) sCap e - (sLen + n))) e)) := by
  have hn : ¬ (sLen + n ≤ sCap) := by omega
  have h63' : ¬ (9223372036854775807 < ((sLen : Int) + (n : Int))) := by omega
  have hfit : Builtin.nextslicecap (sLen + n) sCap * i.bytes ≤ 281474976710656 := growslice_fits hg (by
    have : (sLen + n) * i.bytes ≤ 4294967296 * 4096 := Nat.mul_le_mul h63 hb
    omega)
  have h48' : ¬ (281474976710656 < Builtin.nextslicecap (sLen + n) sCap * i.bytes) := by omega
  have e1 := hold w.drew rfl
  have e2 := hnew w.drew rfl
  simp [Builtin.append_, run_underlying ht, run_underlying hu, sizeOf, typeInfo, zeroValue, hi, hz, hx, hn, h63', h48', Question.forced, e1, e2, newRow, grownCap]

/-- 'append' where there is room. -/
theorem run_append_fits {t u ty e : TypeId} {i : TypeInfo} {d : TypeDesc} (ht : P.underlying t = some (.slice e)) (hu : P.underlying u = some d) (hd : ∀ k, d ≠ .int k) (hi : P.info? e = some i)
    (β sLen sCap n : Nat) (news : Array Value) (x : Value) (hx : ∀ w' : World, (Builtin.lenOf x).run P w' = .ok n w')
    (hnew : ∀ w' : World, w'.heap = w.heap → (Builtin.firstCells i.size n x).run P w' = .ok news w') (hg : sLen + n ≤ sCap) {w' : World}
    (hst : (storeCells ⟨β, sLen * i.size, none⟩ news.toList 0).run P w = .ok () w') :
    (Builtin.append_ #[t, u] ty #[.slice (some ⟨β, 0, none⟩) sLen sCap, x]).run P w = .ok (.slice (some ⟨β, 0, none⟩) (sLen + n) sCap) w' := by
  have e2 := hnew w rfl
  have ea : (⟨β, 0, none⟩ : Addr).add (sLen * i.size) = ⟨β, sLen * i.size, none⟩ := by rw [add_off]; simp
  simp [Builtin.append_, run_underlying ht, run_underlying hu, sizeOf, typeInfo, hi, hx, hg, e2, ea, hst]

end
end Go.Ev
