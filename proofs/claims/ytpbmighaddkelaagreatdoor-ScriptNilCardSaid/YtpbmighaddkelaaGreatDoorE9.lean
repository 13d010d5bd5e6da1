/- The evaluator's operations are the machine's: append, make, literals, conversions, boxes. -/
import Derived.Test.YtpbmighaddkelaaGreatDoorE8
namespace Go.Ev

section
variable {P : Program} {K : Base} {g : Gh} {H : Heap} {w : World}

theorem tk_not_int {u : TypeId} (h : ∀ k, (ti P u).k ≠ .int k) (h0 : (ti P u).k ≠ .other) : ∃ d, P.underlying u = some d ∧ ∀ k, d ≠ .int k := by
  obtain ⟨i, d, _, h2, h3⟩ := ti_some h0
  refine ⟨d, h2, fun k e => h k ?_⟩
  rw [h3, e]; rfl

theorem getD_append_l (a b : Array Value) (i : Nat) (h : i < a.size) : (a ++ b).getD i undef = a.getD i undef := by
  simp [Array.getD_eq_getD_getElem?, Array.getElem?_append, h]
theorem getD_append_r (a b : Array Value) (i : Nat) (h : a.size ≤ i) : (a ++ b).getD i undef = b.getD (i - a.size) undef := by
  have : ¬ i < a.size := by omega
  simp [Array.getD_eq_getD_getElem?, Array.getElem?_append, this]
theorem lgetD_append_l (a b : List AV) (i : Nat) (h : i < a.length) : (a ++ b).getD i .und = a.getD i .und := by
  simp [List.getD_eq_getElem?_getD, List.getElem?_append, h]
theorem lgetD_append_r (a b : List AV) (i : Nat) (h : a.length ≤ i) : (a ++ b).getD i .und = b.getD (i - a.length) .und := by
  have : ¬ i < a.length := by omega
  simp [List.getD_eq_getElem?_getD, List.getElem?_append, this]

theorem idx_lt {n sz i j : Nat} (hi : i < n) (hj : j < sz) : i * sz + j < n * sz := by
  have : (i + 1) * sz ≤ n * sz := Nat.mul_le_mul_right _ hi
  rw [Nat.add_mul] at this
  omega

/-- Elements told by an array of cells. -/
def Told (g : Gh) (H : Heap) (w : World) (sz : Nat) (xs : List AV) (arr : Array Value) : Prop :=
  arr.size = xs.length * sz ∧ ∀ i j, i < xs.length → j < sz → V g H w ((xs.getD i .und).cells.getD j .und) (arr.getD (i * sz + j) undef)

theorem Told.mono {g' : Gh} {H' : Heap} {w' : World} (hr : RH K g H w) (e : Ext g H w g' H' w') {sz : Nat} {xs : List AV} {arr : Array Value} (h : Told g H w sz xs arr) : Told g' H' w' sz xs arr :=
  ⟨h.1, fun i j hi hj => V.mono hr e (h.2 i j hi hj)⟩

theorem Told.append {sz : Nat} {xs ys : List AV} {a b : Array Value} (h : Told g H w sz xs a) (h' : Told g H w sz ys b) : Told g H w sz (xs ++ ys) (a ++ b) := by
  refine ⟨by simp [h.1, h'.1, Nat.add_mul], fun i j hi hj => ?_⟩
  by_cases hx : i < xs.length
  · rw [lgetD_append_l _ _ _ hx, getD_append_l _ _ _ (by rw [h.1]; exact idx_lt hx hj)]
    exact h.2 i j hx hj
  · have hx' : xs.length ≤ i := by omega
    have hi' : i - xs.length < ys.length := by simp at hi; omega
    have e : i * sz + j = xs.length * sz + ((i - xs.length) * sz + j) := by
      have : i = xs.length + (i - xs.length) := by omega
      conv => lhs; rw [this, Nat.add_mul]
      omega
    rw [lgetD_append_r _ _ _ hx', getD_append_r _ _ _ (by rw [h.1, e]; omega), h.1]
    have e2 : i * sz + j - xs.length * sz = (i - xs.length) * sz + j := by omega
    rw [e2]
    exact h'.2 _ j hi' hj

/-- A new block of cells that begins with elements that are told: as the mode has it. -/
theorem evNew_sound (hr : RH K g H w) {m : Mode} {al : Option Nat} {sz cap : Nat} {xs : List AV} {arr spare : Array Value} {r : AV} {H' : Heap} {w' : World} {ty : TypeId} {fr : Nat × Nat} (h : evNew m al H sz xs = some (r, H'))
    (hs : sized sz xs = true) (ht : Told g H w sz xs arr) (hp : Pushed w w' (.cells (arr ++ spare) ty fr)) (hfr : (arr ++ spare).size ≤ fr.1 ∨ fr.2 = 0) (hcap : (arr ++ spare).size = cap * sz) (hlc : xs.length ≤ cap) (hc : cap ≤ maxLen) :
    ∃ g', Ext g H w g' H' w' ∧ RH K g' H' w' ∧ V g' H' w' r (.slice (some ⟨w.heap.size, 0, none⟩) xs.length cap) := by
  cases m with
  | imm =>
    simp only [evNew] at h
    split at h
    · cases h
      obtain ⟨e, hr'⟩ := alloc_stable hr hp
      refine ⟨_, e, hr', .sl xs w.heap.size 0 cap sz (fun i j => arr.getD (i * sz + j) undef) hlc (.inr rfl) (fun i hi => (sized_mem hs hi).1) (fun i j hi hj => ?_) fun i j hi hj => V.mono hr e (ht.2 i j hi hj)⟩
      have hlt : i * sz + j < arr.size := by rw [ht.1]; exact idx_lt hi hj
      have hlt' : i * sz + j < (arr ++ spare).size := by simp; omega
      simp [World.cell?, hp.new, Array.getD_eq_getD_getElem?, Array.getElem?_append, hlt]
    · cases h
  | heap =>
    simp only [evNew] at h
    obtain ⟨⟨b0, H0⟩, hnb, he0⟩ := Option.map_eq_some_iff.1 h
    cases he0
    obtain ⟨_, hat0, hreal, _⟩ := newB_spec hnb (by simp)
    obtain ⟨e, hr'⟩ := alloc_blk hr hp (.arr sz xs) cap sz rfl hnb (fun g' hg' e => by
      subst hg'
      refine ⟨by simp [Gh.put], arr ++ spare, ty, fr, by simpa [Gh.put] using hp.new, hfr, by simpa [Gh.put] using hcap, by simpa [Gh.put] using hlc, by simpa [Gh.put] using hc, fun i hi => ?_⟩
      have hsz : (g.put b0 w.heap.size cap sz).sz b0 = sz := by simp [Gh.put]
      rw [hsz]
      refine ⟨(sized_mem hs hi).1, fun j hj => ?_⟩
      rw [getD_append_l _ _ _ (by rw [ht.1]; exact idx_lt hi hj)]
      exact V.mono hr e (ht.2 i j hi hj))
    refine ⟨_, e, hr', .own _ _ _ rfl hreal fun z' ys hy => ?_⟩
    rw [hat0] at hy
    cases hy
    exact ⟨Nat.le_refl _, fun _ => by simp [Gh.put]⟩

theorem ti_zero {e : TypeId} {i : TypeInfo} {d : TypeDesc} (h : ti P e = ⟨tk d, i.size, i.bytes, (i.zero.map ofVal).getD .und⟩) (hs : sized (ti P e).size [(ti P e).zero] = true) : ∃ z, i.zero = some z ∧ z.cells.size = i.size ∧ (ti P e).zero = ofVal z := by
  have h1 := sized_mem hs (i := 0) (by simp)
  rw [h] at h1
  simp only [List.getD_cons_zero] at h1
  cases hz : i.zero with
  | none => rw [hz] at h1; simp [AV.okv, AV.cells, AV.cell] at h1
  | some z =>
    rw [hz] at h1
    simp only [Option.map_some, Option.getD_some] at h1
    have := (V.cellsOf (g := ⟨fun _ => False, fun _ => 0, fun _ => 0, fun _ => 0⟩) (H := []) (w := default) h1.2 (V_ofVal z)).1
    exact ⟨z, rfl, by rw [this]; exact h1.1, by rw [h, hz]; rfl⟩

/-- Zeros behind what is appended: the block's size. -/
theorem grown_size {sz n cap : Nat} {a b : Array Value} {z : Array Value} (ha : a.size + b.size = n * sz) (hz : z.size = sz) (hn : n ≤ cap) : (a ++ b ++ Builtin.zeroCells z (cap - n)).size = cap * sz := by
  simp only [Array.size_append, zeroCells_size, hz, ha]
  rw [← Nat.add_mul]
  congr 1
  omega

/-- What a block of the evaluator's holds, as the machine reads it. -/
theorem blk_read (hr : RH K g H w) {b z : Nat} {xs : List AV} (hH : H[b]? = some (.arr z xs)) (c : Nat) :
    ∃ arr, (∀ w' : World, w'.heap = w.heap → (Builtin.firstCells (g.sz b) xs.length (.slice (some ⟨g.μ b, 0, none⟩) xs.length c)).run P w' = .ok arr w') ∧ Told g H w (g.sz b) xs arr := by
  obtain ⟨_, arr, ty, fr, a1, a2, a3, a4, a5, a6⟩ := hr.at_ b _ hH
  obtain ⟨arr', h1, h2, h3⟩ := run_cells (P := P) (w := w) (g.μ b) 0 xs.length (g.sz b) (fun i j => arr.getD (i * g.sz b + j) undef) (fun i j hi hj => by
    have hlt : i * g.sz b + j < arr.size := by
      have := idx_lt (n := g.cap b) (i := i) (by omega) hj
      omega
    simp [World.cell?, a1, Array.getD_eq_getD_getElem?, hlt])
  exact ⟨arr', fun w' hw => h1 w' hw, h2, fun i j hi hj => by rw [h3 i j hi hj]; exact (a6 i hi).2 j hj⟩

theorem evAppend_sound (hr : RH K g H w) {m : Mode} {al : Option Nat} {t u ty : TypeId} {s x r : AV} {vs vx : Value} {H' : Heap} (hs : V g H w s vs) (hx : V g H w x vx) (h : evAppend P m al H t u s x = some (r, H')) :
    ∃ v w' g', (Builtin.append_ #[t, u] ty #[vs, vx]).run P w = .ok v w' ∧ Ext g H w g' H' w' ∧ RH K g' H' w' ∧ V g' H' w' r v := by
  unfold evAppend at h
  split at h
  · rename_i e hk
    have hnu : ∃ d, P.underlying u = some d ∧ ∀ k, d ≠ .int k := by
      split at h
      · rename_i e' hu; exact tk_not_int (fun k => by rw [hu]; simp) (by rw [hu]; simp)
      · rename_i hu; exact tk_not_int (fun k => by rw [hu]; simp) (by rw [hu]; simp)
      · cases h
    obtain ⟨d, hu, hd⟩ := hnu
    have h' : ((elems H x).bind fun new => if sized (ti P e).size new ∧ sized (ti P e).size [(ti P e).zero] then (match s with
        | .zsl b => match new with
          | [] => some (.zsl b, H)
          | v :: r => if small P e (r.length + 1) then evNew m al H (ti P e).size (v :: r) else none
        | .own b n => (arrOf H b n).bind fun xs => if small P e (n + new.length) ∧ szOf H b = (ti P e).size then some (.own b (n + new.length), H.set b (.arr (szOf H b) (xs ++ new))) else none
        | _ => none) else none) = some (r, H') := by
      split at h
      · exact h
      · exact h
      · cases h
    clear h
    obtain ⟨new, hnew, h⟩ := Option.bind_eq_some_iff.1 h'
    split at h
    · rename_i hszz
      obtain ⟨hsz, hzero⟩ := hszz
      obtain ⟨arr, he⟩ := elems_sound (P := P) hr hx hnew hsz
      split at h
      · rename_i b
        cases hs with
        | zsl _ a h1 h2 =>
          split at h
          · cases h
            have hne := he.size
            simp at hne
            have hsm : ∃ i, P.info? e = some i := by
              have h0 := sized_mem (hzero) (i := 0) (by simp)
              unfold ti at h0
              cases hi : P.info? e with
              | none => simp [hi, AV.okv, AV.cells, AV.cell] at h0
              | some i => exact ⟨i, rfl⟩
            obtain ⟨i, hi⟩ := hsm
            refine ⟨.slice a 0 0, w, g, ?_, Ext.refl _ _ _, hr, .zsl _ a h1 h2⟩
            have hx0 := he.len w
            have hnw := he.read w rfl
            subst hne
            have : (ti P e).size = i.size ∨ True := .inr trivial
            have hn2 : ∀ w' : World, w'.heap = w.heap → (Builtin.firstCells i.size 0 vx).run P w' = .ok #[] w' := by
              intro w' hw
              have := he.read w' hw
              have hz0 : (Builtin.firstCells i.size 0 vx) = (Builtin.firstCells (ti P e).size 0 vx) := by
                cases vx <;> simp [Builtin.firstCells]
              rw [hz0]; exact this
            cases a with
            | none => simp [Builtin.append_, run_underlying (ti_slice hk), run_underlying hu, sizeOf, typeInfo, hi, he.len w, hn2 w rfl]
            | some a => simp [Builtin.append_, run_underlying (ti_slice hk), run_underlying hu, sizeOf, typeInfo, hi, he.len w, hn2 w rfl, storeCells]
          · rename_i v l
            split at h
            · rename_i hsm
              obtain ⟨s1, s2, s3⟩ := small_spec hsm
              obtain ⟨i, d', hi, hd', hti⟩ := ti_size (P := P) (t := e) (by omega)
              obtain ⟨z, hz, hzs, _⟩ := ti_zero hti (hzero)
              have hsz2 : (ti P e).size = i.size := by rw [hti]
              rw [hsz2] at he hsz
              have hby : i.bytes ≤ 4096 := by rw [hti] at s2; exact s2
              have hold : ∀ w' : World, w'.heap = w.heap → (Builtin.firstCells i.size 0 (.slice a 0 0)).run P w' = .ok #[] w' := fun w' _ => by
                cases a <;> simp [Builtin.firstCells, loadCells, loadCellsFrom]
              have hrun := run_append_grows (P := P) (w := w) (t := t) (u := u) (ty := ty) (ti_slice hk) hu hd hi hz a 0 0 (v :: l).length #[] arr vx he.len hold he.read (by simp) (by simpa using s1) hby
              obtain ⟨c1, c2⟩ := grownCap_le w (0 + (v :: l).length) 0 e (by simpa using s1)
              have hp : Pushed w (w.drew.alloc (.cells (arr ++ Builtin.zeroCells z.cells (grownCap w (0 + (v :: l).length) 0 e - (0 + (v :: l).length))) e)) _ := (Pushed.alloc w.drew _).drew
              rw [hsz2] at h
              obtain ⟨g', e1, e2, e3⟩ := evNew_sound hr h hsz ⟨he.size, he.at_⟩ hp (.inr rfl)
                (by have := grown_size (sz := i.size) (a := #[]) (b := arr) (z := z.cells) (by simpa using he.size) hzs (by simpa using c1); simpa using this) (by simpa using c1) c2
              exact ⟨_, _, g', hrun, by simpa using e1, by simpa using e2, by simpa using e3⟩
            · cases h
      · rename_i b n
        obtain ⟨xs, hxs, h⟩ := Option.bind_eq_some_iff.1 h
        split at h
        · rename_i hsm
          cases h
          obtain ⟨⟨z0, hH, hz0⟩, hn⟩ := arrOf_some hxs
          obtain ⟨s1, s2, s3⟩ := small_spec hsm.1
          obtain ⟨i, d', hi, hd', hti⟩ := ti_size (P := P) (t := e) (by omega)
          obtain ⟨z, hz, hzs, _⟩ := ti_zero hti (hzero)
          have hsz2 : (ti P e).size = i.size := by rw [hti]
          rw [hsz2] at he hsz
          have hby : i.bytes ≤ 4096 := by rw [hti] at s2; exact s2
          have hbl : b < H.length := (List.getElem?_eq_some_iff.1 hH).1
          obtain ⟨a0, barr, bty, fr, a1, a2, a3, a4, a5, a6⟩ := hr.at_ b _ hH
          have hszb : g.sz b = i.size := by rw [← a0, ← hz0, hsm.2, hsz2]
          obtain ⟨olds, o1, o2⟩ := blk_read (P := P) hr hH (g.cap b)
          rw [hszb] at o1 o2 a3 a6
          have htold := Told.append o2 ⟨he.size, he.at_⟩
          have hlen : (xs ++ new).length = n + new.length := by simp [hn]
          cases hs with
          | own _ _ _ _ _ hv =>
            obtain rfl := (hv z0 xs hH).2 hn.symm
            subst hn
            by_cases hroom : xs.length + new.length ≤ g.cap b
            · have hfit : xs.length * i.size + 0 + arr.toList.length ≤ barr.size := by
                have h1 := Nat.mul_le_mul_right i.size hroom
                rw [Nat.add_mul] at h1
                simp only [Array.length_toList, he.size]
                omega
              obtain ⟨w', r1, r2, r3, r4, r5, r6, r7⟩ := run_storeCells_arr (P := P) (g.μ b) (xs.length * i.size) bty fr arr.toList 0 w barr a1 a2 hfit (he.one hsz)
              have hrun := run_append_fits (P := P) (w := w) (t := t) (u := u) (ty := ty) (ti_slice hk) hu hd hi (g.μ b) xs.length (g.cap b) new.length arr vx he.len he.read hroom r1
              obtain ⟨e, hr'⟩ := set_blk hr (w' := w') (k := .arr (szOf H b) (xs ++ new)) hH rfl rfl (g.μ b) (g.cap b) ⟨r5, r6, r7⟩ (by omega) (fun x _ hx => r3 x hx) (.inl rfl)
                (.inr ⟨_, by rw [hz0], by simp, fun _ => ⟨by simp [Gh.put], by simp [Gh.put]⟩, by simp [Gh.put]⟩) (fun g' hg' e => by
                  subst hg'
                  refine ⟨by rw [hz0, a0]; simp [Gh.put], putA barr (xs.length * i.size + 0) arr.toList, bty, fr, by simpa [Gh.put] using r2, by rw [putA_size]; exact a2, by rw [putA_size]; simpa [Gh.put, hszb] using a3, by simpa [Gh.put] using hroom, by simpa [Gh.put] using a5, fun k hk' => ?_⟩
                  have hsz' : (g.put b (g.μ b) (g.cap b) (g.sz b)).sz b = i.size := by simp [Gh.put, hszb]
                  rw [hsz']
                  by_cases hx : k < xs.length
                  · rw [lgetD_append_l _ _ _ hx]
                    refine ⟨(a6 k hx).1, fun j hj => ?_⟩
                    rw [putA_out _ _ _ _ (.inl (by have := idx_lt hx hj; omega))]
                    exact V.mono hr e ((a6 k hx).2 j hj)
                  · have hx' : xs.length ≤ k := by omega
                    have hi' : k - xs.length < new.length := by simp at hk'; omega
                    rw [lgetD_append_r _ _ _ hx']
                    refine ⟨(sized_mem hsz hi').1, fun j hj => ?_⟩
                    have e1 : k * i.size + j = xs.length * i.size + 0 + ((k - xs.length) * i.size + j) := by
                      have : k = xs.length + (k - xs.length) := by omega
                      conv => lhs; rw [this, Nat.add_mul]
                      omega
                    rw [e1, putA_in _ _ _ _ hfit (by simp only [Array.length_toList, he.size]; exact idx_lt hi' hj)]
                    have := V.mono hr e (he.at_ _ j hi' hj)
                    simpa [List.getD_eq_getElem?_getD, Array.getD_eq_getD_getElem?] using this)
              refine ⟨_, w', _, hrun, e, hr', .own _ _ _ rfl (Real.set hbl (by simp)) fun z' ys hy => ?_⟩
              rw [List.getElem?_set, if_pos rfl, if_pos hbl] at hy
              simp only [Option.some.injEq, Blk.arr.injEq] at hy
              obtain ⟨_, rfl⟩ := hy
              exact ⟨by simp, fun _ => by simp [Gh.put]⟩
            · have hrun := run_append_grows (P := P) (w := w) (t := t) (u := u) (ty := ty) (ti_slice hk) hu hd hi hz (some ⟨g.μ b, 0, none⟩) xs.length (g.cap b) new.length olds arr vx he.len o1 he.read (by omega) s1 hby
              obtain ⟨c1, c2⟩ := grownCap_le w (xs.length + new.length) (g.cap b) e s1
              have hp : Pushed w (w.drew.alloc (.cells (olds ++ arr ++ Builtin.zeroCells z.cells (grownCap w (xs.length + new.length) (g.cap b) e - (xs.length + new.length))) e)) _ := (Pushed.alloc w.drew _).drew
              have hgs := grown_size (sz := i.size) (a := olds) (b := arr) (z := z.cells) (n := xs.length + new.length) (by rw [o2.1, he.size, Nat.add_mul]) hzs c1
              obtain ⟨e, hr'⟩ := set_blk hr (w' := _) (k := .arr (szOf H b) (xs ++ new)) hH rfl rfl w.heap.size (grownCap w (xs.length + new.length) (g.cap b) e) ⟨hp.os, hp.tape, hp.output⟩ (by rw [hp.size]; omega) (fun x hx _ => hp.old hx) (.inr (Nat.le_refl _))
                (.inr ⟨_, by rw [hz0], by simp, fun hc => by rw [List.length_append] at hc; omega, by simp [Gh.put]⟩) (fun g' hg' e' => by
                  subst hg'
                  refine ⟨by rw [hz0, a0]; simp [Gh.put], olds ++ arr ++ Builtin.zeroCells z.cells (grownCap w (xs.length + new.length) (g.cap b) e - (xs.length + new.length)), e, (0, 0), by rw [show (g.put b w.heap.size (grownCap w (xs.length + new.length) (g.cap b) e) (g.sz b)).μ b = w.heap.size from by simp [Gh.put]]; exact hp.new, .inr rfl, by simpa [Gh.put, hszb] using hgs, by simpa [Gh.put] using c1, by simpa [Gh.put] using c2, fun k hk' => ?_⟩
                  have hsz' : (g.put b w.heap.size (grownCap w (xs.length + new.length) (g.cap b) e) (g.sz b)).sz b = i.size := by simp [Gh.put, hszb]
                  rw [hsz']
                  refine ⟨?_, fun j hj => ?_⟩
                  · by_cases hx : k < xs.length
                    · rw [lgetD_append_l _ _ _ hx]; exact (a6 k hx).1
                    · have hi' : k - xs.length < new.length := by rw [hlen] at hk'; omega
                      rw [lgetD_append_r _ _ _ (by omega)]; exact (sized_mem hsz hi').1
                  · have hlt : k * i.size + j < (olds ++ arr).size := by rw [htold.1]; exact idx_lt hk' hj
                    rw [getD_append_l _ _ _ hlt]
                    exact V.mono hr e' (htold.2 k j hk' hj))
              refine ⟨_, _, _, hrun, e, hr', .own _ _ _ rfl (Real.set hbl (by simp)) fun z' ys hy => ?_⟩
              rw [List.getElem?_set, if_pos rfl, if_pos hbl] at hy
              simp only [Option.some.injEq, Blk.arr.injEq] at hy
              obtain ⟨_, rfl⟩ := hy
              exact ⟨by simp, fun _ => by simp [Gh.put]⟩
        · cases h
      · cases h
    · cases h
  · cases h

end
end Go.Ev
