/- The evaluator's operations are the machine's: make, literals, conversions, boxes. -/
import Derived.Test.YtpbmighaddkelaaGreatDoorE9
import Derived.Laws.MakeOwn
import Derived.Laws.BytesString
namespace Go.Ev

section
variable {P : Program} {K : Base} {g : Gh} {H : Heap} {w : World}

/-- A new block that begins with elements that are told. -/
theorem evNew_full (hr : RH K g H w) {m : Mode} {al : Option Nat} {sz cap : Nat} {xs : List AV} {F : Array Value} {r : AV} {H' : Heap} {w' : World} {ty : TypeId} {fr : Nat × Nat} (h : evNew m al H sz xs = some (r, H'))
    (hs : sized sz xs = true) (ht : ∀ i j, i < xs.length → j < sz → V g H w ((xs.getD i .und).cells.getD j .und) (F.getD (i * sz + j) undef)) (hp : Pushed w w' (.cells F ty fr)) (hfr : F.size ≤ fr.1 ∨ fr.2 = 0)
    (hcap : F.size = cap * sz) (hlc : xs.length ≤ cap) (hc : cap ≤ maxLen) :
    ∃ g', Ext g H w g' H' w' ∧ RH K g' H' w' ∧ V g' H' w' r (.slice (some ⟨w.heap.size, 0, none⟩) xs.length cap) := by
  have hle : xs.length * sz ≤ F.size := by rw [hcap]; exact Nat.mul_le_mul_right _ hlc
  have hsplit : F = F.extract 0 (xs.length * sz) ++ F.extract (xs.length * sz) F.size := by
    rw [Array.extract_append_extract]; simp [Nat.max_eq_right hle]
  have htold : Told g H w sz xs (F.extract 0 (xs.length * sz)) := by
    refine ⟨by simp; omega, fun i j hi hj => ?_⟩
    have h1 := idx_lt hi hj
    have h2 : i * sz + j < F.size := by omega
    have e : (F.extract 0 (xs.length * sz)).getD (i * sz + j) undef = F.getD (i * sz + j) undef := by
      have h3 : i * sz + j < (F.extract 0 (xs.length * sz)).size := by simp; omega
      simp only [Array.getD, h3, h2, dif_pos, Array.getInternal_eq_getElem, Array.getElem_extract, Nat.zero_add]
    rw [e]
    exact ht i j hi hj
  rw [hsplit] at hp hfr hcap
  exact evNew_sound hr h hs htold hp hfr hcap hlc hc

theorem getD_replicate (n : Nat) (x : AV) (i : Nat) (h : i < n) : (List.replicate n x).getD i .und = x := by
  simp [List.getD_eq_getElem?_getD, h]

theorem sized_replicate {n k : Nat} {x : AV} (h : sized n [x] = true) : sized n (List.replicate k x) = true := by
  have h1 := sized_mem h (i := 0) (by simp)
  simp only [List.getD_cons_zero] at h1
  simp only [sized, List.all_eq_true, List.mem_replicate]
  rintro y ⟨_, rfl⟩
  simp [h1.1, h1.2]

/-- Zeros, as the machine lays them. -/
theorem zeros_at {z : Value} {sz n k : Nat} (hk : k < n) (h0 : 0 < sz) (hs : z.cells.size = sz) : (madeCells z.cells n).getD k undef = z.cells.getD (k % sz) undef := by
  have h1 : k % z.cells.size < z.cells.size := Nat.mod_lt _ (by omega)
  rw [← hs]
  simp [madeCells, Array.getD_eq_getD_getElem?, hk, h1]

theorem zeros_told {z : Value} (hk : (ofVal z).okv = true) {i j sz n k : Nat} (hi : i < k) (hj : j < sz) (hs : z.cells.size = sz) (hs' : (ofVal z).cells.length = sz) (hn : k * sz ≤ n) :
    V g H w (((List.replicate k (ofVal z)).getD i .und).cells.getD j .und) ((madeCells z.cells n).getD (i * sz + j) undef) := by
  have h1 := idx_lt hi hj
  rw [getD_replicate _ _ _ hi, zeros_at (sz := sz) (by omega) (by omega) hs, Nat.mul_comm, Nat.mul_add_mod, Nat.mod_eq_of_lt hj]
  exact ((V.cellsOf hk (V_ofVal z)).2 j (by omega)).1

theorem evMake_sound (hr : RH K g H w) {al : Option Nat} {t : TypeId} {l c r : AV} {vl vc : Value} {H' : Heap} (hl : V g H w l vl) (hc : V g H w c vc) (h : evMake P al H t l c = some (r, H')) :
    ∃ v w' g', (Instr.makeSlice t vl vc).run P w = .ok v w' ∧ Ext g H w g' H' w' ∧ RH K g' H' w' ∧ V g' H' w' r v := by
  unfold evMake at h
  split at h
  · rename_i e n m hk
    cases hl; cases hc
    split at h
    · rename_i hb
      obtain ⟨b1, b2, b3, b4⟩ := hb
      obtain ⟨s1, s2, s3⟩ := small_spec b3
      obtain ⟨i, d, hi, hd, hti⟩ := ti_size (P := P) (t := e) (by omega)
      obtain ⟨z, hz, hzs, hzz⟩ := ti_zero hti b4
      have hsz2 : (ti P e).size = i.size := by rw [hti]
      have hby : i.bytes ≤ 4096 := by rw [hti] at s2; exact s2
      have hz0 := sized_mem b4 (i := 0) (by simp)
      simp only [List.getD_cons_zero] at hz0
      have hm1 : 0 ≤ m := by omega
      have hm2 : m ≤ 4294967296 := by omega
      have hmul : (i.bytes : Int) * m ≤ 4096 * 4294967296 := Int.mul_le_mul (by omega) hm2 (by omega) (by omega)
      have hrun := run_make (P := P) w t e i z (ti_slice hk) hi hz .i64 .i64 n m b1 b2 (by omega) (by omega)
      have hh : evNew .heap al H (ti P e).size (List.replicate n.toNat (ti P e).zero) = some (r, H') := by simpa [evNew] using h
      rw [hsz2, hzz] at hh
      rw [hsz2, hzz] at hz0
      rw [hsz2, hzz] at b4
      obtain ⟨g', e1, e2, e3⟩ := evNew_full hr (cap := m.toNat) hh (sized_replicate b4) (fun i' j hi' hj => by
          simp only [List.length_replicate] at hi'
          exact zeros_told hz0.2 hi' hj hzs hz0.1 (Nat.mul_le_mul_right _ (by omega))) (Pushed.alloc w (.cells (madeCells z.cells (m.toNat * i.size)) e)) (.inr rfl) (size_madeCells _ _) (by simp; omega) (by unfold maxLen; omega)
      exact ⟨_, _, g', hrun, e1, e2, by simpa using e3⟩
    · cases h
  · cases h

theorem foldl_put (o : Nat) : ∀ (l : List Value) (k : Nat) (cs : Array Value), (l.zipIdx k).foldl (fun cs p => cs.setIfInBounds (o + p.2) p.1) cs = putA cs (o + k) l
  | [], _, _ => rfl
  | v :: l, k, cs => by
    simp only [List.zipIdx_cons, List.foldl_cons, putA]
    exact foldl_put o l (k + 1) _

theorem fill_step (place : Nat → Option (Nat × Nat)) (cells : Array Value) (i : Nat) (v : Value) (rest : List (Nat × Value)) {o s : Nat} (hp : place i = some (o, s)) (h1 : v.cells.size = s) (h2 : o + v.cells.size ≤ cells.size) :
    Instr.fill place cells ((i, v) :: rest) = Instr.fill place (putA cells o v.cells.toList) rest := by
  have hn : ¬ (v.cells.size ≠ s ∨ o + v.cells.size > cells.size) := by omega
  have e : v.cells.zipIdx.foldl (fun cs (p : Value × Nat) => cs.setIfInBounds (o + p.2) p.1) cells = putA cells o v.cells.toList := by
    rw [← Array.foldl_toList, Array.toList_zipIdx, foldl_put]
    rfl
  rw [Instr.fill, hp]
  simp only []
  rw [if_neg (by simpa using hn)]
  exact congrArg (fun x => Instr.fill place x rest) e

/-- The parts of a literal stand to their values. -/
def PV (g : Gh) (H : Heap) (w : World) : List (Nat × AV) → List (Nat × Value) → Prop
  | [], [] => True
  | (i, a) :: r, (j, v) :: l => i = j ∧ V g H w a v ∧ PV g H w r l
  | _, _ => False

/-- The cells of a row's elements, from the k-th on. -/
theorem fill_row (sz : Nat) : ∀ (ps : List (Nat × AV)) (vs : List (Nat × Value)) (k : Nat) (cells : Array Value), PV g H w ps vs → ps.map (·.1) = List.range' k ps.length → sized sz (ps.map (·.2)) = true → (k + ps.length) * sz ≤ cells.size →
    ∃ F, Instr.fill (fun i => some (i * sz, sz)) cells vs = some F ∧ F.size = cells.size ∧ (∀ x, x < k * sz → F.getD x undef = cells.getD x undef) ∧
      ∀ i j, i < ps.length → j < sz → V g H w (((ps.map Prod.snd).getD i AV.und).cells.getD j .und) (F.getD ((k + i) * sz + j) undef)
  | [], [], k, cells, _, _, _, _ => ⟨cells, rfl, rfl, fun _ _ => rfl, fun i j hi => by simp at hi⟩
  | (i0, a) :: ps, (i1, v) :: vs, k, cells, hv, hi, hs, hl => by
    obtain ⟨rfl, hva, hv'⟩ := hv
    simp only [List.map_cons, List.length_cons, List.range'_succ, List.cons.injEq] at hi
    obtain ⟨rfl, hi'⟩ := hi
    have hs0 := sized_mem hs (i := 0) (by simp)
    simp only [List.map_cons, List.getD_cons_zero] at hs0
    have hs' : sized sz (ps.map (·.2)) = true := by
      simp only [sized, List.map_cons, List.all_cons, Bool.and_eq_true] at hs
      exact hs.2
    obtain ⟨c1, c2⟩ := V.cellsOf hs0.2 hva
    have hsz : v.cells.size = sz := by rw [c1, hs0.1]
    have hb : i0 * sz + v.cells.size ≤ cells.size := by
      have : (i0 + 1) * sz ≤ (i0 + (ps.length + 1)) * sz := Nat.mul_le_mul_right _ (by omega)
      rw [Nat.add_mul i0 1] at this
      simp only [List.length_cons] at hl
      omega
    obtain ⟨F, f1, f2, f3, f4⟩ := fill_row sz ps vs (i0 + 1) (putA cells (i0 * sz) v.cells.toList) hv' hi' hs' (by rw [putA_size]; rw [show i0 + 1 + ps.length = i0 + (ps.length + 1) by omega]; exact hl)
    refine ⟨F, by rw [fill_step _ _ _ _ _ rfl hsz hb]; exact f1, by rw [f2, putA_size], fun x hx => ?_, fun i j hi hj => ?_⟩
    · rw [f3 x (by rw [Nat.add_mul]; omega), putA_out _ _ _ _ (.inl hx)]
    · cases i with
      | zero =>
        rw [Nat.add_zero, f3 _ (by rw [Nat.add_mul]; omega), putA_in _ _ _ _ (by simpa using hb) (by simp; omega)]
        have := (c2 j (by omega)).1
        have h3 : v.cells.toList.getD j undef = v.cells.getD j undef := by simp [List.getD_eq_getElem?_getD, Array.getD_eq_getD_getElem?]
        rw [h3]
        exact this
      | succ i =>
        have := f4 i j (by simpa using hi) hj
        rw [show i0 + (i + 1) = i0 + 1 + i by omega]
        exact this
  | [], _ :: _, _, _, h, _, _, _ => h.elim
  | _ :: _, [], _, _, h, _, _, _ => h.elim

theorem PV.map {T : Slots} {a : Act} (ht : ∀ t, V g H w (T t) (a.tmps.getD t undef)) : ∀ (l : List (Nat × Operand)), PV g H w (l.map fun p => (p.1, ρ T p.2)) (l.map fun p => (p.1, a.eval p.2))
  | [] => trivial
  | p :: l => ⟨rfl, V_op ht _, PV.map ht l⟩

theorem evLit_sound (hr : RH K g H w) {m : Mode} {al : Option Nat} {t : TypeId} {n : Nat} {ps : List (Nat × AV)} {vs : Array (Nat × Value)} {r : AV} {H' : Heap} (hv : PV g H w ps vs.toList) (h : evLit P m al H t n ps = some (r, H')) :
    ∃ v w' g', (Instr.buildSlice t n vs).run P w = .ok v w' ∧ Ext g H w g' H' w' ∧ RH K g' H' w' ∧ V g' H' w' r v := by
  unfold evLit at h
  split at h
  · rename_i e hk
    split at h
    · rename_i hb
      obtain ⟨b1, b2, b3, b4, b5⟩ := hb
      obtain ⟨s1, s2, s3⟩ := small_spec b3
      obtain ⟨i, d, hi, hd, hti⟩ := ti_size (P := P) (t := e) (by omega)
      obtain ⟨z, hz, hzs, hzz⟩ := ti_zero hti b5
      have hsz2 : (ti P e).size = i.size := by rw [hti]
      rw [hsz2] at b2 b4 h s3
      have hlen : ps.length = n := by
        have := congrArg List.length b1
        simpa using this
      have hcs : ∃ cells : Array Value, cells.size = n * i.size ∧ ∀ F, Instr.fill (fun k => some (k * i.size, i.size)) cells vs.toList = some F →
          (Instr.buildSlice t n vs).run P w = Result.ok (.slice (some ⟨w.heap.size, 0, none⟩) n n) (w.alloc (.cells F e)) := by
        have h24 : ¬ (n * i.size > 2 ^ 24) := by omega
        have h24' : ¬ (16777216 < n * i.size) := by omega
        have hzv : (zeroValue e).run P w = .ok z w := by simp [zeroValue, typeInfo, hi, hz]
        by_cases hn : n * i.size = 0
        · refine ⟨madeCells #[] (n * i.size), size_madeCells _ _, fun F hF => ?_⟩
          unfold madeCells at hF
          simp only [Instr.buildSlice, Sem.run_bind, run_underlying (ti_slice hk), Result.andThen_ok, run_sizeOf hi]
          rw [if_neg h24, if_pos hn]
          simp only [Sem.run_bind, Sem.run_pure, Result.andThen_ok, hF]
          simp [newRow]
        · refine ⟨madeCells z.cells (n * i.size), size_madeCells _ _, fun F hF => ?_⟩
          unfold madeCells at hF
          simp only [Instr.buildSlice, Sem.run_bind, run_underlying (ti_slice hk), Result.andThen_ok, run_sizeOf hi]
          rw [if_neg h24, if_neg hn]
          simp only [Sem.run_bind, Sem.run_pure, Result.andThen_ok, hzv, hF]
          simp [newRow]
      obtain ⟨cells, hc, hrun⟩ := hcs
      obtain ⟨F, f1, f2, _, f4⟩ := fill_row i.size ps vs.toList 0 cells hv (by rw [b1, hlen, List.range_eq_range']) b2 (by rw [hc, hlen, Nat.zero_add]; exact Nat.le_refl _)
      have hrun := hrun F f1
      cases n with
      | zero =>
        cases h
        obtain ⟨e1, hr'⟩ := alloc_stable hr (Pushed.alloc w (.cells F e))
        exact ⟨_, _, _, hrun, e1, hr', .zsl _ _ (fun h => by cases h) fun _ => rfl⟩
      | succ n' =>
        have hl2 : (ps.map (·.2)).length = n' + 1 := by simp [hlen]
        obtain ⟨g', e1, e2, e3⟩ := evNew_full hr (cap := n' + 1) h b2 (fun i j hi hj => by
          have := f4 i j (by simpa using hi) hj
          rw [Nat.zero_add] at this
          exact this) (Pushed.alloc w (.cells F e)) (.inr rfl) (by rw [f2, hc]) (by omega) (by unfold maxLen; omega)
        rw [hl2] at e3
        exact ⟨_, _, g', hrun, e1, e2, e3⟩
    · cases h
  · cases h

theorem partAt_spec {t : TypeId} {i : Nat} {o : Nat × Nat} (h : partAt P t i = some o) : (∃ fs, (ti P t).k = .struct fs ∧ ∃ f, fs[i]? = some f ∧ o = (f.1, (ti P f.2).size)) ∨ (∃ n e, (ti P t).k = .array n e ∧ o = (i * (ti P e).size, (ti P e).size)) := by
  unfold partAt at h
  split at h
  · rename_i fs hk
    obtain ⟨f, hf, rfl⟩ := Option.map_eq_some_iff.1 h
    exact .inl ⟨fs, hk, f, hf, rfl⟩
  · rename_i n e hk
    cases h
    exact .inr ⟨n, e, hk, rfl⟩
  · cases h

/-- The cells of a struct or an array, built of its parts. -/
theorem fill_parts {t : TypeId} {pl : Nat → Option (Nat × Nat)} (hpl : ∀ i o, partAt P t i = some o → pl i = some o) : ∀ (ps : List (Nat × AV)) (vs : List (Nat × Value)) (cs r : List AV) (arr : Array Value), PV g H w ps vs → arr.size = cs.length →
    (∀ i, i < cs.length → V g H w (cs.getD i .und) (arr.getD i undef)) → evParts P t cs ps = some r →
    ∃ F, Instr.fill pl arr vs = some F ∧ F.size = r.length ∧ ∀ i, i < r.length → V g H w (r.getD i .und) (F.getD i undef)
  | [], [], cs, r, arr, _, hl, hc, h => by cases h; exact ⟨arr, rfl, hl, hc⟩
  | (i0, a) :: ps, (i1, v) :: vs, cs, r, arr, hv, hl, hc, h => by
    obtain ⟨rfl, hva, hv'⟩ := hv
    simp only [evParts] at h
    obtain ⟨o, ho, h⟩ := Option.bind_eq_some_iff.1 h
    split at h
    · rename_i hb
      obtain ⟨b1, b2, b3⟩ := hb
      obtain ⟨c1, c2⟩ := V.cellsOf b2 hva
      have hfit : o.1 + v.cells.toList.length ≤ arr.size := by simp only [Array.length_toList]; omega
      obtain ⟨F, f1, f2, f3⟩ := fill_parts hpl ps vs (putCells cs o.1 a.cells) r (putA arr o.1 v.cells.toList) hv' (by rw [putA_size, putCells_length, hl]) (fun i hi => by
        rw [putCells_length] at hi
        by_cases hx : o.1 ≤ i ∧ i < o.1 + a.cells.length
        · have e1 : i = o.1 + (i - o.1) := by omega
          rw [e1, putCells_in _ _ _ _ b3 (by omega), putA_in _ _ _ _ hfit (by simp; omega)]
          have h3 : v.cells.toList.getD (i - o.1) undef = v.cells.getD (i - o.1) undef := by simp [List.getD_eq_getElem?_getD, Array.getD_eq_getD_getElem?]
          rw [h3]
          exact (c2 _ (by omega)).1
        · rw [putCells_out _ _ _ _ (by omega), putA_out _ _ _ _ (by simp only [Array.length_toList]; omega)]
          exact hc i hi) h
      exact ⟨F, by rw [fill_step _ _ _ _ _ (hpl _ _ ho) (by rw [c1, b1]) (by simpa using hfit)]; exact f1, f2, f3⟩
    · cases h
  | [], _ :: _, _, _, _, h, _, _, _ => h.elim
  | _ :: _, [], _, _, _, h, _, _, _ => h.elim

end
end Go.Ev
