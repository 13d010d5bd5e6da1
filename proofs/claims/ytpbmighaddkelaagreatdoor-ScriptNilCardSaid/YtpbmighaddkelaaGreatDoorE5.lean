/- The evaluator's operations are the machine's: addresses, fields, elements, cuts. -/
import Derived.Test.YtpbmighaddkelaaGreatDoorE4
namespace Go.Ev

section
variable {P : Program} {K : Base} {g : Gh} {H : Heap} {w : World}

/-- A part of a struct's or an array's value. -/
theorem mpart_sound {t : TypeId} {cs : List AV} {arr : Array Value} {o : Nat} {r : AV} (hp : part (ti P t) cs o = some r) (hl : arr.size = cs.length)
    (hv : ∀ i, i < cs.length → V g H w (cs.getD i .und) (arr.getD i undef)) : ∃ v, (_root_.Go.part t arr o).run P w = .ok v w ∧ V g H w r v := by
  obtain ⟨i, d, hi, hd, _, h⟩ := part_sound hp
  unfold _root_.Go.part
  simp only [Sem.run_bind, run_isAgg hd, Result.andThen_ok]
  cases hk : (tk d).isAgg with
  | true =>
    simp only [hk, if_true] at h
    obtain ⟨hle, rfl⟩ := h
    refine ⟨.agg (arr.extract o (o + i.size)), by simp [run_sizeOf hi], .agg _ _ (by simp; omega) fun j hj => ?_⟩
    have hj' : j < i.size := by simp at hj; omega
    rw [getD_drop_take _ _ _ _ hj']
    have e : (arr.extract o (o + i.size)).getD j undef = arr.getD (o + j) undef := by
      have h1 : j < (arr.extract o (o + i.size)).size := by simp; omega
      have h2 : o + j < arr.size := by omega
      simp only [Array.getD, h1, h2, dif_pos, Array.getInternal_eq_getElem, Array.getElem_extract]
    rw [e]
    exact hv _ (by omega)
  | false =>
    simp only [hk, Bool.false_eq_true, if_false] at h
    obtain ⟨hle, rfl⟩ := h
    have e : arr[o]? = some (arr.getD o undef) := by
      have h2 : o < arr.size := by omega
      simp [Array.getD, h2]
    exact ⟨arr.getD o undef, by simp only [Bool.false_eq_true, if_false]; rw [e]; rfl, hv _ hle⟩

theorem fieldOf_some {s : TypeId} {f : Nat} {p : Nat × TypeId} (h : fieldOf P s f = some p) : ∃ gs fd, P.underlying s = some (.struct gs) ∧ gs[f]? = some fd ∧ p = (fd.offset, fd.type) := by
  unfold fieldOf at h
  split at h
  · rename_i fs hk
    obtain ⟨i, d, _, h2, h3⟩ := ti_some (P := P) (t := s) (by rw [hk]; simp)
    rw [h3] at hk
    obtain ⟨gs, rfl, rfl⟩ := tk_struct hk
    rw [List.getElem?_map] at h
    obtain ⟨fd, h4, h5⟩ := Option.map_eq_some_iff.1 h
    exact ⟨gs, fd, h2, by simpa using h4, h5.symm⟩
  · cases h

theorem field_sound {s : TypeId} {f : Nat} {p : Nat × TypeId} {cs : List AV} {x : Value} {r : AV} (hf : fieldOf P s f = some p) (hx : V g H w (.agg cs) x) (h : part (ti P p.2) cs p.1 = some r) :
    ∃ v, (Instr.field s x f).run P w = .ok v w ∧ V g H w r v := by
  obtain ⟨gs, fd, h1, h2, rfl⟩ := fieldOf_some hf
  cases hx with
  | agg _ arr hl hv =>
    obtain ⟨v, h3, h4⟩ := mpart_sound h hl hv
    exact ⟨v, by simp [Instr.field, run_underlying h1, h2, asAgg, h3], h4⟩

theorem index_sound {t : TypeId} {x i r : AV} {vx vi : Value} (hx : V g H w x vx) (hi : V g H w i vi) (h : evIndex P t x i = some r) :
    ∃ v, (Instr.index t vx vi).run P w = .ok v w ∧ V g H w r v := by
  unfold evIndex at h
  split at h
  · rename_i s k n hk
    cases hx; cases hi
    split at h
    · rename_i hb
      cases h
      have hlt : n.toNat < s.size := by omega
      have e : s[n.toNat]? = some (s.data.getD n.toNat 0) := by
        have h2 : n.toNat < s.data.size := hlt
        rw [getElem?_pos s n.toNat hlt]
        simp only [Array.getD, h2, dif_pos]
        rfl
      refine ⟨.int .u8 (bt s n), ?_, .int _ _⟩
      simp only [Instr.index, asIntOf, Sem.run_bind, Sem.run_pure, Result.andThen_ok, run_underlying (ti_str hk)]
      simp [hb.1, e, bt]
    · cases h
  · rename_i len e cs k n hk
    cases hi
    split at h
    · rename_i hb
      cases hx with
      | agg _ arr hl hv =>
        obtain ⟨v, h1, h2⟩ := mpart_sound h hl hv
        obtain ⟨i, d, hi, hd, hs⟩ := ti_size (P := P) (t := e) hb.2.2
        have hu : P.underlying t = some (.array len e) := by
          obtain ⟨i, d, _, h2, h3⟩ := ti_some (P := P) (t := t) (by rw [hk]; simp)
          rw [h3] at hk
          rw [h2, tk_array hk]
        refine ⟨v, ?_, h2⟩
        simp only [Instr.index, asIntOf, Sem.run_bind, Sem.run_pure, Result.andThen_ok, run_underlying hu]
        rw [hs] at h1
        simp [hb.1, hb.2.1, run_sizeOf hi, h1]
    · cases h
  · cases h

theorem ti_arr {t e : TypeId} {n : Nat} (h : (ti P t).k = .array n e) : P.underlying t = some (.array n e) := by
  obtain ⟨i, d, _, h2, h3⟩ := ti_some (P := P) (t := t) (by rw [h]; simp)
  rw [h3] at h
  rw [h2, tk_array h]

theorem indexAddr_sound (hr : RH K g H w) {t : TypeId} {x i r : AV} {vx vi : Value} (hx : V g H w x vx) (hi : V g H w i vi) (h : evIndexAddr P H t x i = some r) :
    ∃ v, (Instr.indexAt t vx vi).run P w = .ok v w ∧ V g H w r v := by
  unfold evIndexAddr at h
  split at h
  · rename_i e xs k n hk
    cases hi
    split at h
    · rename_i hb
      obtain ⟨y, hy, h⟩ := Option.bind_eq_some_iff.1 h
      split at h
      · rename_i hs
        cases h
        obtain ⟨i, d, hi, hd, hsz⟩ := ti_size (P := P) (t := e) hs.2
        generalize hX : AV.sl xs = X at hx
        cases hx <;> first | (cases hX; done) | skip
        · cases hX; simp at hb; omega
        · rename_i ys β off cap sz u hc hS hz hcell hv
          cases hX
          have hlt : n.toNat < xs.length := by omega
          have ey : xs.getD n.toNat .und = y := by rw [List.getD_eq_getElem?_getD, hy]; rfl
          have hz' := hz _ hlt
          rw [ey] at hz'
          refine ⟨.pointer (some ⟨β, off + n.toNat * sz, none⟩), ?_, ?_⟩
          · have e1 : i.size = sz := by rw [← hz', hs.1, hsz]
            simp only [Instr.indexAt, asIntOf, Sem.run_bind, Sem.run_pure, Result.andThen_ok, run_underlying (ti_slice hk)]
            simp [hb.1, hb.2, run_sizeOf hi, add_off, e1]
          · refine .ptrI y 0 β (off + n.toNat * sz) (u n.toNat) hS (fun j hj => hcell _ _ hlt (by omega)) fun j hj => ?_
            have := hv n.toNat j hlt (by omega)
            rwa [ey] at this
      · cases h
    · cases h
  · rename_i e b m k n hk
    cases hi
    split at h
    · rename_i hb
      obtain ⟨xs, hxs, h⟩ := Option.bind_eq_some_iff.1 h
      obtain ⟨y, hy, h⟩ := Option.bind_eq_some_iff.1 h
      split at h
      · rename_i hs
        cases h
        obtain ⟨⟨z0, hH, _⟩, hn⟩ := arrOf_some hxs
        obtain ⟨i, d, hi, hd, hsz⟩ := ti_size (P := P) (t := e) hs.2
        obtain ⟨u, hl, _, _⟩ := hr.elem hH hy
        have e1 : i.size = g.sz b := by rw [← hl, hs.1, hsz]
        cases hx with
        | own _ _ _ _ hbl hv =>
          obtain rfl := (hv z0 xs hH).2 hn.symm
          refine ⟨.pointer (some ⟨g.μ b, n.toNat * g.sz b, none⟩), ?_, .ptr _ _ _ _ _ rfl hbl fun z' xs' hx' => ?_⟩
          · simp only [Instr.indexAt, asIntOf, Sem.run_bind, Sem.run_pure, Result.andThen_ok, run_underlying (ti_slice hk)]
            simp [hb.1, hb.2, run_sizeOf hi, add_off, e1]
          · rw [hH] at hx'; cases hx'
            exact ⟨by omega, fun _ => by simp⟩
      · cases h
    · cases h
  · rename_i xa _ _ _ len e k n hk
    cases hi
    split at h
    · rename_i hb
      obtain ⟨i, d, hi, hd, hsz⟩ := ti_size (P := P) (t := e) hb.2.2
      have hi'0 := True.intro
      have e0 : (ti P e).size = i.size := by rw [hsz]
      rw [e0] at h
      clear hi'0
      revert h hx
      generalize xa = y
      intro hx h
      cases y <;> first | (cases h; done) | skip
      · rename_i b m i' o
        obtain ⟨xs, hxs, he⟩ := Option.map_eq_some_iff.1 h
        cases he
        obtain ⟨⟨z0, hH, _⟩, hn⟩ := arrOf_some hxs
        cases hx with
        | ptr _ _ _ _ _ _ hbl hv =>
          obtain rfl := (hv z0 xs hH).2 hn.symm
          refine ⟨.pointer (some ⟨g.μ b, i' * g.sz b + (o + n.toNat * i.size), none⟩), ?_, .ptr _ _ _ _ _ rfl hbl fun z' xs' hx' => ?_⟩
          · simp only [Instr.indexAt, asIntOf, Sem.run_bind, Sem.run_pure, Result.andThen_ok, run_underlying (ti_arr hk)]
            simp [hb.1, hb.2.1, run_sizeOf hi, add_off, Instr.sureAddr, Nat.add_assoc]
          · rw [hH] at hx'; cases hx'
            exact ⟨by omega, fun _ => rfl⟩
      · rename_i y o
        cases h
        cases hx with
        | ptrI _ _ β off u hS hc hv =>
          refine ⟨.pointer (some ⟨β, off + (o + n.toNat * i.size), none⟩), ?_, .ptrI _ _ β off u hS hc hv⟩
          simp only [Instr.indexAt, asIntOf, Sem.run_bind, Sem.run_pure, Result.andThen_ok, run_underlying (ti_arr hk)]
          simp [hb.1, hb.2.1, run_sizeOf hi, add_off, Instr.sureAddr, Nat.add_assoc]
    · cases h
  · cases h

theorem fieldAddr_sound {s : TypeId} {f : Nat} {p : Nat × TypeId} {x r : AV} {vx : Value} (hf : fieldOf P s f = some p) (h0 : (ti P p.2).size ≠ 0) (hx : V g H w x vx)
    (h : evField H p.1 x = some r) :
    ∃ v, (Instr.fieldAt s vx f).run P w = .ok v w ∧ V g H w r v := by
  obtain ⟨gs, fd, h1, h2, rfl⟩ := fieldOf_some hf
  obtain ⟨i, d, hi, hd, hsz⟩ := ti_size h0
  have hsz' : i.size ≠ 0 := by simpa [hsz] using h0
  cases x <;> first | (cases h; done) | skip
  · rename_i b n i' o
    obtain ⟨xs, hxs, he⟩ := Option.map_eq_some_iff.1 h
    cases he
    obtain ⟨⟨z0, hH, _⟩, hn⟩ := arrOf_some hxs
    cases hx with
    | ptr _ _ _ _ _ _ hbl hv =>
      obtain rfl := (hv z0 xs hH).2 hn.symm
      refine ⟨.pointer (some ⟨g.μ b, i' * g.sz b + (o + fd.offset), none⟩), ?_, .ptr _ _ _ _ _ rfl hbl fun z' xs' hx' => ?_⟩
      · simp [Instr.fieldAt, run_underlying h1, h2, Instr.sureAddr, fieldPlace, run_sizeOf hi, hsz', add_off, Nat.add_assoc]
      · rw [hH] at hx'; cases hx'
        exact ⟨by omega, fun _ => rfl⟩
  · rename_i y o
    cases h
    cases hx with
    | ptrI _ _ β off u hS hc hv =>
      refine ⟨.pointer (some ⟨β, off + (o + fd.offset), none⟩), ?_, .ptrI _ _ β off u hS hc hv⟩
      simp [Instr.fieldAt, run_underlying h1, h2, Instr.sureAddr, fieldPlace, run_sizeOf hi, hsz', add_off, Nat.add_assoc]

theorem bound_sound {x : AV} {vx : Value} {n y : Nat} {c : BoundsCode} (hx : V g H w x vx) (h : nat? x = some n) (hy : n ≤ y) : (Instr.sliceBound vx y c).run P w = .ok n w := by
  unfold nat? at h
  split at h
  · rename_i k m
    cases hx
    split at h
    · rename_i h0
      cases h
      have : m ≤ (y : Int) := by omega
      simp [Instr.sliceBound, asIntOf, h0, this]
    · cases h
  · cases h

theorem bounds_sound {isS : Bool} {len cap l h : Nat} {lo hi : Option AV} {vl vh : Option Value} (hlo : ∀ a, lo = some a → ∃ v, vl = some v ∧ V g H w a v) (hlo0 : lo = none → vl = none)
    (hhi : ∀ a, hi = some a → ∃ v, vh = some v ∧ V g H w a v) (hhi0 : hi = none → vh = none)
    (h1 : boundOf 0 lo = some l) (h2 : boundOf len hi = some h) (h3 : l ≤ h) (h4 : h ≤ cap) :
    (Instr.sliceBounds isS len cap vl vh none).run P w = .ok (l, h, cap) w := by
  unfold Instr.sliceBounds
  cases hi with
  | none =>
    rw [hhi0 rfl]
    simp only [boundOf, Option.some.injEq] at h2; subst h2
    cases lo with
    | none => rw [hlo0 rfl]; simp only [boundOf, Option.some.injEq] at h1; subst h1; simp
    | some b => obtain ⟨v, rfl, hv⟩ := hlo b rfl; simp [bound_sound hv h1 h3]
  | some b' =>
    obtain ⟨v', rfl, hv'⟩ := hhi b' rfl
    cases lo with
    | none => rw [hlo0 rfl]; simp only [boundOf, Option.some.injEq] at h1; subst h1; simp [bound_sound hv' h2 h4]
    | some b => obtain ⟨v, rfl, hv⟩ := hlo b rfl; simp [bound_sound hv h1 h3, bound_sound hv' h2 h4]

theorem slice_sound (hr : RH K g H w) {t : TypeId} {x r : AV} {vx : Value} {lo hi : Option AV} {vl vh : Option Value} (hx : V g H w x vx)
    (hlo : ∀ a, lo = some a → ∃ v, vl = some v ∧ V g H w a v) (hlo0 : lo = none → vl = none)
    (hhi : ∀ a, hi = some a → ∃ v, vh = some v ∧ V g H w a v) (hhi0 : hi = none → vh = none) (h : evSlice P H t x lo hi = some r) :
    ∃ v, (Instr.sliceAt t vx vl vh none).run P w = .ok v w ∧ V g H w r v := by
  unfold evSlice at h
  split at h
  · rename_i s hk
    obtain ⟨l, h1, h⟩ := Option.bind_eq_some_iff.1 h
    obtain ⟨hh, h2, h⟩ := Option.bind_eq_some_iff.1 h
    split at h
    · rename_i hb
      cases h
      cases hx
      have hbd : ∀ isS, (Instr.sliceBounds isS s.size s.size vl vh none).run P w = .ok (l, hh, s.size) w := fun isS => bounds_sound hlo hlo0 hhi hhi0 h1 h2 hb.1 hb.2
      refine ⟨.string (s.extract l hh), ?_, .str _⟩
      simp [Instr.sliceAt, run_underlying (ti_str hk), Instr.slice, hbd]
    · cases h
  · rename_i e xs hk
    obtain ⟨l, h1, h⟩ := Option.bind_eq_some_iff.1 h
    obtain ⟨hh, h2, h⟩ := Option.bind_eq_some_iff.1 h
    split at h
    · rename_i hb
      split at h
      · rename_i hs
        cases h
        obtain ⟨i, d, hi', hd, hsz⟩ := ti_size (P := P) (t := e) hs.2
        generalize hX : AV.sl xs = X at hx
        cases hx <;> first | (cases hX; done) | skip
        · rename_i a cap
          cases hX
          have h0 : l = 0 ∧ hh = 0 := by simp at hb; omega
          obtain ⟨rfl, rfl⟩ := h0
          have hbd : ∀ isS, (Instr.sliceBounds isS 0 cap vl vh none).run P w = .ok (0, 0, cap) w := fun isS => bounds_sound hlo hlo0 hhi hhi0 h1 h2 hb.1 (Nat.zero_le _)
          refine ⟨.slice (if cap = 0 then a else a.map (·.add (0 * i.size))) 0 cap, ?_, by simpa using .slnil _ _⟩
          simp [Instr.sliceAt, run_underlying (ti_slice hk), Instr.slice, hbd, run_sizeOf hi']
        · rename_i ys β off cap sz u hc hS hz hcell hv
          cases hX
          have hbd : ∀ isS, (Instr.sliceBounds isS xs.length cap vl vh none).run P w = .ok (l, hh, cap) w := fun isS => bounds_sound hlo hlo0 hhi hhi0 h1 h2 hb.1 (by omega)
          have hrun : (Instr.sliceAt t (.slice (some ⟨β, off, none⟩) xs.length cap) vl vh none).run P w = .ok (.slice (if cap = l then some ⟨β, off, none⟩ else some ⟨β, off + l * i.size, none⟩) (hh - l) (cap - l)) w := by
            simp [Instr.sliceAt, run_underlying (ti_slice hk), Instr.slice, hbd, run_sizeOf hi', add_off]
          refine ⟨_, hrun, ?_⟩
          have hlen : ((xs.take hh).drop l).length = hh - l := by simp; omega
          by_cases he : hh = l
          · subst he
            have : (xs.take hh).drop hh = [] := by simp
            rw [this, Nat.sub_self]
            exact .slnil _ _
          · have hcl : ¬ cap = l := by omega
            rw [if_neg hcl, ← hlen]
            have hget : ∀ j, j < ((xs.take hh).drop l).length → ((xs.take hh).drop l).getD j .und = xs.getD (l + j) .und := fun j hj => by
              have : l + j < hh := by omega
              simp [List.getD_eq_getElem?_getD, List.getElem?_drop, this]
            have hsz2 : i.size = sz := by
              have h0 : 0 < xs.length := by omega
              have h3 := hz 0 h0
              have h4 := List.all_eq_true.1 hs.1 (xs.getD 0 .und) (by rw [List.getD_eq_getElem?_getD, List.getElem?_eq_getElem h0]; exact List.getElem_mem h0)
              have h5 : (xs.getD 0 .und).cells.length = (ti P e).size := by simpa using h4
              rw [h3, hsz] at h5
              exact h5.symm
            rw [hsz2]
            refine .sl _ β (off + l * sz) (cap - l) sz (fun a b => u (l + a) b) (by omega) hS (fun j hj => ?_) (fun j b hj hb' => ?_) (fun j b hj hb' => ?_)
            · rw [hget j hj]; exact hz _ (by omega)
            · have := hcell (l + j) b (by omega) hb'
              rw [Nat.add_mul] at this
              rw [Nat.add_assoc off]
              exact this
            · rw [hget j hj]; exact hv _ _ (by omega) hb'
      · cases h
    · cases h
  · rename_i e b hk
    obtain ⟨l, h1, h⟩ := Option.bind_eq_some_iff.1 h
    obtain ⟨hh, h2, h3⟩ := Option.bind_eq_some_iff.1 h
    clear h
    split at h3
    · rename_i hb
      obtain ⟨e1, e2, hs⟩ := hb
      subst e1
      subst e2
      cases h3
      obtain ⟨i, d, hi', hd, hsz⟩ := ti_size (P := P) (t := e) hs
      cases hx with
      | zsl _ a h3 h4 =>
        have hbd : ∀ isS, (Instr.sliceBounds isS 0 0 vl vh none).run P w = .ok (0, 0, 0) w := fun isS => bounds_sound hlo hlo0 hhi hhi0 h1 h2 (Nat.le_refl _) (Nat.le_refl _)
        refine ⟨.slice a 0 0, ?_, .zsl b a h3 h4⟩
        simp [Instr.sliceAt, run_underlying (ti_slice hk), Instr.slice, hbd, run_sizeOf hi']
    · cases h3
  · rename_i e b n hk
    obtain ⟨l, h1, h⟩ := Option.bind_eq_some_iff.1 h
    obtain ⟨hh, h2, h⟩ := Option.bind_eq_some_iff.1 h
    obtain ⟨xs, hxs, h⟩ := Option.bind_eq_some_iff.1 h
    obtain ⟨⟨z0, hH, _⟩, hn⟩ := arrOf_some hxs
    split at h
    · rename_i hb
      obtain ⟨i, d, hi', hd, hsz⟩ := ti_size (P := P) (t := e) hb.2
      have hx0 := hx
      cases hx with
      | own _ _ _ _ _ hv =>
        obtain rfl := (hv z0 xs hH).2 hn.symm
        obtain ⟨_, arr, ty, fr, _, _, _, hcap, _, _⟩ := hr.at_ b _ hH
        split at h
        · rename_i hlh
          cases h
          subst hlh
          have hbd : ∀ isS, (Instr.sliceBounds isS n (g.cap b) vl vh none).run P w = .ok (l, l, g.cap b) w := fun isS => bounds_sound hlo hlo0 hhi hhi0 h1 h2 (Nat.le_refl _) (by omega)
          refine ⟨.slice (if g.cap b = l then some ⟨g.μ b, 0, none⟩ else some ((⟨g.μ b, 0, none⟩ : Addr).add (l * i.size))) 0 (g.cap b - l), ?_, .slnil _ _⟩
          simp [Instr.sliceAt, run_underlying (ti_slice hk), Instr.slice, hbd, run_sizeOf hi']
        · split at h
          · rename_i hlh
            cases h
            obtain ⟨rfl, rfl⟩ := hlh
            have hbd : ∀ isS, (Instr.sliceBounds isS hh (g.cap b) vl vh none).run P w = .ok (0, hh, g.cap b) w := fun isS => bounds_sound hlo hlo0 hhi hhi0 h1 h2 (Nat.zero_le _) (by omega)
            refine ⟨.slice (some ⟨g.μ b, 0, none⟩) hh (g.cap b), ?_, hx0⟩
            simp [Instr.sliceAt, run_underlying (ti_slice hk), Instr.slice, hbd, run_sizeOf hi', add_off]
          · cases h
    · cases h
  · cases h

end
end Go.Ev
