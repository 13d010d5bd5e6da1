/- The evaluator's operations are the machine's: all that is no call, no store, no alloc. -/
import Derived.Test.YtpbmighaddkelaaGreatDoorE10
import Derived.Laws.BytesArg
import Derived.Laws.IdiomStrings
namespace Go.Ev

section
variable {P : Program} {K : Base} {g : Gh} {H : Heap} {w : World}

theorem strOf_spec : ∀ {l : List AV} {b : List UInt8}, strOf l = some b → ∃ ns : List Int, l = ns.map (AV.int .u8) ∧ b = ns.map fun n => UInt8.ofNat n.toNat
  | [], b, h => by cases h; exact ⟨[], rfl, rfl⟩
  | x :: l, b, h => by
    unfold strOf at h
    split at h
    · rename_i hx; cases hx
    · rename_i n r hx
      cases hx
      obtain ⟨c, hc, rfl⟩ := Option.map_eq_some_iff.1 h
      obtain ⟨ns, rfl, rfl⟩ := strOf_spec hc
      exact ⟨n :: ns, rfl, rfl⟩
    · cases h

theorem sized_ints (ns : List Int) : sized 1 (ns.map (AV.int .u8)) = true := by
  simp [sized, AV.cells, AV.okv, AV.cell]

theorem ti_u8 {e : TypeId} (h : (ti P e).k = .int .u8) : P.underlying e = some (.int .u8) := ti_int h

theorem post2 (hr : RH K g H w) {s : Sem Value} {r : AV} {H' : Heap} (h : H' = H ∧ ∃ v, s.run P w = .ok v w ∧ V g H w r v) : ∃ v w' g', s.run P w = .ok v w' ∧ Ext g H w g' H' w' ∧ RH K g' H' w' ∧ V g' H' w' r v := by
  obtain ⟨rfl, v, h1, h2⟩ := h
  exact ⟨v, w, g, h1, Ext.refl _ _ _, hr, h2⟩

theorem evConv_sound (hr : RH K g H w) {m : Mode} {al : Option Nat} {s d : TypeId} {x r : AV} {vx : Value} {H' : Heap} (hx : V g H w x vx) (h : evConv P m al H s d x = some (r, H')) : ∃ v w' g', (convert s d vx).run P w = .ok v w' ∧ Ext g H w g' H' w' ∧ RH K g' H' w' ∧ V g' H' w' r v := by
  unfold evConv at h
  split at h
  · rename_i e b h1 h2
    split at h
    · rename_i he
      split at h
      · rename_i hsm
        obtain ⟨s1, s2, s3⟩ := small_spec hsm
        cases hx
        have hsz : sized 1 (b.data.toList.map byteAV) = true := by
          simp only [sized, List.all_eq_true, List.mem_map]
          rintro x ⟨c, _, rfl⟩
          rfl
        have hlen : (b.data.toList.map byteAV).length = b.size := by simp
        obtain ⟨c1, c2⟩ := grownCap_le w b.size 0 e s1
        have hrun := run_bytes_of_string (P := P) w s d e b (ti_str h1) (ti_slice h2) (ti_int he)
        have hFs : (bytesRow b (grownCap w b.size 0 e)).size = grownCap w b.size 0 e := by
          have : b.data.size = b.size := rfl
          simp [bytesRow, this]; omega
        have hp : Pushed w (w.drew.alloc (.cells (bytesRow b (grownCap w b.size 0 e)) e ((bytesRow b (grownCap w b.size 0 e)).size, (bytesRow b (grownCap w b.size 0 e)).size + 1))) _ := (Pushed.alloc w.drew _).drew
        obtain ⟨g', e1, e2, e3⟩ := evNew_full hr (cap := grownCap w b.size 0 e) h hsz (fun i j hi hj => by
          obtain rfl : j = 0 := by omega
          have hi' : i < b.data.size := by simpa using hi
          have e1 : (b.data.toList.map byteAV).getD i .und = byteAV b.data[i] := by
            rw [List.getD_eq_getElem?_getD, List.getElem?_map, List.getElem?_eq_getElem (by simpa using hi')]
            simp
          have e2 : (bytesRow b (grownCap w b.size 0 e)).getD (i * 1 + 0) undef = .int .u8 b.data[i].toNat := by
            rw [Array.getD_eq_getD_getElem?, Nat.mul_one, Nat.add_zero, bytesRow, Array.getElem?_append_left (by simpa using hi'), Array.getElem?_map, Array.getElem?_eq_getElem hi']; rfl
          rw [e1, e2]
          exact .int _ _) hp (.inl (Nat.le_refl _)) (by rw [hFs]; omega) (by rw [hlen]; exact c1) c2
        rw [hlen] at e3
        exact ⟨_, _, g', hrun, e1, e2, e3⟩
      · cases h
    · cases h
  · rename_i k1 k k2 n h1 h2
    refine post2 hr ?_
    cases h
    cases hx
    exact ⟨rfl, .int k (k.wrap n), by simp [convert, run_underlying (ti_int h1), run_underlying (ti_int h2), Conv.intToInt], .int _ _⟩
  · rename_i b h1 h2
    refine post2 hr ?_
    cases h
    cases hx
    exact ⟨rfl, .string b, by simp [convert, run_underlying (ti_str h1), run_underlying (ti_str h2)], .str _⟩
  · rename_i y e h1 h2
    refine post2 hr ?_
    split at h
    · rename_i he
      split at h
      · cases h
      · rename_i hns
        obtain ⟨l, hl, h⟩ := Option.bind_eq_some_iff.1 h
        obtain ⟨b, hb, h⟩ := Option.map_eq_some_iff.1 h
        cases h
        obtain ⟨ns, rfl, rfl⟩ := strOf_spec hb
        obtain ⟨arr, he'⟩ := elems_sound (P := P) hr hx hl (sized_ints ns)
        have hat : arr = (ns.map (Value.int .u8)).toArray := by
          apply Array.ext
          · rw [he'.size]; simp
          · intro i hi1 hi2
            have hin : i < ns.length := by simpa using hi2
            have := he'.at_ i 0 (by simpa using hin) (by omega)
            have e1 : ((ns.map (AV.int .u8)).getD i .und).cells.getD 0 .und = AV.int .u8 ns[i] := by
              have : (ns.map (AV.int .u8)).getD i .und = AV.int .u8 ns[i] := by rw [List.getD_eq_getElem?_getD, List.getElem?_map, List.getElem?_eq_getElem hin]; rfl
              rw [this]; rfl
            have e2 : arr.getD (i * 1 + 0) undef = arr[i] := by simp [Array.getD_eq_getD_getElem?, hi1]
            rw [e1, e2] at this
            cases hv : arr[i] <;> rw [hv] at this <;> cases this
            simp
        refine ⟨rfl, .string (strOfNums ns), ?_, .str _⟩
        have key : ∀ (a : Option Addr) (len cap : Nat), vx = .slice a len cap → (convert s d vx).run P w = .ok (.string (strOfNums ns)) w := by
          rintro a len cap rfl
          have hlen : len = ns.length := by
            have := he'.len w
            simp [Builtin.lenOf] at this
            exact this
          have hrd := he'.read w rfl
          cases a with
          | none =>
            simp only [Builtin.firstCells, Sem.run_pure, hat, Result.ok.injEq, and_true] at hrd
            have : ns = [] := by
              have := congrArg Array.size hrd
              simp at this
              exact List.length_eq_zero_iff.1 this.symm
            rw [run_convert_bytes_nil w s e (ti_slice h1) (ti_u8 he) len cap d (ti_str h2), this]
            rfl
          | some a =>
            simp only [Builtin.firstCells, List.length_map, Nat.mul_one, hat] at hrd
            rw [run_convert_bytes_string w s d e _ len cap (ti_slice h1) (ti_u8 he) (ti_str h2), hlen, run_bytesToString w _ _ cap ns hrd, foldl_push_bytes]
            simp [strOfNums, ByteArray.empty, ByteArray.emptyWithCapacity]
            rfl
        unfold elems at hl
        split at hl
        · cases hx <;> exact key _ _ _ rfl
        · cases hx; exact key _ _ _ rfl
        · rename_i b n
          obtain ⟨⟨z0, hH, _⟩, hn⟩ := arrOf_some hl
          cases hx with
          | own _ _ _ _ _ hv =>
            obtain rfl := (hv z0 _ hH).2 hn.symm
            exact key _ _ _ rfl
        · exact absurd rfl (hns _)
        · cases hl
    · cases h
  · cases h

/-- What is boxed. -/
theorem box_sound (hr : RH K g H w) {m : Mode} {al : Option Nat} {t : TypeId} {x r : AV} {vx : Value} {H' : Heap} (hx : V g H w x vx) (hk : x.okv = true) (hs : x.cells.length = (ti P t).size)
    (h : (match m with | .imm => if x.flat then some (AV.ptrI x 0, H) else none | .heap => (newB al H (.arr (ti P t).size [x])).map fun p => (.ptr p.1 1 0 0, p.2)) = some (r, H')) :
    ∃ v w' g', (Instr.box t vx).run P w = .ok v w' ∧ Ext g H w g' H' w' ∧ RH K g' H' w' ∧ V g' H' w' r v := by
  have hrun : (Instr.box t vx).run P w = .ok (.pointer (some ⟨w.heap.size, 0, none⟩)) (w.alloc (.cells vx.cells t)) := by
    simp [Instr.box, newVar, newRow]
  obtain ⟨c1, c2⟩ := V.cellsOf hk hx
  have hp := Pushed.alloc w (.cells vx.cells t)
  cases m with
  | imm =>
    simp only at h
    split at h
    · cases h
      obtain ⟨e1, hr'⟩ := alloc_stable hr hp
      refine ⟨_, _, _, hrun, e1, hr', .ptrI x 0 w.heap.size 0 (fun j => vx.cells.getD j undef) (.inr rfl) (fun j hj => ?_) fun j hj => V.mono hr e1 (c2 j hj).1⟩
      have hj' : j < vx.cells.size := by omega
      have := hp.new
      unfold World.cell?
      rw [this]
      simp [Array.getD_eq_getD_getElem?, hj']
    · cases h
  | heap =>
    simp only at h
    obtain ⟨⟨b0, H0⟩, hnb, he0⟩ := Option.map_eq_some_iff.1 h
    cases he0
    obtain ⟨_, hat0, hreal, _⟩ := newB_spec hnb (by simp)
    obtain ⟨e1, hr'⟩ := alloc_blk hr hp (.arr (ti P t).size [x]) 1 (ti P t).size rfl hnb (fun g' hg' e => by
      subst hg'
      refine ⟨by simp [Gh.put], vx.cells, t, (0, 0), by simpa [Gh.put] using hp.new, .inr rfl, by simp [Gh.put]; omega, by simp [Gh.put], by simp [Gh.put, maxLen], fun i hi => ?_⟩
      obtain rfl : i = 0 := by simpa using hi
      have hsz : (g.put b0 w.heap.size 1 (ti P t).size).sz b0 = (ti P t).size := by simp [Gh.put]
      rw [hsz]
      refine ⟨by simpa using hs, fun j hj => ?_⟩
      have := V.mono hr e (c2 j (by omega)).1
      simpa using this)
    refine ⟨_, _, _, hrun, e1, hr', .ptr _ _ _ _ _ rfl hreal fun z' ys hy => ?_⟩
    rw [hat0] at hy
    cases hy
    exact ⟨Nat.le_refl _, fun _ => by simp [Gh.put]⟩

theorem mapM_places (P : Program) (w : World) : ∀ (l : List Field), (∀ f ∈ l, (P.info? f.type).isSome = true ∧ (P.underlying f.type).isSome = true) →
    (l.mapM fun f => (do pure (f.offset, ← sizeOf f.type) : Sem (Nat × Nat))).run P w = .ok (l.map fun f => (f.offset, (ti P f.type).size)) w
  | [], _ => by simp
  | f :: l, h => by
    obtain ⟨h1, h2⟩ := h f (by simp)
    obtain ⟨i, hi⟩ := Option.isSome_iff_exists.1 h1
    obtain ⟨d, hd⟩ := Option.isSome_iff_exists.1 h2
    have e : (ti P f.type).size = i.size := by simp [ti, hi, hd]
    have ih := mapM_places P w l fun f hf => h f (by simp [hf])
    simp only [List.mapM_cons, Sem.run_bind, run_sizeOf hi, Result.andThen_ok, Sem.run_pure, ih, List.map_cons, e]

theorem build_sound (hr : RH K g H w) {t : TypeId} {ps : List (Nat × AV)} {vs : Array (Nat × Value)} {cs : List AV} (hok : buildOk P t = true) (hv : PV g H w ps vs.toList) (h : evParts P t (ti P t).zero.cells ps = some cs) :
    ∃ v, (Instr.build t vs).run P w = .ok v w ∧ V g H w (.agg cs) v := by
  simp only [buildOk, Bool.and_eq_true] at hok
  obtain ⟨hk, hz⟩ := hok
  have hne : (ti P t).k ≠ .other := by intro e; rw [e] at hk; cases hk
  obtain ⟨i, d, hi, hd, hti⟩ := ti_some hne
  obtain ⟨z, hzi, hzs, hzz⟩ := ti_zero hti hz
  have hz0 := sized_mem hz (i := 0) (by simp)
  simp only [List.getD_cons_zero] at hz0
  have hzv : (zeroValue t).run P w = .ok z w := by simp [zeroValue, typeInfo, hi, hzi]
  rw [hzz] at h hz0
  obtain ⟨c1, c2⟩ := V.cellsOf (g := g) (H := H) (w := w) hz0.2 (V_ofVal z)
  split at hk
  · rename_i fs hfs
    obtain ⟨gs, hgs, rfl⟩ := tk_struct (d := d) (by rw [hti] at hfs; exact hfs)
    subst hgs
    have hall : ∀ f ∈ gs.toList, (P.info? f.type).isSome = true ∧ (P.underlying f.type).isSome = true := by
      intro f hf
      have := List.all_eq_true.1 hk (f.offset, f.type) (List.mem_map.2 ⟨f, hf, rfl⟩)
      simpa using this
    have hm : (gs.mapM fun f => (do pure (f.offset, ← sizeOf f.type) : Sem (Nat × Nat))).run P w = .ok (gs.map fun f => (f.offset, (ti P f.type).size)) w := by
      rw [Array.mapM_eq_mapM_toList]
      have := mapM_places P w gs.toList hall
      simp only [Sem.run_map, this]
      simp only [Result.andThen_ok]
      congr 1
      apply Array.ext'
      simp
    obtain ⟨F, f1, f2, f3⟩ := fill_parts (pl := fun i => (gs.map fun f => (f.offset, (ti P f.type).size))[i]?) (fun i o ho => by
      rcases partAt_spec ho with ⟨fs', hfs', f, hf, rfl⟩ | ⟨n, e, he, _⟩
      · rw [hfs] at hfs'; cases hfs'
        rw [List.getElem?_map] at hf
        obtain ⟨f', hf', rfl⟩ := Option.map_eq_some_iff.1 hf
        rw [Array.getElem?_map, ← Array.getElem?_toList, hf']
        rfl
      · rw [hfs] at he; cases he) ps vs.toList _ cs z.cells hv c1 (fun i hi => (c2 i hi).1) h
    refine ⟨.agg F, ?_, .agg _ _ f2 f3⟩
    simp only [Instr.build, Sem.run_bind, hzv, Result.andThen_ok, run_underlying hd, hm]
    rw [f1]
    simp
  · rename_i n e he
    have hd' : d = .array n e := tk_array (by rw [hti] at he; exact he)
    subst hd'
    simp only [Bool.and_eq_true] at hk
    obtain ⟨i', hi'⟩ := Option.isSome_iff_exists.1 hk.1
    obtain ⟨d', hd'⟩ := Option.isSome_iff_exists.1 hk.2
    have hsz : (ti P e).size = i'.size := by simp [ti, hi', hd']
    obtain ⟨F, f1, f2, f3⟩ := fill_parts (pl := fun k => some (k * i'.size, i'.size)) (fun i o ho => by
      rcases partAt_spec ho with ⟨fs', hfs', f, hf, rfl⟩ | ⟨n', e', he', rfl⟩
      · rw [he] at hfs'; cases hfs'
      · rw [he] at he'; cases he'; rw [hsz]) ps vs.toList _ cs z.cells hv c1 (fun i hi => (c2 i hi).1) h
    refine ⟨.agg F, ?_, .agg _ _ f2 f3⟩
    simp only [Instr.build, Sem.run_bind, hzv, Result.andThen_ok, run_underlying hd, run_sizeOf hi']
    rw [f1]
    simp
  · cases hk

end
end Go.Ev
