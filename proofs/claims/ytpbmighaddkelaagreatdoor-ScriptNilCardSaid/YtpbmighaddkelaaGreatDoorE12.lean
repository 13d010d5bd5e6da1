/- The evaluator's operations are the machine's: any that is no call of a function, no store, no alloc. -/
import Derived.Test.YtpbmighaddkelaaGreatDoorE11M
namespace Go.Ev

section
variable {P : Program} {K : Base} {g : Gh} {H : Heap} {w : World}

theorem post_of {s : Sem Value} {r : AV} {H' : Heap} (h : ∃ v w' g', s.run P w = .ok v w' ∧ Ext g H w g' H' w' ∧ RH K g' H' w' ∧ V g' H' w' r v) :
    OpPost K g H w H' r ((do pure (.value (← s)) : Sem Next).run P w) := by
  obtain ⟨v, w', g', h1, h2, h3, h4⟩ := h
  exact ⟨v, w', g', .inl (by simp only [Sem.run_bind, h1, Result.andThen_ok, Sem.run_pure]), h2, h3, h4⟩

theorem post_at (hr : RH K g H w) {s : Sem Value} {r : AV} (h : ∃ v, s.run P w = .ok v w ∧ V g H w r v) : OpPost K g H w H r ((do pure (.value (← s)) : Sem Next).run P w) := by
  obtain ⟨v, h1, h2⟩ := h
  exact post_of ⟨v, w, g, h1, Ext.refl g H w, hr, h2⟩

theorem V.ofInt {k : IntKind} {n : Int} {v : Value} (h : V g H w (.int k n) v) : v = .int k n := by cases h; rfl
theorem V.ofBool {b : Bool} {v : Value} (h : V g H w (.bool b) v) : v = .bool b := by cases h; rfl
theorem V.ofStr {b : ByteArray} {v : Value} (h : V g H w (.str b) v) : v = .string b := by cases h; rfl
theorem V.ofPtrI {x : AV} {o : Nat} {v : Value} (h : V g H w (.ptrI x o) v) : ∃ ad, v = .pointer (some ad) := by cases h; exact ⟨_, rfl⟩

theorem V.ofSl {xs : List AV} {v : Value} (h : V g H w (.sl xs) v) : ∃ ad cap, v = .slice ad xs.length cap := by cases h <;> exact ⟨_, _, rfl⟩
theorem V.ofZsl {n : Bool} {v : Value} (h : V g H w (.zsl n) v) : ∃ ad, v = .slice ad 0 0 := by cases h; exact ⟨_, rfl⟩
theorem V.ofIface {u : TypeId} {y : AV} {v : Value} (h : V g H w (.iface u y) v) : ∃ vy, v = .iface u vy ∧ V g H w y vy := by cases h with | iface _ _ vy hy => exact ⟨vy, rfl, hy⟩
theorem V.ofTup {vs : List AV} {v : Value} (h : V g H w (.tup vs) v) : ∃ arr : Array Value, v = .tuple arr ∧ arr.size = vs.length ∧ ∀ i, i < vs.length → V g H w (vs.getD i .und) (arr.getD i undef) := by
  cases h with | tup _ arr h1 h2 => exact ⟨arr, rfl, h1, h2⟩

theorem V_ops {T : Slots} {a : Act} (ht : ∀ t, V g H w (T t) (a.tmps.getD t undef)) (xs : Array Operand) : (xs.map a.eval).size = (xs.toList.map (ρ T)).length ∧
    ∀ i, i < (xs.toList.map (ρ T)).length → V g H w ((xs.toList.map (ρ T)).getD i .und) ((xs.map a.eval).getD i undef) := by
  refine ⟨by simp, fun i hi => ?_⟩
  have hi' : i < xs.size := by simpa using hi
  have e1 : (xs.toList.map (ρ T)).getD i .und = ρ T xs[i] := by
    rw [List.getD_eq_getElem?_getD, List.getElem?_map, List.getElem?_eq_getElem (by simpa using hi')]; simp
  have e2 : (xs.map a.eval).getD i undef = a.eval xs[i] := by simp [Array.getD_eq_getD_getElem?, hi']
  rw [e1, e2]
  exact V_op ht _

theorem two {α : Type} {a : Array α} {x y : α} (h : a.toList = [x, y]) : a = #[x, y] := by
  cases a; simp at h; simp [h]
theorem one {α : Type} {a : Array α} {x : α} (h : a.toList = [x]) : a = #[x] := by
  cases a; simp at h; simp [h]

theorem map_two {α β : Type} {f : α → β} {l : List α} {x y : β} (h : l.map f = [x, y]) : ∃ a b, l = [a, b] ∧ f a = x ∧ f b = y := by
  match l, h with
  | [a, b], h => simp at h; exact ⟨a, b, rfl, h.1, h.2⟩
theorem map_one {α β : Type} {f : α → β} {l : List α} {x : β} (h : l.map f = [x]) : ∃ a, l = [a] ∧ f a = x := by
  match l, h with
  | [a], h => simp at h; exact ⟨a, rfl, h⟩

theorem evBuiltin_sound (hr : RH K g H w) {T : Slots} {a : Act} (ht : ∀ t, V g H w (T t) (a.tmps.getD t undef)) {m : Mode} {al : Option Nat} {b : Builtin} {c : Call} {ty : TypeId} {r : AV} {H' : Heap} {cs : Array Bool}
    (h : evBuiltin P m al H b c.argTypes.toList (c.args.toList.map (ρ T)) = some (r, H')) : OpPost K g H w H' r ((builtin b c.argTypes ty cs (c.args.map a.eval)).run P w) := by
  unfold evBuiltin at h
  split at h
  · rename_i t x hts hxs
    obtain ⟨ox, hox, rfl⟩ := map_one hxs
    rw [one hts, one hox]
    simp only [List.map_toArray, List.map_cons, List.map_nil]
    have hx := V_op ht ox
    show OpPost K g H w H' r ((do pure (.value (← Builtin.len_ #[t] ty #[a.eval ox])) : Sem Next).run P w)
    split at h
    · rename_i s hk hs
      cases h
      rw [hs] at hx
      rw [V.ofStr hx]
      exact post_at hr ⟨.int .i64 s.size, by simp [Builtin.len_, run_underlying (ti_str hk), goInt], .int _ _⟩
    · rename_i e xs hk hs
      cases h
      rw [hs] at hx
      obtain ⟨ad, cap, e1⟩ := V.ofSl hx
      rw [e1]
      exact post_at hr ⟨.int .i64 xs.length, by simp [Builtin.len_, run_underlying (ti_slice hk), goInt], .int _ _⟩
    · rename_i e nn hk hs
      cases h
      rw [hs] at hx
      obtain ⟨ad, e1⟩ := V.ofZsl hx
      rw [e1]
      exact post_at hr ⟨.int .i64 0, by simp [Builtin.len_, run_underlying (ti_slice hk), goInt], .int _ _⟩
    · rename_i e bb n hk hs
      obtain ⟨xs, hxs, he⟩ := Option.map_eq_some_iff.1 h
      cases he
      obtain ⟨⟨z0, hH, _⟩, hn⟩ := arrOf_some hxs
      rw [hs] at hx
      have : a.eval ox = .slice (some ⟨g.μ bb, 0, none⟩) n (g.cap bb) := by
        cases hx with
        | own _ _ _ _ _ hv => exact (hv z0 xs hH).2 hn.symm
      rw [this]
      exact post_at hr ⟨.int .i64 n, by simp [Builtin.len_, run_underlying (ti_slice hk), goInt], .int _ _⟩
    · cases h
  · rename_i t u s x hts hxs
    obtain ⟨os, ox, hox, rfl, rfl⟩ := map_two hxs
    rw [two hts, two hox]
    simp only [List.map_toArray, List.map_cons, List.map_nil]
    exact post_of (evAppend_sound (ty := ty) hr (V_op ht os) (V_op ht ox) h)
  · rename_i t u s x hts hxs
    obtain ⟨os, ox, hox, rfl, rfl⟩ := map_two hxs
    rw [two hts, two hox]
    simp only [List.map_toArray, List.map_cons, List.map_nil]
    exact post_of (evCopy_sound (ty := ty) hr (V_op ht os) (V_op ht ox) h)
  · rename_i t u s x hts hxs
    obtain ⟨os, ox, hox, rfl, rfl⟩ := map_two hxs
    rw [two hts, two hox]
    simp only [List.map_toArray, List.map_cons, List.map_nil]
    obtain ⟨H2, hv, he⟩ := Option.map_eq_some_iff.1 h
    cases he
    obtain ⟨w', g', q1, q2, q3⟩ := evDel_sound (u := u) (ty := ty) hr (V_op ht os) (V_op ht ox) hv
    exact post_of ⟨_, w', g', q1, q2, q3, .tup [] #[] rfl fun i hi => by simp at hi⟩
  · rename_i ts k n k' n' hxs
    obtain ⟨os, ox, hox, h1, h2⟩ := map_two hxs
    have hs := V_op ht os
    have hx := V_op ht ox
    rw [h1] at hs
    rw [h2] at hx
    rw [two hox]
    split at h
    · cases h
      have e1 : a.eval os = .int k n := V.ofInt hs
      have e2 : a.eval ox = .int k' n' := V.ofInt hx
      simp only [List.map_toArray, List.map_cons, List.map_nil, e1, e2]
      exact post_at hr ⟨.int k (if n' > n then n' else n), by simp [Builtin.max_, Builtin.max2], .int _ _⟩
    · cases h
  · rename_i k n k' n' hxs
    obtain ⟨os, ox, hox, h1, h2⟩ := map_two hxs
    have hs := V_op ht os
    have hx := V_op ht ox
    rw [h1] at hs
    rw [h2] at hx
    rw [two hox]
    split at h
    · cases h
      have e1 : a.eval os = .int k n := V.ofInt hs
      have e2 : a.eval ox = .int k' n' := V.ofInt hx
      simp only [List.map_toArray, List.map_cons, List.map_nil, e1, e2]
      exact post_at hr ⟨.int k (if n' < n then n' else n), by simp [Builtin.min_, Builtin.min2], .int _ _⟩
    · cases h
  · cases h

theorem evOp_sound (hr : RH K g H w) {T : Slots} {a : Act} (ht : ∀ t, V g H w (T t) (a.tmps.getD t undef)) {m : Mode} {al : Option Nat} {o : Oper} {r : AV} {H' : Heap}
    (h : evOp P m al T H o.op = some (r, H')) : OpPost K g H w H' r ((execOp a.eval o).run P w) := by
  unfold execOp
  generalize o.op = op at h
  cases op <;> simp only [evOp] at h <;> first | (cases h; done) | simp only []
  case move x => cases h; exact post_same hr rfl (V_op ht x)
  case assign x => cases h; exact post_same hr rfl (V_op ht x)
  case pick c x y =>
    have hc := V_op ht c
    split at h
    · rename_i e
      rw [e] at hc
      cases h
      have : a.eval c = .bool true := V.ofBool hc
      exact post_same hr (by rw [this]; simp [asBool]) (V_op ht x)
    · rename_i e
      rw [e] at hc
      cases h
      have : a.eval c = .bool false := V.ofBool hc
      exact post_same hr (by rw [this]; simp [asBool]) (V_op ht y)
    · cases h
  case box t x =>
    split at h
    · rename_i hb
      exact post_of (box_sound hr (V_op ht x) hb.2.2 hb.1 h)
    · cases h
  case build t ps =>
    split at h
    · rename_i hok
      obtain ⟨cs, hcs, he⟩ := Option.map_eq_some_iff.1 h
      cases he
      exact post_at hr (build_sound hr hok (by simpa using PV.map ht ps.toList) hcs)
    · cases h
  case buildSlice t n ps => exact post_of (evLit_sound hr (by simpa using PV.map ht ps.toList) h)
  case load t x =>
    obtain ⟨v, hv, he⟩ := Option.map_eq_some_iff.1 h
    cases he
    exact post_at hr (evLoad_sound hr (V_op ht x) hv)
  case nilCheck x =>
    have hx := V_op ht x
    split at h
    · rename_i b n i o e
      rw [e] at hx
      obtain ⟨xs, hxs, he⟩ := Option.map_eq_some_iff.1 h
      cases he
      obtain ⟨⟨z0, hH, _⟩, hn⟩ := arrOf_some hxs
      have e1 : a.eval x = .pointer (some ⟨g.μ b, i * g.sz b + o, none⟩) := by
        cases hx with
        | ptr _ _ _ _ _ _ _ hv => exact (hv z0 xs hH).2 hn.symm
      rw [e1] at hx ⊢
      exact post_same hr rfl hx
    · rename_i v o e
      rw [e] at hx
      cases h
      obtain ⟨ad, e1⟩ := V.ofPtrI hx
      rw [e1] at hx ⊢
      exact post_same hr rfl hx
    · cases h
  case binOp op t x y z =>
    obtain ⟨v, hv, he⟩ := Option.map_eq_some_iff.1 h
    cases he
    exact post_at hr (evBin_sound (V_op ht x) (V_op ht y) hv)
  case unOp op t x =>
    obtain ⟨v, hv, he⟩ := Option.map_eq_some_iff.1 h
    cases he
    exact post_at hr (evUn_sound (V_op ht x) hv)
  case convert s d x => exact post_of (evConv_sound hr (V_op ht x) h)
  case makeMap t n =>
    have fin : ∀ v w', (newB al H (.mapb [] 0)).map (fun p => (AV.map p.1, p.2)) = some (r, H') → (Instr.makeMap t (n.map a.eval)).run P w = .ok v w' → v = .map (some w.heap.size) → w' = w.alloc (.map #[] 0) → OpPost K g H w H' r ((do pure (.value (← Instr.makeMap t (n.map a.eval))) : Sem Next).run P w) := by
      rintro v w' hn hrun rfl rfl
      obtain ⟨⟨b0, H0⟩, hnb, he0⟩ := Option.map_eq_some_iff.1 hn
      cases he0
      obtain ⟨_, hat0, hreal, _⟩ := newB_spec hnb (by simp)
      obtain ⟨e, hr'⟩ := alloc_blk hr (Pushed.alloc w (.map #[] 0)) (.mapb [] 0) 0 0 rfl hnb (fun g' hg' e => by
        subst hg'
        refine ⟨#[], ?_, rfl, fun i hi => by simp at hi⟩
        rw [show (g.put b0 w.heap.size 0 0).μ b0 = w.heap.size from by simp [Gh.put]]
        exact (Pushed.alloc w (.map #[] 0)).new)
      refine post_of ⟨_, _, _, hrun, e, hr', .map _ _ rfl hreal fun s' p' hy => ?_⟩
      simp [Gh.put]
    cases n with
    | none => exact fin _ _ h (by simp [Instr.makeMap] <;> rfl) rfl rfl
    | some n =>
      simp only [evOp] at h
      split at h
      · rename_i k e kk nn hk hn
        have hv := V_op ht n
        rw [hn] at hv
        have hv := V.ofInt hv
        exact fin _ _ h (by simp [Instr.makeMap, hv, run_underlying (ti_map hk), asInt, asIntOf] <;> rfl) rfl rfl
      · cases h
  case lookup t x i ok =>
    obtain ⟨v, hv, he⟩ := Option.map_eq_some_iff.1 h
    cases he
    exact post_at hr (evLookup_sound hr (V_op ht x) (V_op ht i) hv)
  case mapUpdate t m k x =>
    obtain ⟨H2, hv, he⟩ := Option.map_eq_some_iff.1 h
    cases he
    obtain ⟨w', g', q1, q2, q3⟩ := evPut_sound hr (V_op ht m) (V_op ht k) (V_op ht x) hv
    exact ⟨undef, w', g', .inr ⟨by simp only [Sem.run_bind, q1]; simp, rfl⟩, q2, q3, .tup [] #[] rfl fun i hi => by simp at hi⟩
  case insert t m k x =>
    obtain ⟨H2, hv, he⟩ := Option.map_eq_some_iff.1 h
    cases he
    obtain ⟨w', g', q1, q2, q3⟩ := evPut_sound hr (V_op ht m) (V_op ht k) (V_op ht x) hv
    exact ⟨undef, w', g', .inr ⟨by simp only [Sem.run_bind, q1]; simp, rfl⟩, q2, q3, .tup [] #[] rfl fun i hi => by simp at hi⟩
  case makeInterface t x =>
    have key : ∀ d, P.underlying t = some d → (∀ ms, d ≠ .interface ms) → (Instr.makeInterface t (a.eval x)).run P w = .ok (.iface t (a.eval x)) w := by
      intro d hd hn
      simp only [Instr.makeInterface, Sem.run_bind, run_underlying hd, Result.andThen_ok]
      cases d <;> first | (exact absurd rfl (hn _)) | rfl
    have fin : (ti P t).k ≠ .other → (ti P t).k ≠ .iface → OpPost K g H w H (.iface t (ρ T x)) ((do pure (.value (← Instr.makeInterface t (a.eval x))) : Sem Next).run P w) := by
      intro h1 h2
      obtain ⟨i, d, _, hd, hti⟩ := ti_some h1
      refine post_at hr ⟨_, key d hd (fun ms e => h2 ?_), .iface _ _ _ (V_op ht x)⟩
      rw [hti, e]; rfl
    split at h
    · cases h
    · cases h
    · rename_i n1 n2
      cases h
      exact fin n2 n1
  case makeFunc f x y =>
    cases h
    obtain ⟨h1, h2⟩ := V_ops ht x
    obtain ⟨h3, h4⟩ := V_ops ht y
    exact post_at hr ⟨_, by simp [Instr.makeFunc] <;> rfl, .fn _ _ _ _ _ h1 h3 h2 h4⟩
  case makeSlice t l c => exact post_of (evMake_sound hr (V_op ht l) (V_op ht c) h)
  case slice t x lo hi mx =>
    cases mx with
    | some mx =>
      simp only [evOp] at h
      obtain ⟨v, hv, he⟩ := Option.map_eq_some_iff.1 h
      cases he
      refine post_at hr (evSlice0_sound hr (V_op ht x) (V_op ht mx) (fun z hz => ?_) (fun hz => ?_) (fun z hz => ?_) hv)
      · cases lo with
        | none => cases hz
        | some l => cases hz; exact ⟨_, rfl, V_op ht l⟩
      · cases lo with
        | none => rfl
        | some l => cases hz
      · cases hi with
        | none => cases hz
        | some l => cases hz; exact ⟨_, rfl, V_op ht l⟩
    | none =>
      simp only [evOp] at h
      obtain ⟨v, hv, he⟩ := Option.map_eq_some_iff.1 h
      cases he
      refine post_at hr (slice_sound hr (V_op ht x) (fun z hz => ?_) (fun hz => ?_) (fun z hz => ?_) (fun hz => ?_) hv)
      · cases lo with
        | none => cases hz
        | some l => cases hz; exact ⟨_, rfl, V_op ht l⟩
      · cases lo with
        | none => rfl
        | some l => cases hz
      · cases hi with
        | none => cases hz
        | some l => cases hz; exact ⟨_, rfl, V_op ht l⟩
      · cases hi with
        | none => rfl
        | some l => cases hz
  case fieldAddr s x f =>
    obtain ⟨p, hp, h⟩ := Option.bind_eq_some_iff.1 h
    split at h
    · cases h
    · rename_i h0
      obtain ⟨v, hv, he⟩ := Option.map_eq_some_iff.1 h
      cases he
      exact post_at hr (fieldAddr_sound hp h0 (V_op ht x) hv)
  case field s x f =>
    obtain ⟨p, hp, h⟩ := Option.bind_eq_some_iff.1 h
    have hx := V_op ht x
    split at h
    · rename_i cs e
      rw [e] at hx
      obtain ⟨v, hv, he⟩ := Option.map_eq_some_iff.1 h
      cases he
      exact post_at hr (field_sound hp hx hv)
    · cases h
  case indexAddr t x i =>
    obtain ⟨v, hv, he⟩ := Option.map_eq_some_iff.1 h
    cases he
    exact post_at hr (indexAddr_sound hr (V_op ht x) (V_op ht i) hv)
  case index t x i =>
    obtain ⟨v, hv, he⟩ := Option.map_eq_some_iff.1 h
    cases he
    exact post_at hr (index_sound (V_op ht x) (V_op ht i) hv)
  case range t x =>
    have hx := V_op ht x
    split at h
    · rename_i s hk hs
      obtain ⟨⟨b0, H0⟩, hnb, he0⟩ := Option.map_eq_some_iff.1 h
      cases he0
      obtain ⟨_, hat0, hreal, _⟩ := newB_spec hnb (by simp)
      rw [hs] at hx
      have e1 : a.eval x = .string s := V.ofStr hx
      rw [e1]
      have hp := Pushed.alloc w (.stringIter s 0)
      obtain ⟨e, hr'⟩ := alloc_blk hr hp (.siter s 0) 0 0 rfl hnb (fun g' hg' e => by
        subst hg'
        show (w.alloc (.stringIter s 0)).heap[(g.put b0 w.heap.size 0 0).μ b0]? = _
        rw [show (g.put b0 w.heap.size 0 0).μ b0 = w.heap.size from by simp [Gh.put]]
        exact hp.new)
      refine post_of ⟨.pointer (some ⟨w.heap.size, 0, none⟩), _, _, by simp [Instr.range, run_underlying (ti_str hk)] <;> rfl, e, hr', .itr _ _ rfl hreal fun s' p' hy => ?_⟩
      simp [Gh.put]
    · rename_i kt et b hk hs
      obtain ⟨⟨es, c⟩, hm, h⟩ := Option.bind_eq_some_iff.1 h
      simp only at h
      split at h
      · cases h
        have hH := mapOf_some hm
        obtain ⟨es', h1, h2⟩ := mapb_ents hr hH
        rw [hs] at hx
        have e1 := V.ofMap hx hH
        rw [e1]
        obtain ⟨e, hr'⟩ := alloc_stable hr (Pushed.alloc w (.mapIter (some (g.μ b)) c #[] c))
        refine post_of ⟨.pointer (some ⟨w.heap.size, 0, none⟩), _, _, by simp [Instr.range, run_underlying (ti_map hk), run_getMap h1] <;> rfl, e, hr', .mit b w.heap.size (g.μ b) c (.inr rfl) (Pushed.alloc w _).new ⟨_, hH, by simp⟩ fun _ _ _ => rfl⟩
      · cases h
    · cases h
  case next it isS =>
    cases isS with
    | false =>
      simp only [evOp] at h
      obtain ⟨v, hv, he⟩ := Option.map_eq_some_iff.1 h
      cases he
      exact post_of (evNextM_sound hr (V_op ht it) hv)
    | true =>
      simp only [evOp] at h
      unfold evNext at h
      have hx := V_op ht it
      split at h
      · rename_i b e
        rw [e] at hx
        split at h
        · rename_i s p hH
          have e1 : a.eval it = .pointer (some ⟨g.μ b, 0, none⟩) := by
            cases hx with
            | itr _ _ _ _ hv => exact hv s p hH
          have hw : w.heap[g.μ b]? = some (.stringIter s p) := hr.at_ b _ hH
          have hget : (getObj (g.μ b)).run P w = .ok (.stringIter s p) w := by simp [getObj, Sem.run, hw]
          rw [e1]
          split at h
          · rename_i hlt
            cases h
            have hset : (setObj (g.μ b) (.stringIter s (p + (Utf8.decode s p).2))).run P w = .ok () { w with heap := w.heap.setIfInBounds (g.μ b) (.stringIter s (p + (Utf8.decode s p).2)) } := by
              simp [setObj, Sem.run, hw]
            have hμ : g.μ b < w.heap.size := hr.live_lt ⟨b, _, hH, rfl, rfl⟩
            obtain ⟨e, hr'⟩ := set_blk hr (w' := { w with heap := w.heap.setIfInBounds (g.μ b) (.stringIter s (p + (Utf8.decode s p).2)) }) (k := .siter s (p + (Utf8.decode s p).2)) hH rfl rfl (g.μ b) (g.cap b)
              ⟨rfl, rfl, rfl⟩ (by simp) (fun x _ hx => by simp only [Array.getElem?_setIfInBounds]; rw [if_neg (fun e => hx e.symm)]) (.inl rfl) (.inr ⟨_, _, rfl, by simp [Gh.put]⟩) (fun g' hg' e => by
                subst hg'
                show (w.heap.setIfInBounds (g.μ b) _)[(g.put b (g.μ b) (g.cap b) (g.sz b)).μ b]? = _
                rw [show (g.put b (g.μ b) (g.cap b) (g.sz b)).μ b = g.μ b from by simp [Gh.put]]
                simp [Array.getElem?_setIfInBounds, hμ])
            refine post_of ⟨.tuple #[.bool true, goInt p, .int .i32 (Utf8.decode s p).1], _, _, ?_, e, hr', .tup _ _ (by simp) fun i hi => ?_⟩
            · simp only [Instr.next, Sem.run_bind, hget, Result.andThen_ok]
              rw [if_pos hlt]
              simp only [Sem.run_bind, hset, Result.andThen_ok, Sem.run_pure]
            · have hi' : i < 3 := by simpa using hi
              match i, hi' with
              | 0, _ => exact .bool true
              | 1, _ => exact .int _ _
              | 2, _ => exact .int _ _
          · rename_i hlt
            cases h
            refine post_at hr ⟨.tuple #[.bool false], ?_, .tup _ _ (by simp) fun i hi => ?_⟩
            · simp only [Instr.next, Sem.run_bind, hget, Result.andThen_ok]
              rw [if_neg hlt]
              simp only [Sem.run_pure]
            · obtain rfl : i = 0 := by simpa using hi
              exact .bool false
        · cases h
      · cases h
  case typeAssert x xt t ok =>
    obtain ⟨v, hv, he⟩ := Option.map_eq_some_iff.1 h
    cases he
    have hx := V_op ht x
    unfold evAssert at hv
    split at hv
    · rename_i u y e
      rw [e] at hx
      obtain ⟨vy, e1, hy⟩ := V.ofIface hx
      have fin : (ti P t).k ≠ .other → (ti P t).k ≠ .iface → (if u = t then some (if ok then AV.tup [y, .bool true] else y) else if ok ∧ sized (ti P t).size [(ti P t).zero] then some (.tup [(ti P t).zero, .bool false]) else none) = some r →
          OpPost K g H w H r ((do pure (.value (← Instr.typeAssert (a.eval x) xt t ok)) : Sem Next).run P w) := by
        intro h1 h2 hv
        obtain ⟨i, d, hi, hd, hti⟩ := ti_some h1
        have hn : ∀ ms, d ≠ .interface ms := fun ms e => h2 (by rw [hti, e]; rfl)
        have hrun : (Instr.typeAssert (a.eval x) xt t ok).run P w = (if u = t then (pure (if ok then .tuple #[vy, .bool true] else vy) : Sem Value) else
            (if ok then do pure (.tuple #[← zeroValue t, .bool false]) else runtimePanic (.typeAssertion (some xt) (some u) t ""))).run P w := by
          rw [e1]
          simp only [Instr.typeAssert, Sem.run_bind, run_underlying hd, Result.andThen_ok]
          try (cases d <;> first | (exact absurd rfl (hn _)) | rfl)
        split at hv
        · rename_i hu
          cases hv
          refine post_at hr ⟨(if ok then .tuple #[vy, .bool true] else vy), by rw [hrun, if_pos hu]; simp, ?_⟩
          cases ok with
          | false => exact hy
          | true =>
            refine .tup _ _ (by simp) fun i hi => ?_
            have hi' : i < 2 := by simpa using hi
            match i, hi' with
            | 0, _ => exact hy
            | 1, _ => exact .bool true
        · rename_i hu
          split at hv
          · rename_i hok
            cases hv
            obtain ⟨z, hz, hzs, hzz⟩ := ti_zero hti hok.2
            have hzv : (zeroValue t).run P w = .ok z w := by simp [zeroValue, typeInfo, hi, hz]
            refine post_at hr ⟨.tuple #[z, .bool false], by rw [hrun, if_neg hu, if_pos hok.1]; simp [hzv], ?_⟩
            rw [hzz]
            refine .tup _ _ (by simp) fun i hi => ?_
            have hi' : i < 2 := by simpa using hi
            match i, hi' with
            | 0, _ => exact V_ofVal z
            | 1, _ => exact .bool false
          · cases hv
      split at hv
      · cases hv
      · cases hv
      · rename_i n1 n2
        exact fin n2 n1 hv
    · cases hv
  case extract t i =>
    have hx := V_op ht t
    split at h
    · rename_i vs e
      rw [e] at hx
      obtain ⟨v, hv, he⟩ := Option.map_eq_some_iff.1 h
      cases he
      obtain ⟨arr, e1, h1, h2⟩ := V.ofTup hx
      have hi : i < vs.length := (List.getElem?_eq_some_iff.1 hv).1
      have h3 := h2 i hi
      rw [List.getD_eq_getElem?_getD, hv] at h3
      have hi' : i < arr.size := by omega
      rw [e1]
      refine post_at hr ⟨arr[i], by simp [Instr.extract, hi'], ?_⟩
      simpa [Array.getD_eq_getD_getElem?, hi'] using h3
    · cases h
  case call c =>
    split at h
    · rename_i b hb
      simp only [resolve, hb, Sem.run_bind, Sem.run_pure, Result.andThen_ok, invoke]
      exact evBuiltin_sound hr ht h
    · cases h

end
end Go.Ev
