/- The evaluator's operations are the machine's: maps, copies, cuts to nothing. -/
import Derived.Test.YtpbmighaddkelaaGreatDoorE11
namespace Go.Ev

section
variable {P : Program} {K : Base} {g : Gh} {H : Heap} {w : World}

theorem mapOf_some {b : Nat} {es : List (AV × AV × Nat)} {c : Nat} (h : mapOf H b = some (es, c)) : H[b]? = some (.mapb es c) := by
  unfold mapOf at h
  split at h
  · rename_i es' c' hb; cases h; exact hb
  · cases h

theorem tk_map {d : TypeDesc} {k e : TypeId} (h : tk d = .map k e) : d = .map k e := by cases d <;> simp [tk] at h; obtain ⟨rfl, rfl⟩ := h; rfl
theorem ti_map {t k e : TypeId} (h : (ti P t).k = .map k e) : P.underlying t = some (.map k e) := by
  obtain ⟨i, d, _, h2, h3⟩ := ti_some (P := P) (t := t) (by rw [h]; simp)
  rw [h3] at h
  rw [h2, tk_map h]

/-- A key's type: its description. -/
def KeyDesc (P : Program) (kt : TypeId) (d : TypeDesc) : Prop := P.underlying kt = some d ∧ (ti P kt).k = tk d ∧ ((∃ k, d = .int k) ∨ d = .string)

theorem mapTy_some {t k e : TypeId} (h : mapTy P t = some (k, e)) : P.underlying t = some (.map k e) ∧ ∃ d, KeyDesc P k d := by
  unfold mapTy at h
  split at h
  · rename_i k' e' hk
    split at h
    · rename_i hp
      cases h
      refine ⟨ti_map hk, ?_⟩
      have hne : (ti P k).k ≠ .other := by intro e; rw [e] at hp; cases hp
      obtain ⟨i, d, _, h2, h3⟩ := ti_some hne
      refine ⟨d, h2, by rw [h3], ?_⟩
      rw [h3] at hp
      cases d <;> simp [tk, plainKey] at hp
      · exact .inl ⟨_, rfl⟩
      · exact .inr rfl
    · cases h
  · cases h

theorem run_checkKey_plain {kt : TypeId} {d : TypeDesc} (h : KeyDesc P kt d) (e : Bool) (v : Value) (w : World) : (Instr.checkKey e 10000 kt v).run P w = .ok () w := by
  obtain ⟨h1, _, h2⟩ := h
  unfold Instr.checkKey
  simp only [Sem.run_bind, run_underlying h1, Result.andThen_ok]
  rcases h2 with ⟨k, rfl⟩ | rfl <;> rfl

theorem ba_eq {a b : ByteArray} (h : (a == b) = true) : a = b := by
  have h' : (a.data == b.data) = true := h
  exact ByteArray.ext (eq_of_beq h')

theorem sameA_sound {kt : TypeId} {d : TypeDesc} (h : KeyDesc P kt d) {a b : AV} {va vb : Value} {r : Bool} (ha : V g H w a va) (hb : V g H w b vb) (hs : sameA (ti P kt).k a b = some r) : Instr.sameNow d va vb = some r ∧ (r = true → ∀ n, Instr.sameBits n vb va = true) := by
  obtain ⟨_, h2, h3⟩ := h
  rw [h2] at hs
  rcases h3 with ⟨k, rfl⟩ | rfl
  · unfold sameA at hs
    split at hs
    · cases ha; cases hb
      split at hs
      · rename_i hk
        cases hs
        refine ⟨by simp [Instr.sameNow, hk], fun hr n => ?_⟩
        have : _ = _ := eq_of_beq hr
        subst this; subst hk
        cases n <;> simp [Instr.sameBits]
      · cases hs
    · rename_i hh; cases hh
    · cases hs
  · unfold sameA at hs
    split at hs
    · rename_i hh; cases hh
    · cases ha; cases hb
      cases hs
      refine ⟨by simp [Instr.sameNow], fun hr n => ?_⟩
      have := ba_eq hr
      subst this
      cases n <;> (simp only [Instr.sameBits]; exact hr)
    · cases hs

/-- The entries stand to the machine's. -/
def Ents (g : Gh) (H : Heap) (w : World) (es : List (AV × AV × Nat)) (es' : List MapEntry) : Prop :=
  es'.length = es.length ∧ ∀ i (h : i < es.length) (h' : i < es'.length), V g H w es[i].1 es'[i].key ∧ V g H w es[i].2.1 es'[i].val ∧ es'[i].born = es[i].2.2

theorem Ents.tail {e : AV × AV × Nat} {es : List (AV × AV × Nat)} {e' : MapEntry} {es' : List MapEntry} (h : Ents g H w (e :: es) (e' :: es')) : V g H w e.1 e'.key ∧ V g H w e.2.1 e'.val ∧ Ents g H w es es' := by
  obtain ⟨h1, h2⟩ := h
  have h0 := h2 0 (by simp) (by simp)
  refine ⟨h0.1, h0.2.1, by simpa using h1, fun i hi hi' => ?_⟩
  have := h2 (i + 1) (by simpa using hi) (by simpa using hi')
  simpa using this

theorem findA_sound {kt : TypeId} {d : TypeDesc} (h : KeyDesc P kt d) {k : AV} {vk : Value} (hk : V g H w k vk) : ∀ {es : List (AV × AV × Nat)} {es' : List MapEntry} (i : Nat) {r : Option (Nat × AV)}, Ents g H w es es' → findA (ti P kt).k k es i = some r →
    match r with
    | none => Instr.findNow d vk es' i = some none
    | some (j, v) => ∃ u, Instr.findNow d vk es' i = some (some (j, u)) ∧ V g H w v u ∧ i ≤ j ∧ j - i < es.length ∧ (∀ e', es'[j - i]? = some e' → ∀ n, Instr.sameBits n e'.key vk = true)
  | [], [], i, r, _, hf => by cases hf; rfl
  | e :: es, e' :: es', i, r, he, hf => by
    obtain ⟨q1, q2, q3⟩ := he.tail
    simp only [findA] at hf
    split at hf
    · rename_i hs
      cases hf
      obtain ⟨s1, s2⟩ := sameA_sound h hk q1 hs
      exact ⟨e'.val, by simp only [Instr.findNow, s1], q2, Nat.le_refl _, by simp, fun e0 h0 n => by simp at h0; subst h0; exact s2 rfl n⟩
    · rename_i hs
      obtain ⟨s1, _⟩ := sameA_sound h hk q1 hs
      have := findA_sound h hk (i + 1) q3 hf
      cases r with
      | none => simp only [Instr.findNow, s1]; exact this
      | some p =>
        obtain ⟨j, v⟩ := p
        obtain ⟨u, u1, u2, u3, u4, u5⟩ := this
        refine ⟨u, by simp only [Instr.findNow, s1]; exact u1, u2, by omega, by simp; omega, fun e0 h0 n => u5 e0 ?_ n⟩
        have hj : j - i = (j - (i + 1)) + 1 := by omega
        rw [hj] at h0
        simpa using h0
    · cases hf
  | [], _ :: _, _, _, he, _ => by have := he.1; simp at this
  | _ :: _, [], _, _, he, _ => by have := he.1; simp at this

theorem mapb_ents (hr : RH K g H w) {b : Nat} {es : List (AV × AV × Nat)} {c : Nat} (h : H[b]? = some (.mapb es c)) : ∃ es' : Array MapEntry, w.heap[g.μ b]? = some (.map es' c) ∧ Ents g H w es es'.toList := by
  obtain ⟨es', h1, h2, h3⟩ := hr.at_ b _ h
  exact ⟨es', h1, by simpa using h2, fun i hi hi' => by simpa using h3 i hi (by simpa using hi')⟩

theorem V.ofMap {b : Nat} {v : Value} {es : List (AV × AV × Nat)} {c : Nat} (h : V g H w (.map b) v) (hb : H[b]? = some (.mapb es c)) : v = .map (some (g.μ b)) := by
  cases h with
  | map _ _ _ _ hv => exact hv es c hb

theorem run_getMap {b : Nat} {es' : Array MapEntry} {c : Nat} (h : w.heap[b]? = some (.map es' c)) : (getObj b).run P w = .ok (.map es' c) w := by simp [getObj, Sem.run, h]
theorem run_setMap {b : Nat} {es' : Array MapEntry} {c : Nat} (o : Obj) (h : w.heap[b]? = some (.map es' c)) : (setObj b o).run P w = .ok () { w with heap := w.heap.setIfInBounds b o } := by simp [setObj, Sem.run, h]

theorem run_findKey {kt : TypeId} {d : TypeDesc} (h : KeyDesc P kt d) {k : Value} {es : List MapEntry} {r : Option (Nat × Value)} (hf : Instr.findNow d k es 0 = some r) (w : World) : (Instr.findKey kt k es).run P w = .ok r w := by
  simp only [Instr.findKey, Sem.run_bind, run_underlying h.1, Result.andThen_ok, hf, Sem.run_pure]

theorem run_zero {t : TypeId} (hs : sized (ti P t).size [(ti P t).zero] = true) (w : World) : ∃ z, (zeroValue t).run P w = .ok z w ∧ (ti P t).zero = ofVal z := by
  have h0 := sized_mem hs (i := 0) (by simp)
  have hsm : ∃ i d, P.info? t = some i ∧ P.underlying t = some d := by
    unfold ti at h0
    cases hi : P.info? t with
    | none => simp [hi, AV.okv, AV.cells, AV.cell] at h0
    | some i =>
      cases hd : P.underlying t with
      | none => simp [hi, hd, AV.okv, AV.cells, AV.cell] at h0
      | some d => exact ⟨i, d, rfl, rfl⟩
  obtain ⟨i, d, hi, hd⟩ := hsm
  have hti : ti P t = ⟨tk d, i.size, i.bytes, (i.zero.map ofVal).getD .und⟩ := by simp [ti, hi, hd]
  obtain ⟨z, hz, _, hzz⟩ := ti_zero hti hs
  exact ⟨z, by simp [zeroValue, typeInfo, hi, hz], hzz⟩

theorem V_pair {x y : AV} {a b : Value} (h : V g H w x a) (h' : V g H w y b) : V g H w (.tup [x, y]) (.tuple #[a, b]) := by
  refine .tup _ _ (by simp) fun i hi => ?_
  have hi' : i < 2 := by simpa using hi
  match i, hi' with
  | 0, _ => exact h
  | 1, _ => exact h'

theorem evLookup_sound (hr : RH K g H w) {t : TypeId} {x i r : AV} {vx vi : Value} {ok : Bool} (hx : V g H w x vx) (hi : V g H w i vi) (h : evLookup P H t x i ok = some r) : ∃ v, (Instr.lookup t vx vi ok).run P w = .ok v w ∧ V g H w r v := by
  unfold evLookup at h
  obtain ⟨⟨kt, et⟩, hke, h⟩ := Option.bind_eq_some_iff.1 h
  obtain ⟨es, hes, h⟩ := Option.bind_eq_some_iff.1 h
  obtain ⟨q, hq, h⟩ := Option.bind_eq_some_iff.1 h
  obtain ⟨hu, d, hd⟩ := mapTy_some hke
  have key : ∃ es' : Array MapEntry, Ents g H w es es'.toList ∧ ((vx = .map none ∧ es' = #[]) ∨ ∃ b c, vx = .map (some b) ∧ w.heap[b]? = some (.map es' c)) := by
    unfold entriesOf at hes
    split at hes
    · rename_i b
      obtain ⟨⟨es1, c⟩, hm, he⟩ := Option.map_eq_some_iff.1 hes
      simp only at he
      subst he
      obtain ⟨es', h1, h2⟩ := mapb_ents hr (mapOf_some hm)
      exact ⟨es', h2, .inr ⟨_, c, V.ofMap hx (mapOf_some hm), h1⟩⟩
    · cases hes
      cases hx
      exact ⟨#[], ⟨rfl, fun i hi => by simp at hi⟩, .inl ⟨rfl, rfl⟩⟩
    · cases hes
  obtain ⟨es', he, hvx⟩ := key
  have hf := findA_sound hd hi 0 he hq
  have hrun2 : ∀ q' : Option (Nat × Value), Instr.findNow d vi es'.toList 0 = some q' → ∀ z, (q' = none → (zeroValue et).run P w = .ok z w) → (Instr.lookup t vx vi ok).run P w = .ok (match q' with
      | some (_, v) => if ok then .tuple #[v, .bool true] else v
      | none => if ok then .tuple #[z, .bool false] else z) w := by
    intro q' hq' z hz
    have e1 := run_findKey hd hq' w
    rcases hvx with ⟨rfl, rfl⟩ | ⟨b, c, rfl, hb⟩
    · cases q' with
      | none => simp [Instr.lookup, run_underlying hu, run_checkKey_plain hd, e1, hz rfl]
      | some p => simp [Instr.lookup, run_underlying hu, run_checkKey_plain hd, e1]
    · cases q' with
      | none => simp [Instr.lookup, run_underlying hu, run_getMap hb, run_checkKey_plain hd, e1, hz rfl]
      | some p => simp [Instr.lookup, run_underlying hu, run_getMap hb, run_checkKey_plain hd, e1]
  cases q with
  | some p =>
    obtain ⟨j, v⟩ := p
    obtain ⟨u, u1, u2, _⟩ := hf
    cases h
    refine ⟨if ok then .tuple #[u, .bool true] else u, by rw [hrun2 _ u1 undef (fun h => by cases h)], ?_⟩
    cases ok with
    | false => exact u2
    | true => exact V_pair u2 (.bool true)
  | none =>
    simp only at h
    split at h
    · rename_i hs
      cases h
      obtain ⟨z, hz, hzz⟩ := run_zero hs w
      refine ⟨if ok then .tuple #[z, .bool false] else z, by rw [hrun2 _ hf z (fun _ => hz)], ?_⟩
      rw [hzz]
      cases ok with
      | false => exact V_ofVal z
      | true => exact V_pair (V_ofVal z) (.bool false)
    · cases h

/-- A map's block is written. -/
theorem set_map (hr : RH K g H w) {b : Nat} {es es2 : List (AV × AV × Nat)} {c c2 : Nat} {es' es2' : Array MapEntry} (hH : H[b]? = some (.mapb es c)) (hw : w.heap[g.μ b]? = some (.map es' c)) (h2 : Ents g H w es2 es2'.toList) :
    ∃ g', Ext g H w g' (H.set b (.mapb es2 c2)) { w with heap := w.heap.setIfInBounds (g.μ b) (.map es2' c2) } ∧ RH K g' (H.set b (.mapb es2 c2)) { w with heap := w.heap.setIfInBounds (g.μ b) (.map es2' c2) } := by
  have hμ : g.μ b < w.heap.size := hr.live_lt ⟨b, _, hH, rfl, rfl⟩
  have := set_blk hr (w' := { w with heap := w.heap.setIfInBounds (g.μ b) (.map es2' c2) }) (k := .mapb es2 c2) hH rfl rfl (g.μ b) (g.cap b) ⟨rfl, rfl, rfl⟩ (by simp)
    (fun x _ hx => by simp only [Array.getElem?_setIfInBounds]; rw [if_neg (fun e => hx e.symm)]) (.inl rfl) (.inr ⟨_, _, rfl, by simp [Gh.put]⟩) (fun g' hg' e => by
      subst hg'
      refine ⟨es2', ?_, by simpa using h2.1, fun i hi hi' => ?_⟩
      · rw [show (g.put b (g.μ b) (g.cap b) (g.sz b)).μ b = g.μ b from by simp [Gh.put]]
        simp [Array.getElem?_setIfInBounds, hμ]
      · obtain ⟨q1, q2, q3⟩ := h2.2 i hi (by simpa using hi')
        exact ⟨V.mono hr e (by simpa using q1), V.mono hr e (by simpa using q2), by simpa using q3⟩)
  exact ⟨_, this.1, this.2⟩

theorem Ents.push {es : List (AV × AV × Nat)} {es' : List MapEntry} (h : Ents g H w es es') {k x : AV} {vk vx : Value} (hk : V g H w k vk) (hx : V g H w x vx) (c : Nat) : Ents g H w (es ++ [(k, x, c)]) (es' ++ [{ key := vk, val := vx, born := c }]) := by
  refine ⟨by simp [h.1], fun i hi hi' => ?_⟩
  by_cases hl : i < es.length
  · have hl' : i < es'.length := by rw [h.1]; exact hl
    rw [List.getElem_append_left hl, List.getElem_append_left hl']
    exact h.2 i hl hl'
  · have e1 : i = es.length := by simp at hi; omega
    subst e1
    have e2 : es.length = es'.length := h.1.symm
    rw [List.getElem_append_right (Nat.le_refl _)]
    simp only [e2, Nat.sub_self]
    rw [List.getElem_append_right (Nat.le_refl _)]
    simp only [Nat.sub_self]
    exact ⟨hk, hx, rfl⟩

theorem Ents.modify {es : List (AV × AV × Nat)} {es' : List MapEntry} (h : Ents g H w es es') (j : Nat) {k x : AV} {vk vx : Value} (hk : V g H w k vk) (hx : V g H w x vx) : Ents g H w (es.modify j fun e => (k, x, e.2.2)) (es'.modify j fun e => { e with key := vk, val := vx }) := by
  refine ⟨by simp [h.1], fun i hi hi' => ?_⟩
  have hl : i < es.length := by simpa using hi
  have hl' : i < es'.length := by simpa using hi'
  obtain ⟨q1, q2, q3⟩ := h.2 i hl hl'
  rw [List.getElem_modify, List.getElem_modify]
  by_cases hj : j = i
  · simp only [hj, if_true]; exact ⟨hk, hx, q3⟩
  · simp only [hj, if_false]; exact ⟨q1, q2, q3⟩

theorem Ents.erase {es : List (AV × AV × Nat)} {es' : List MapEntry} (h : Ents g H w es es') (j : Nat) : Ents g H w (es.eraseIdx j) (es'.eraseIdx j) := by
  refine ⟨by simp [List.length_eraseIdx, h.1], fun i hi hi' => ?_⟩
  rw [List.getElem_eraseIdx, List.getElem_eraseIdx]
  have hle : (es.eraseIdx j).length ≤ es.length := List.length_eraseIdx_le ..
  split
  · exact h.2 i (by omega) (by rw [h.1]; omega)
  · rename_i hj
    have : i + 1 < es.length := by
      rw [List.length_eraseIdx] at hi
      split at hi <;> omega
    exact h.2 (i + 1) this (by rw [h.1]; exact this)

theorem evPut_sound (hr : RH K g H w) {t : TypeId} {m k x : AV} {vm vk vx : Value} {H' : Heap} (hm : V g H w m vm) (hk : V g H w k vk) (hx : V g H w x vx) (h : evPut P H t m k x = some H') :
    ∃ w' g', (Instr.mapUpdate t vm vk vx).run P w = .ok () w' ∧ Ext g H w g' H' w' ∧ RH K g' H' w' := by
  unfold evPut at h
  obtain ⟨⟨kt, et⟩, hke, h⟩ := Option.bind_eq_some_iff.1 h
  obtain ⟨hu, d, hd⟩ := mapTy_some hke
  simp only at h
  split at h
  · rename_i b
    obtain ⟨⟨es, c⟩, hmo, h⟩ := Option.bind_eq_some_iff.1 h
    obtain ⟨q, hq, h⟩ := Option.map_eq_some_iff.1 h
    have hH := mapOf_some hmo
    obtain ⟨es', h1, h2⟩ := mapb_ents hr hH
    have hv := V.ofMap hm hH
    have hf := findA_sound hd hk 0 h2 hq
    rw [hv]
    cases q with
    | none =>
      simp only at h
      subst h
      obtain ⟨g', e1, e2⟩ := set_map hr hH h1 (es2 := es ++ [(k, x, c)]) (es2' := es'.push { key := vk, val := vx, born := c }) (c2 := c + 1) (by simpa using h2.push hk hx c)
      refine ⟨_, g', ?_, e1, e2⟩
      simp only [Instr.mapUpdate, Sem.run_bind, run_underlying hu, Result.andThen_ok, run_getMap h1, run_checkKey_plain hd, run_findKey hd hf]
      exact run_setMap _ h1
    | some p =>
      obtain ⟨j, v⟩ := p
      obtain ⟨u, u1, _, _, u4, u5⟩ := hf
      simp only at h
      subst h
      obtain ⟨g', e1, e2⟩ := set_map hr hH h1 (es2 := es.modify j fun e => (k, x, e.2.2)) (es2' := es'.modify j fun e => { e with key := vk, val := vx }) (c2 := c) (by simpa using h2.modify j hk hx)
      refine ⟨_, g', ?_, e1, e2⟩
      have hj : j < es'.size := by
        have := h2.1
        simp at this u4
        omega
      have hkey : (Instr.keyThatStays (((es'[j]?).map (·.key)).getD vk) vk).run P w = .ok vk w := by
        have := u5 es'[j] (by simp [hj]) 10000
        simp [Instr.keyThatStays, hj, this]
      simp only [Instr.mapUpdate, Sem.run_bind, run_underlying hu, Result.andThen_ok, run_getMap h1, run_checkKey_plain hd, run_findKey hd u1, hkey]
      exact run_setMap _ h1
  · cases h

theorem evDel_sound (hr : RH K g H w) {t u ty : TypeId} {m k : AV} {vm vk : Value} {H' : Heap} (hm : V g H w m vm) (hk : V g H w k vk) (h : evDel P H t m k = some H') :
    ∃ w' g', (Builtin.delete_ #[t, u] ty #[vm, vk]).run P w = .ok (.tuple #[]) w' ∧ Ext g H w g' H' w' ∧ RH K g' H' w' := by
  unfold evDel at h
  obtain ⟨⟨kt, et⟩, hke, h⟩ := Option.bind_eq_some_iff.1 h
  obtain ⟨hu, d, hd⟩ := mapTy_some hke
  simp only at h
  split at h
  · rename_i b
    obtain ⟨⟨es, c⟩, hmo, h⟩ := Option.bind_eq_some_iff.1 h
    obtain ⟨q, hq, h⟩ := Option.map_eq_some_iff.1 h
    have hH := mapOf_some hmo
    obtain ⟨es', h1, h2⟩ := mapb_ents hr hH
    have hv := V.ofMap hm hH
    have hf := findA_sound hd hk 0 h2 hq
    rw [hv]
    cases q with
    | none =>
      simp only at h
      subst h
      obtain ⟨g', e1, e2⟩ := set_map hr hH h1 (es2 := es) (es2' := es') (c2 := c) h2
      refine ⟨_, g', ?_, e1, e2⟩
      simp [Builtin.delete_, run_underlying hu, run_getMap h1, run_checkKey_plain hd, run_findKey hd hf, run_setMap _ h1]
    | some p =>
      obtain ⟨j, v⟩ := p
      obtain ⟨u', u1, _, _, u4, u5⟩ := hf
      simp only at h
      subst h
      obtain ⟨g', e1, e2⟩ := set_map hr hH h1 (es2 := es.eraseIdx j) (es2' := es'.eraseIdxIfInBounds j) (c2 := c) (by simpa using h2.erase j)
      refine ⟨_, g', ?_, e1, e2⟩
      simp [Builtin.delete_, run_underlying hu, run_getMap h1, run_checkKey_plain hd, run_findKey hd u1, run_setMap _ h1]
  · cases h

theorem evSlice0_sound (hr : RH K g H w) {t : TypeId} {x r mx : AV} {vx vm : Value} {lo hi : Option AV} {vl vh : Option Value} (hx : V g H w x vx) (hm : V g H w mx vm)
    (hlo : ∀ a, lo = some a → ∃ v, vl = some v ∧ V g H w a v) (hlo0 : lo = none → vl = none)
    (hhi : ∀ a, hi = some a → ∃ v, vh = some v ∧ V g H w a v) (h : evSlice0 P H t x lo hi mx = some r) :
    ∃ v, (Instr.sliceAt t vx vl vh (some vm)).run P w = .ok v w ∧ V g H w r v := by
  unfold evSlice0 at h
  split at h
  · rename_i e hk h1 h2 h3
    split at h
    · rename_i hs
      obtain ⟨i, d, hi', hd, hsz⟩ := ti_size (P := P) (t := e) hs
      obtain ⟨b, hb, hb2⟩ := Option.bind_eq_some_iff.1 h2
      obtain ⟨vb, rfl, hvb⟩ := hhi b hb
      have hbd : ∀ isS len cap, (Instr.sliceBounds isS len cap vl (some vb) (some vm)).run P w = .ok (0, 0, 0) w := by
        intro isS len cap
        unfold Instr.sliceBounds
        cases lo with
        | none => rw [hlo0 rfl]; simp [bound_sound hm h3 (Nat.zero_le _), bound_sound hvb hb2 (Nat.zero_le _)]
        | some a =>
          obtain ⟨va, rfl, hva⟩ := hlo a rfl
          simp [bound_sound hm h3 (Nat.zero_le _), bound_sound hvb hb2 (Nat.zero_le _), bound_sound hva h1 (Nat.zero_le _)]
      have hrun : ∀ a len cap, (Instr.sliceAt t (.slice a len cap) vl (some vb) (some vm)).run P w = .ok (.slice a 0 0) w := by
        intro a len cap
        simp [Instr.sliceAt, run_underlying (ti_slice hk), Instr.slice, hbd, run_sizeOf hi']
      split at h
      · cases h
        cases hx with
        | zsl _ a q1 q2 => exact ⟨_, hrun _ _ _, .zsl _ a q1 q2⟩
      · cases h
        cases hx with
        | sl xs β off cap sz u => exact ⟨_, hrun _ _ _, .zsl _ _ (fun h => by cases h) fun _ => rfl⟩
      · rename_i b n
        obtain ⟨xs, hxs, he⟩ := Option.map_eq_some_iff.1 h
        cases he
        obtain ⟨⟨z0, hH, _⟩, hn⟩ := arrOf_some hxs
        cases hx with
        | own _ _ _ _ _ hv =>
          obtain rfl := (hv z0 xs hH).2 hn.symm
          exact ⟨_, hrun _ _ _, .zsl _ _ (fun h => by cases h) fun _ => rfl⟩
      · cases h
    · cases h
  · cases h

theorem evCopy_sound (hr : RH K g H w) {t u ty : TypeId} {dst src r : AV} {vd vs : Value} {H' : Heap} (hd : V g H w dst vd) (hs : V g H w src vs) (h : evCopy P H t dst src = some (r, H')) :
    ∃ v w' g', (Builtin.copy_ #[t, u] ty #[vd, vs]).run P w = .ok v w' ∧ Ext g H w g' H' w' ∧ RH K g' H' w' ∧ V g' H' w' r v := by
  unfold evCopy at h
  split at h
  · rename_i e b n hk
    obtain ⟨new, hnew, h⟩ := Option.bind_eq_some_iff.1 h
    obtain ⟨xs, hxs, h⟩ := Option.bind_eq_some_iff.1 h
    split at h
    · rename_i hb
      cases h
      obtain ⟨b1, b2, b3, b4⟩ := hb
      obtain ⟨⟨z0, hH, hz0⟩, hn⟩ := arrOf_some hxs
      obtain ⟨i, d, hi, hds, hti⟩ := ti_size (P := P) (t := e) b4
      have hsz2 : (ti P e).size = i.size := by rw [hti]
      obtain ⟨arr, he⟩ := elems_sound (P := P) hr hs hnew b1
      rw [hsz2] at he b1 b3
      obtain ⟨a0, barr, bty, fr, a1, a2, a3, a4, a5, a6⟩ := hr.at_ b _ hH
      have hszb : g.sz b = i.size := by rw [← a0, ← hz0, b3]
      rw [hszb] at a3 a6
      cases hd with
      | own _ _ _ _ hbl hv =>
        obtain rfl := (hv z0 xs hH).2 hn.symm
        subst hn
        have hfit : 0 + 0 + arr.toList.length ≤ barr.size := by
          have h1 := Nat.mul_le_mul_right i.size (Nat.le_trans b2 a4)
          simp only [Array.length_toList, he.size]
          omega
        obtain ⟨w', r1, r2, r3, r4, r5, r6, r7⟩ := run_storeCells_arr (P := P) (g.μ b) 0 bty fr arr.toList 0 w barr a1 a2 hfit (he.one b1)
        have hmin : Nat.min new.length xs.length = new.length := Nat.min_eq_left b2
        have hrun : (Builtin.copy_ #[t, u] ty #[.slice (some ⟨g.μ b, 0, none⟩) xs.length (g.cap b), vs]).run P w = .ok (.int .i64 new.length) w' := by
          have e2 := he.read w rfl
          simp [Builtin.copy_, run_underlying (ti_slice hk), he.len w, hmin, run_sizeOf hi, e2, r1, goInt]
        obtain ⟨e, hr'⟩ := set_blk hr (w' := w') (k := .arr (szOf H b) (new ++ xs.drop new.length)) hH rfl rfl (g.μ b) (g.cap b) ⟨r5, r6, r7⟩ (by omega) (fun x _ hx => r3 x hx) (.inl rfl)
          (.inr ⟨_, by rw [hz0], by simp; omega, fun _ => ⟨by simp [Gh.put], by simp [Gh.put]⟩, by simp [Gh.put]⟩) (fun g' hg' e => by
            subst hg'
            refine ⟨by rw [hz0, a0]; simp [Gh.put], putA barr (0 + 0) arr.toList, bty, fr, by simpa [Gh.put] using r2, by rw [putA_size]; exact a2, by rw [putA_size]; simpa [Gh.put, hszb] using a3, by simp [Gh.put]; omega, by simpa [Gh.put] using a5, fun k hk' => ?_⟩
            have hsz' : (g.put b (g.μ b) (g.cap b) (g.sz b)).sz b = i.size := by simp [Gh.put, hszb]
            rw [hsz']
            by_cases hx : k < new.length
            · rw [lgetD_append_l _ _ _ hx]
              refine ⟨(sized_mem b1 hx).1, fun j hj => ?_⟩
              have := putA_in arr.toList (0 + 0) barr (k * i.size + j) hfit (by simp only [Array.length_toList, he.size]; exact idx_lt hx hj)
              rw [show 0 + 0 + (k * i.size + j) = k * i.size + j by omega] at this
              rw [this]
              have h3 := V.mono hr e (he.at_ k j hx hj)
              simpa [List.getD_eq_getElem?_getD, Array.getD_eq_getD_getElem?] using h3
            · have hx' : new.length ≤ k := by omega
              have hk2 : k < xs.length := by simp at hk'; omega
              rw [lgetD_append_r _ _ _ hx']
              have e1 : (xs.drop new.length).getD (k - new.length) .und = xs.getD k .und := by
                simp only [List.getD_eq_getElem?_getD, List.getElem?_drop]
                rw [show new.length + (k - new.length) = k by omega]
              rw [e1]
              refine ⟨(a6 k hk2).1, fun j hj => ?_⟩
              rw [putA_out _ _ _ _ (.inr (by
                simp only [Array.length_toList, he.size]
                have : new.length * i.size ≤ k * i.size := Nat.mul_le_mul_right _ hx'
                omega))]
              exact V.mono hr e ((a6 k hk2).2 j hj))
        exact ⟨_, w', _, hrun, e, hr', .int _ _⟩
    · cases h
  · cases h

theorem run_mapNext1 (w : World) : ∃ w', (choose (.mapNext 1)).run P w = .ok 0 w' ∧ w'.heap = w.heap ∧ w'.os = w.os ∧ w'.tape = w.tape ∧ w'.output = w.output := by
  rw [run_choose]
  split
  · exact ⟨w, rfl, rfl, rfl, rfl, rfl⟩
  · refine ⟨{ w with drawn := w.drawn + 1 }, ?_, rfl, rfl, rfl, rfl⟩
    simp [Question.cut, Nat.mod_one]

theorem Ext.same_heap (hr : RH K g H w) {w' : World} (h1 : w'.heap = w.heap) (h2 : w'.os = w.os) (h3 : w'.tape = w.tape) (h4 : w'.output = w.output) : Ext g H w g H w' ∧ RH K g H w' := by
  have e1 : Ext g H w g H w' :=
    ⟨h2, h3, h4, by rw [h1]; exact Nat.le_refl _, fun β _ _ => by rw [h1], fun _ h => h, fun _ h => .inl h, fun _ h => .inl h, Nat.le_refl _, fun b k k' q1 q2 => by
      rw [q1] at q2; cases q2; exact Blk.to_refl g b k⟩
  refine ⟨e1, ⟨fun b k hb => ?_, hr.notS, hr.inj, fun β h => by rw [h1]; exact hr.below β h, fun β h => ⟨(hr.base β h).1, by rw [h1]; exact (hr.base β h).2⟩⟩⟩
  by_cases hl : k.live = true
  · exact Blk.at_mono hr e1 rfl rfl rfl (by rw [h1]) (hr.at_ b k hb)
  · cases k <;> first | trivial | (exact absurd rfl hl)

theorem evNextM_sound (hr : RH K g H w) {it r : AV} {v : Value} {ty : TypeId} (hi : V g H w it v) (h : evNextM H it = some r) : ∃ u w' g', (Instr.next v false ty).run P w = .ok u w' ∧ Ext g H w g' H w' ∧ RH K g' H w' ∧ V g' H w' r u := by
  unfold evNextM at h
  split at h
  · rename_i b
    obtain ⟨⟨es, c⟩, hm, h⟩ := Option.bind_eq_some_iff.1 h
    simp only at h
    split at h
    · cases h
      have hH := mapOf_some hm
      obtain ⟨es', h1, h2⟩ := mapb_ents hr hH
      have hemp : es' = #[] := by
        have := h2.1
        simp at this
        exact this
      subst hemp
      cases hi with
      | mit _ β m c' hs hh hb hv =>
        have := hv _ _ hH
        subst this
        obtain ⟨w', q1, q2, q3, q4, q5⟩ := run_mapNext1 (P := P) w
        obtain ⟨e1, e2⟩ := Ext.same_heap hr q2 q3 q4 q5
        refine ⟨.tuple #[.bool false], w', g, ?_, e1, e2, .tup _ _ (by simp) fun i hi => ?_⟩
        · have hg1 : (getObj β).run P w = .ok (.mapIter (some (g.μ b)) c' #[] c') w := by simp [getObj, Sem.run, hh]
          have hfe : ∀ p : MapEntry → Bool, Array.filter p #[] 0 0 = #[] := fun _ => rfl
          simp only [Instr.next, Sem.run_bind, hg1, Result.andThen_ok, run_getMap h1]
          simp only [hfe, Array.isEmpty_empty, Bool.not_true, Bool.false_and, Bool.and_false, Bool.false_eq_true, if_false, if_true, Array.map_empty, Array.append_empty]
          have q1' : (choose (.mapNext (#[(none : Option MapEntry)] : Array (Option MapEntry)).size)).run P w = .ok 0 w' := q1
          first
            | (simp only [Sem.run_bind, q1', Result.andThen_ok]; rfl)
            | (simp [hfe, q1]; done)
        · obtain rfl : i = 0 := by simpa using hi
          exact .bool false
    · cases h
  · cases h

end
end Go.Ev
