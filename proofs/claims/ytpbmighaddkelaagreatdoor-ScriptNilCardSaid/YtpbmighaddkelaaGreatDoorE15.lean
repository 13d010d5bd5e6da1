/- One operation of a region is the machine's. -/
import Derived.Test.YtpbmighaddkelaaGreatDoorE14
import Derived.Orders
namespace Go.Ev

def dstOk (N : Nat) (o : Oper) : Bool := match o.dst with | some d => Nat.blt d N | none => true

/-- What is asked of the program's text, once and for all. -/
def codeOk (N : Nat) : Code → Bool
  | .region _ ops _ => ops.toList.all (dstOk N)
  | .seq a b => codeOk N a && codeOk N b
  | .cond _ a b => codeOk N a && codeOk N b
  | .block _ c => codeOk N c
  | .loop c => codeOk N c
  | _ => true
def fnOk (fn : Func) : Bool := (fn.name != "runtime.NumGoroutine") && (match fn.body with | some c => codeOk fn.ntmps c | none => true)
def progOk (P : Program) : Bool := P.funcs.toList.all fnOk

theorem dstOk_spec {N : Nat} {o : Oper} (h : dstOk N o = true) : ∀ t, o.dst = some t → t < N := by
  intro t ht
  simp only [dstOk, ht] at h
  simpa [Nat.blt_eq] using h

theorem progOk_fn {P : Program} (h : progOk P = true) {f : FuncId} {fn : Func} (hf : P.funcs[f]? = some fn) : fnOk fn = true := by
  refine List.all_eq_true.1 h fn ?_
  rw [Array.mem_toList_iff]
  exact Array.mem_of_getElem? hf

section
variable {P : Program} {K : Base} {g : Gh} {H : Heap} {w : World}

theorem run_callFunc_body (hP : progOk P = true) {f : FuncId} (hb : hasBody P f) (args : Array Value) (w : World) : (callFunc f args).run P w = .ok (.enter f args) w := by
  obtain ⟨fn, h1, h2⟩ := hb
  have h3 := progOk_fn hP h1
  simp only [fnOk, Bool.and_eq_true, bne_iff_ne, ne_eq] at h3
  have h4 : fn.body ≠ none := by
    intro h
    rw [h] at h2; cases h2
  simp [callFunc, h1, h3.1, h4]

theorem opk_call {op : Op} {c : Call} (h : opk op = .call c) : op = .call c := by
  unfold opk at h
  split at h
  · split at h
    · cases h
    · cases h; rfl
  · cases h
  · cases h
  · cases h
theorem opk_store {op : Op} {t : TypeId} {a x : Operand} (h : opk op = .store t a x) : op = .store t a x := by
  unfold opk at h
  split at h
  · split at h <;> cases h
  · cases h; rfl
  · cases h
  · cases h
theorem opk_alloc {op : Op} {t : TypeId} (h : opk op = .alloc t) : op = .alloc t := by
  unfold opk at h
  split at h
  · split at h <;> cases h
  · cases h
  · cases h; rfl
  · cases h

theorem V.ofFn {f : Fn} {x y : List AV} {v : Value} (h : V g H w (.fn f x y) v) : ∃ x' y' : Array Value, v = .func f x' y' ∧ Args g H w x x' ∧ Args g H w y y' := by
  cases h with
  | fn _ _ _ a' b' h1 h2 h3 h4 => exact ⟨a', b', rfl, ⟨h1, h3⟩, ⟨h2, h4⟩⟩

theorem Args.append {x y : List AV} {x' y' : Array Value} (h : Args g H w x x') (h' : Args g H w y y') : Args g H w (x ++ y) (x' ++ y') := by
  refine ⟨by simp [h.1, h'.1], fun i hi => ?_⟩
  by_cases hx : i < x.length
  · rw [lgetD_append_l _ _ _ hx, getD_append_l _ _ _ (by rw [h.1]; exact hx)]
    exact h.2 i hx
  · rw [lgetD_append_r _ _ _ (by omega), getD_append_r _ _ _ (by rw [h.1]; omega), h.1]
    exact h'.2 _ (by simp at hi; omega)

theorem target_spec {T : Slots} {a : Act} (ht : ∀ t, V g H w (T t) (a.tmps.getD t undef)) {c : Call} {f : FuncId} {args : List AV} (h : target T c = some (f, args)) :
    ∃ vs, Args g H w args vs ∧ ∀ (w : World) (o : Oper), o.op = .call c → (execOp a.eval o).run P w = (callFunc f vs).run P w := by
  unfold target at h
  split at h
  · rename_i f0 hc
    split at h
    · rename_i g0 x y hf
      cases h
      have hv := V_op ht f0
      rw [hf] at hv
      obtain ⟨x', y', e1, h1, h2⟩ := V.ofFn hv
      obtain ⟨h3, h4⟩ := V_ops ht c.args
      refine ⟨x' ++ c.args.map a.eval ++ y', (h1.append ⟨h3, h4⟩).append h2, fun w o ho => ?_⟩
      unfold execOp
      rw [ho]
      simp only [resolve, hc, e1]
      simp [Deferred.ofValue, invoke]
    · cases h
  · cases h

theorem chk_some {x r : AV × Heap} (h : chk x = some r) : x = r ∧ isFresh r.1 = false := by
  unfold chk at h
  split at h
  · cases h
  · rename_i hf; cases h; exact ⟨rfl, by simpa using hf⟩

theorem fresh_skip : isFresh skip = false := rfl

theorem V_skip : V g H w skip undef := .tup [] #[] rfl fun i hi => by simp at hi

/-- One operation that runs. -/
theorem evStep_sound {C : Cfg} {X : Ctx} (hP : progOk C.P = true) (hX : CallsOK C.P K X) (hE : ExtOK C.P K C) {fid : FuncId} {q : Bool} {al : Option Nat} {N : Nat} {g0 : Gh} {H0 : Heap} {w0 : World} {st st' : St} {a : Act} {w : World} {o : Oper}
    (hI : Inv K N g0 H0 w0 st a w) (hd : dstOk N o = true) (h : evStep C X fid q al st o = some st') {next : Act → World → Prop} {Q : Exit → Act → World → Prop}
    (hn : ∀ a' w', Inv K N g0 H0 w0 st' a' w' → next a' w') : o.wp C.P a w next Q := by
  obtain ⟨g, e0, hr, ht⟩ := hI.rel
  have hd' := dstOk_spec hd
  unfold evStep at h
  split at h
  · rename_i c hop
    have hop := opk_call hop
    obtain ⟨⟨f, args⟩, htg, h⟩ := Option.bind_eq_some_iff.1 h
    split at h
    · cases h
    · obtain ⟨⟨r, H'⟩, hr1, he⟩ := Option.map_eq_some_iff.1 h
      obtain ⟨⟨r2, H2⟩, hc, hk⟩ := Option.bind_eq_some_iff.1 hr1
      obtain ⟨hk1, hk2⟩ := chk_some hk
      cases hk1
      cases he
      obtain ⟨hb, hcall⟩ := evCall_sound hX hE hc
      obtain ⟨vs, hvs, hrun⟩ := target_spec (P := C.P) ht.v htg
      unfold Oper.wp
      rw [hrun w o hop, run_callFunc_body hP hb]
      refine (hcall g w vs hr hvs).mono ?_
      rintro e w' ⟨v, g', rfl, e1, hr', hv⟩
      exact hn _ _ (hI.put e0 hr ht e1 hr' hd' hv hk2)
  · rename_i t p x hop
    have hop := opk_store hop
    split at h
    · cases h
    rename_i _
    split at h
    · rename_i s n hf
      split at h
      · rename_i hs
        cases h
        obtain ⟨s1, s2, s3, s4, s5⟩ := hs
        have hp : p = .tmp s ∧ st.T s = .fresh n := by
          unfold freshAt at hf
          split at hf
          · split at hf
            · rename_i hT; cases hf; exact ⟨rfl, hT⟩
            · cases hf
          · cases hf
        obtain ⟨rfl, hT⟩ := hp
        obtain ⟨w', g', h1, h2, h3, h4⟩ := bind_new (P := C.P) hr ht hT (V_op ht.v x) s1 (by omega) s4 (t := t) s3 e0 rfl
        have hrun : (execOp a.eval o).run C.P w = .ok .skip w' := by
          unfold execOp
          rw [hop]
          simp only [Sem.run_bind]
          rw [show a.eval (.tmp s) = a.tmps.getD s undef from rfl, h1]
          simp
        unfold Oper.wp
        rw [hrun]
        refine hn _ _ ⟨⟨g', h2, h3, h4.put (fun t h => Nat.lt_of_lt_of_le (hd' t h) hI.size) V_skip fresh_skip⟩, by rw [Act.put_defers]; exact hI.defers, by rw [Act.put_size]; exact hI.size⟩
      · cases h
    · obtain ⟨H', hH, he⟩ := Option.map_eq_some_iff.1 h
      cases he
      obtain ⟨w', g', h1, h2, h3⟩ := evStore_sound hr (V_op ht.v p) (V_op ht.v x) hH
      have hrun : (execOp a.eval o).run C.P w = .ok .skip w' := by
        unfold execOp
        rw [hop]
        simp only [Sem.run_bind, h1]
        simp
      unfold Oper.wp
      rw [hrun]
      exact hn _ _ (hI.put e0 hr ht h2 h3 hd' V_skip fresh_skip)
  · rename_i t hop
    have hop := opk_alloc hop
    split at h
    · rename_i d hdst
      split at h
      · rename_i hs
        obtain ⟨s1, s2⟩ := hs
        obtain ⟨i, ds, hi, hds, hti⟩ := ti_size (P := C.P) (t := t) s1
        obtain ⟨z, hz, hzs, hzz⟩ := ti_zero hti s2
        have hz0 := sized_mem s2 (i := 0) (by simp)
        simp only [List.getD_cons_zero] at hz0
        have hsz : (ti C.P t).size = i.size := by rw [hti]
        have hrun : (execOp a.eval o).run C.P w = .ok (.value (.pointer (some ⟨w.heap.size, 0, none⟩))) (w.alloc (.cells z.cells t)) := by
          unfold execOp
          rw [hop]
          have hzv : (zeroValue t).run C.P w = .ok z w := by simp [zeroValue, typeInfo, hi, hz]
          simp only [Instr.alloc, Sem.run_bind, hzv, Result.andThen_ok]
          simp [newVar, newRow]
        have hp := Pushed.alloc w (.cells z.cells t)
        unfold Oper.wp
        rw [hrun]
        show next (a.put o.dst _) _
        rw [hdst]
        split at h
        · cases h
          -- nobody's block yet
          have e1 : Ext g st.H w g st.H (w.alloc (.cells z.cells t)) :=
            ⟨hp.os, hp.tape, hp.output, by rw [hp.size]; omega, fun β hb _ => hp.old hb, fun _ h => h, fun _ h => .inl h, fun _ h => .inl h, Nat.le_refl _, fun b k k' h1 h2 => by
              rw [h1] at h2; cases h2; exact Blk.to_refl g b k⟩
          have hr' : RH K g st.H (w.alloc (.cells z.cells t)) := by
            refine ⟨fun b k hb => ?_, hr.notS, hr.inj, fun β h => ?_, fun β h => ⟨(hr.base β h).1, by rw [hp.old (hr.below β (hr.base β h).1)]; exact (hr.base β h).2⟩⟩
            · by_cases hl : k.live = true
              · exact Blk.at_mono hr e1 rfl rfl rfl (hp.old (hr.live_lt ⟨b, k, hb, hl, rfl⟩)) (hr.at_ b k hb)
              · cases k <;> first | trivial | (exact absurd rfl hl)
            · have := hr.below β h
              rw [hp.size]; omega
          have hdn : d < a.tmps.size := Nat.lt_of_lt_of_le (hd' d hdst) hI.size
          have ht' := ht.mono hr e1
          refine hn _ _ ⟨⟨g, e0.trans e1, hr', ⟨fun s => ?_, fun s m hs => ?_, fun s s' m m' hs hs' he => ?_⟩⟩, by rw [Act.put_defers]; exact hI.defers, by rw [Act.put_size]; exact hI.size⟩
          · rw [put_getD hdn]
            simp only [upd]
            split
            · exact .fresh _ _
            · exact ht'.v s
          · rw [put_getD hdn]
            simp only [upd] at hs
            split at hs
            · rename_i hsd
              cases hs
              rw [if_pos hsd]
              exact ⟨w.heap.size, z.cells, t, rfl, e0.size, fun h => by have := hr.below _ h; omega, fun h => by have := hr.live_lt h; omega, hp.new, by rw [hzs, hsz]⟩
            · rename_i hsd
              rw [if_neg hsd]
              exact ht'.new s m hs
          · rw [put_getD hdn, put_getD hdn] at he
            have hold : ∀ s m, st.T s = .fresh m → a.tmps.getD s undef ≠ .pointer (some ⟨w.heap.size, 0, none⟩) := by
              intro s m hs he
              obtain ⟨β, arr, ty, q1, q2, q3, q4, q5, q6⟩ := ht.new s m hs
              rw [q1] at he
              cases he
              have := (Array.getElem?_eq_some_iff.1 q5).1
              omega
            simp only [upd] at hs hs'
            split at hs
            · rename_i hsd
              rw [if_pos hsd] at he
              split at hs'
              · rename_i hsd'; rw [hsd, hsd']
              · rename_i hsd'
                rw [if_neg hsd'] at he
                exact absurd he.symm (hold s' m' hs')
            · rename_i hsd
              rw [if_neg hsd] at he
              split at hs'
              · rename_i hsd'
                rw [if_pos hsd'] at he
                exact absurd he (hold s m hs)
              · rename_i hsd'
                rw [if_neg hsd'] at he
                exact ht.inj s s' m m' hs hs' he
        · obtain ⟨⟨b0, H0'⟩, hnb, he0⟩ := Option.map_eq_some_iff.1 h
          cases he0
          obtain ⟨v, w', g', h1, h2, h3, h4⟩ := box_sound (P := C.P) hr (m := .heap) (al := al) (t := t) (x := (ti C.P t).zero) (vx := z) (r := .ptr b0 1 0 0) (H' := H0') (by rw [hzz]; exact V_ofVal z) hz0.2 hz0.1 (by simp [hnb])
          have hbr : (Instr.box t z).run C.P w = .ok (.pointer (some ⟨w.heap.size, 0, none⟩)) (w.alloc (.cells z.cells t)) := by simp [Instr.box, newVar, newRow]
          rw [hbr] at h1
          cases h1
          have := hI.put e0 hr ht h2 h3 (d := some d) (r := .ptr b0 1 0 0) (fun t h => by cases h; exact hd' d hdst) h4 rfl
          exact hn _ _ this
      · cases h
    · cases h
  · obtain ⟨⟨r, H'⟩, hr1, he⟩ := Option.map_eq_some_iff.1 h
    obtain ⟨⟨r2, H2⟩, hc, hk⟩ := Option.bind_eq_some_iff.1 hr1
    obtain ⟨hk1, hk2⟩ := chk_some hk
    cases hk1
    cases he
    obtain ⟨v, w', g', h1, h2, h3, h4⟩ := evOp_sound (P := C.P) hr ht.v (o := o) hc
    unfold Oper.wp
    rcases h1 with h1 | ⟨h1, rfl⟩
    · rw [h1]
      exact hn _ _ (hI.put e0 hr ht h2 h3 hd' h4 hk2)
    · rw [h1]
      exact hn _ _ (hI.put e0 hr ht h2 h3 hd' h4 hk2)

theorem evWanted_sound {ops : Array Oper} {T : Slots} {a : Act} (ht : ∀ t, V g H w (T t) (a.tmps.getD t undef)) {o : Oper} {b : Bool} (h : evWanted ops T o = some b) : Region.wanted o (yielded ops a.tmps) = b := by
  unfold evWanted at h
  unfold Region.wanted
  split at h
  · rename_i hg; cases h; rw [hg]
  · rename_i j want hg
    rw [hg]
    simp only
    unfold yielded
    split at h
    · rename_i t hj
      rw [hj]
      simp only [Option.bind_some]
      have hv := ht t
      split at h
      · rename_i c hT
        cases h
        rw [hT] at hv
        have h1 := V.ofBool hv
        rw [Array.getD_eq_getD_getElem?] at h1
        cases hx : a.tmps[t]? with
        | none => rw [hx] at h1; cases h1
        | some u =>
          rw [hx] at h1
          simp only [Option.getD_some] at h1
          subst h1
          simp
      · rename_i vs hT
        cases h
        rw [hT] at hv
        obtain ⟨arr, h1, _⟩ := V.ofTup hv
        rw [Array.getD_eq_getD_getElem?] at h1
        cases hx : a.tmps[t]? with
        | none => simp
        | some u =>
          rw [hx] at h1
          simp only [Option.getD_some] at h1
          subst h1
          simp
      · cases h
    · cases h

/-- One operation, run or passed over. -/
theorem evGo_sound {C : Cfg} {X : Ctx} (hP : progOk C.P = true) (hX : CallsOK C.P K X) (hE : ExtOK C.P K C) {fid : FuncId} {q : Bool} {al : Option Nat} {N : Nat} {g0 : Gh} {H0 : Heap} {w0 : World} {st st' : St} {a : Act} {w : World} {ops : Array Oper} {i : Nat} {o : Oper} (hi : ops[i]? = some o)
    (hI : Inv K N g0 H0 w0 st a w) (hd : dstOk N o = true) (h : evGo C X fid q al ops o st = some st') {next : Act → World → Prop} {Q : Exit → Act → World → Prop}
    (hn : ∀ a' w', Inv K N g0 H0 w0 st' a' w' → next a' w') : wpOp C.P ops Q i next a w := by
  obtain ⟨g, e0, hr, ht⟩ := hI.rel
  unfold evGo at h
  unfold wpOp
  rw [hi]
  simp only
  split at h
  · rename_i hw
    rw [evWanted_sound ht.v hw]
    simp only [if_true]
    exact .inl (evStep_sound hP hX hE hI hd h hn)
  · rename_i hw
    cases h
    rw [evWanted_sound ht.v hw]
    simp only [Bool.false_eq_true, if_false]
    exact hn _ _ (hI.put e0 hr ht (Ext.refl _ _ _) hr (dstOk_spec hd) V_skip fresh_skip)
  · cases h

/-- A region whose order the text gives. -/
theorem evOps_sound {C : Cfg} {X : Ctx} (hP : progOk C.P = true) (hX : CallsOK C.P K X) (hE : ExtOK C.P K C) {fid : FuncId} {N : Nat} {g0 : Gh} {H0 : Heap} {w0 : World} {ops : Array Oper} {Q : Exit → Act → World → Prop} {st' : St} (hQ : ∀ a w, Inv K N g0 H0 w0 st' a w → Q .normal a w) :
    ∀ (l : List Oper) (i : Nat) {st : St} {a : Act} {w : World}, ops.toList.drop i = l → l.all (dstOk N) = true → Inv K N g0 H0 w0 st a w → evOps C X fid ops l st = some st' → wpOps C.P ops Q (List.range' i l.length) a w
  | [], _, st, a, w, _, _, hI, h => by cases h; exact hQ a w hI
  | o :: l, i, st, a, w, hl, hd, hI, h => by
    simp only [evOps] at h
    obtain ⟨st1, h1, h2⟩ := Option.bind_eq_some_iff.1 h
    simp only [List.all_cons, Bool.and_eq_true] at hd
    have hi : ops[i]? = some o := by
      have := congrArg List.head? hl
      rw [List.head?_drop] at this
      simpa using this
    rw [List.length_cons, List.range'_succ, wpOps_cons]
    refine evGo_sound hP hX hE hi hI hd.1 h1 fun a' w' hI' => evOps_sound hP hX hE hQ l (i + 1) ?_ hd.2 hI' h2
    rw [← List.drop_drop, hl]
    rfl

end
end Go.Ev
