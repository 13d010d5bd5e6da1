/- The evaluator's answer is the machine's: code, loops, calls. -/
import Derived.Test.YtpbmighaddkelaaGreatDoorE16
namespace Go.Ev

/-- Every region whose order is drawn, and which the evaluator takes, may be taken in any order. -/
def codeD (C : Cfg) (fid : FuncId) : Code → Bool
  | .region id ops d => !(d && C.dk fid id) || drawOk C fid (C.vd fid id) ops
  | .seq a b => codeD C fid a && codeD C fid b
  | .cond _ a b => codeD C fid a && codeD C fid b
  | .block _ c => codeD C fid c
  | .loop c => codeD C fid c
  | _ => true

def drawsOk (C : Cfg) : Bool := C.P.funcs.toList.zipIdx.all fun p => match p.1.body with | some c => codeD C p.2 c | none => true

def toExit : Ex → Exit
  | .normal => .normal
  | .exit i => .exit i
  | .ret => .ret

/-- A loop from a round's beginning on. -/
def LoopWp (P : Program) (c : Code) (Q : Exit → Act → World → Prop) (a : Act) (w : World) : Prop :=
  ∀ (b : Frame) (k : List Item) (cs : List Frame), ∃ e a' w', Q e a' w' ∧ Arrives P (lone (b.at a (.code c :: .inLoop c :: k)) cs w) b k cs e a' w'

theorem wp_of_loop {P : Program} {c : Code} {Q : Exit → Act → World → Prop} {a : Act} {w : World} (h : LoopWp P c Q a w) : (Code.loop c).wp P Q a w :=
  fun b k cs => let ⟨e, a', w', q, r⟩ := h b k cs; ⟨e, a', w', q, .of_steps (.one step_loop) r⟩

theorem loop_round {P : Program} {c : Code} {Q : Exit → Act → World → Prop} {a : Act} {w : World} (h : c.wp P (Exit.then (LoopWp P c Q) Q) a w) : LoopWp P c Q a w := by
  intro b k cs
  obtain ⟨e, a₁, w₁, hq, harr⟩ := h b (.inLoop c :: k) cs
  cases e with
  | normal =>
    obtain ⟨e₂, a₂, w₂, hq₂, harr₂⟩ := hq b k cs
    exact ⟨e₂, a₂, w₂, hq₂, .of_steps (Steps.trans harr (.one step_inLoop)) harr₂⟩
  | exit id => exact ⟨_, a₁, w₁, hq, .pass (x := .inLoop c) rfl (fun _ _ => .inl (by simp)) harr⟩
  | goto l => exact ⟨_, a₁, w₁, hq, .pass (x := .inLoop c) rfl (fun _ _ => .inl (by simp)) harr⟩
  | ret => exact ⟨_, a₁, w₁, hq, .pass (x := .inLoop c) rfl (fun _ _ => .inl (by simp)) harr⟩
  | panic ch => exact ⟨_, a₁, w₁, hq, .pass (x := .inLoop c) rfl (fun _ _ => .inl (by simp)) harr⟩
  | outgrown => exact ⟨_, a₁, w₁, hq, .pass (x := .inLoop c) rfl (fun _ _ => .inl (by simp)) harr⟩

section
variable {K : Base}

def Done (K : Base) (N : Nat) (g0 : Gh) (H0 : Heap) (w0 : World) (ex : Ex) (st : St) : Exit → Act → World → Prop := fun e a w => e = toExit ex ∧ Inv K N g0 H0 w0 st a w

def LoopsOK (C : Cfg) (K : Base) (X : Ctx) : Prop :=
  ∀ fid c st ex st', X.loop fid c st = some (ex, st') → ∀ N g0 H0 w0 a w, codeOk N c = true → codeD C fid c = true → Inv K N g0 H0 w0 st a w → LoopWp C.P c (Done K N g0 H0 w0 ex st') a w

theorem Inv.drew {N : Nat} {g0 : Gh} {H0 : Heap} {w0 : World} {st : St} {a : Act} {w w' : World} (hI : Inv K N g0 H0 w0 st a w) (h1 : w'.heap = w.heap) (h2 : w'.os = w.os) (h3 : w'.tape = w.tape) (h4 : w'.output = w.output) : Inv K N g0 H0 w0 st a w' := by
  obtain ⟨g, e0, hr, ht⟩ := hI.rel
  have e1 : Ext g st.H w g st.H w' :=
    ⟨h2, h3, h4, by rw [h1]; exact Nat.le_refl _, fun β _ _ => by rw [h1], fun _ h => h, fun _ h => .inl h, fun _ h => .inl h, Nat.le_refl _, fun b k k' q1 q2 => by
      rw [q1] at q2; cases q2; exact Blk.to_refl g b k⟩
  refine ⟨⟨g, e0.trans e1, ⟨fun b k hb => ?_, hr.notS, hr.inj, fun β h => by rw [h1]; exact hr.below β h, fun β h => ⟨(hr.base β h).1, by rw [h1]; exact (hr.base β h).2⟩⟩, ht.mono hr e1⟩, hI.defers, hI.size⟩
  by_cases hl : k.live = true
  · exact Blk.at_mono hr e1 rfl rfl rfl (by rw [h1]) (hr.at_ b k hb)
  · cases k <;> first | trivial | (exact absurd rfl hl)

/-- Places for blocks that are still to be made. -/
theorem Inv.voids {N : Nat} {g0 : Gh} {H0 : Heap} {w0 : World} {st : St} {a : Act} {w : World} (hI : Inv K N g0 H0 w0 st a w) (n : Nat) : Inv K N g0 H0 w0 ⟨st.T, st.H ++ List.replicate n .void⟩ a w := by
  obtain ⟨g, e0, hr, ht⟩ := hI.rel
  have hget : ∀ (b : Nat) (k : Blk), (st.H ++ List.replicate n Blk.void)[b]? = some k → st.H[b]? = some k ∨ k = .void := by
    intro b k hb
    by_cases hl : b < st.H.length
    · rw [List.getElem?_append_left hl] at hb; exact .inl hb
    · rw [List.getElem?_append_right (by omega), List.getElem?_replicate] at hb
      split at hb
      · cases hb; exact .inr rfl
      · cases hb
  have hlive : ∀ β, Live g (st.H ++ List.replicate n Blk.void) β → Live g st.H β := by
    rintro β ⟨b, k, hb, hl, rfl⟩
    rcases hget b k hb with h | rfl
    · exact ⟨b, k, h, hl, rfl⟩
    · cases hl
  have e1 : Ext g st.H w g (st.H ++ List.replicate n Blk.void) w :=
    ⟨rfl, rfl, rfl, Nat.le_refl _, fun _ _ _ => rfl, fun _ h => h, fun _ h => .inl h, fun β h => .inl (hlive β h), by simp, fun b k k' h1 h2 => by
      have hb : b < st.H.length := (List.getElem?_eq_some_iff.1 h1).1
      rw [List.getElem?_append_left hb, h1] at h2
      cases h2
      exact Blk.to_refl g b k⟩
  refine ⟨⟨g, e0.trans e1, ⟨fun b k hb => ?_, fun β h => hr.notS β (hlive β h), fun b b' k k' hb hb' hl hl' => ?_, hr.below, hr.base⟩, ht.mono hr e1⟩, hI.defers, hI.size⟩
  · rcases hget b k hb with h | rfl
    · by_cases hl : k.live = true
      · exact Blk.at_mono hr e1 rfl rfl rfl rfl (hr.at_ b k h)
      · cases k <;> first | trivial | (exact absurd rfl hl)
    · trivial
  · rcases hget b k hb with h | rfl
    · rcases hget b' k' hb' with h' | rfl
      · exact hr.inj b b' k k' h h' hl hl'
      · cases hl'
    · cases hl

theorem evC_sound {C : Cfg} {X : Ctx} (hP : progOk C.P = true) (hM : C.P.follows .mixedOrders = true) (hX : CallsOK C.P K X) (hE : ExtOK C.P K C) (hL : LoopsOK C K X) {fid : FuncId} {N : Nat} {g0 : Gh} {H0 : Heap} {w0 : World} :
    ∀ (c : Code) {st st' : St} {ex : Ex} {a : Act} {w : World}, codeOk N c = true → codeD C fid c = true → Inv K N g0 H0 w0 st a w → evC C X fid c st = some (ex, st') → c.wp C.P (Done K N g0 H0 w0 ex st') a w
  | .skip, st, st', ex, a, w, _, _, hI, h => by cases h; exact wp_skip ⟨rfl, hI⟩
  | .label l, st, st', ex, a, w, _, _, hI, h => by cases h; exact wp_label ⟨rfl, hI⟩
  | .exit id, st, st', ex, a, w, _, _, hI, h => by cases h; exact wp_exit ⟨rfl, hI⟩
  | .ret, st, st', ex, a, w, _, _, hI, h => by cases h; exact wp_ret ⟨rfl, hI⟩
  | .region id ops d, st, st', ex, a, w, hk, hd, hI, h => by
    simp only [evC] at h
    simp only [codeOk] at hk
    cases d with
    | false =>
        simp only [Bool.false_eq_true, if_false] at h
        obtain ⟨s, hs, he⟩ := Option.map_eq_some_iff.1 h
        cases he
        refine wp_region ?_
        have := evOps_sound hP hX hE (Q := Done K N g0 H0 w0 .normal st') (fun a w hI => ⟨rfl, hI⟩) ops.toList 0 (by simp) hk hI hs
        rwa [Array.length_toList, ← List.range_eq_range'] at this
    | true =>
        simp only [if_true] at h
        split at h
        case isFalse => cases h
        rename_i hdk'
        obtain ⟨s, hs, he⟩ := Option.map_eq_some_iff.1 h
        cases he
        have hdr : drawOk C fid (C.vd fid id) ops = true := by simpa [codeD, hdk'] using hd
        refine wp_region_any hM ?_
        rw [evDraw_evL ops.toList 0 _ (by simp)] at hs
        have hI2 : Inv K N g0 H0 w0 (if C.vd fid id = true then ⟨st.T, st.H ++ List.replicate ops.size .void⟩ else st) a w := by
          split
          · exact hI.voids _
          · exact hI
        have hleft : left ops.size (Array.replicate ops.size false) = List.range ops.size := by
          unfold left
          refine List.filter_eq_self.2 fun k hk => ?_
          have : k < ops.size := by simpa using hk
          simp [Array.getD_eq_getD_getElem?, this]
        refine draw_sound hP hX hE (base := st.H.length) (Q := Done K N g0 H0 w0 .normal st') (fun a w hI => ⟨rfl, hI⟩) hdr hk ops.size _ (by simp) (fun i oi _ hl => by
          rw [Array.getD_eq_getD_getElem?, Array.getElem?_replicate] at hl
          split at hl <;> simp at hl) (by rw [hleft]; simp) (hI2.drew rfl rfl rfl rfl) ?_
        rw [hleft, List.range_eq_range']
        simpa using hs
  | .seq x y, st, st', ex, a, w, hk, hd, hI, h => by
    simp only [codeOk, Bool.and_eq_true] at hk
    simp only [codeD, Bool.and_eq_true] at hd
    simp only [evC] at h
    split at h
    · rename_i s hs
      refine wp_seq (wp_mono (evC_sound hP hM hX hE hL x hk.1 hd.1 hI hs) ?_)
      rintro e a w ⟨rfl, hI'⟩
      exact evC_sound hP hM hX hE hL y hk.2 hd.2 hI' h
    · rename_i hne
      refine wp_seq (wp_mono (evC_sound hP hM hX hE hL x hk.1 hd.1 hI h) ?_)
      rintro e a w ⟨rfl, hI'⟩
      cases ex with
      | normal => exact absurd h (hne _)
      | exit i => exact ⟨rfl, hI'⟩
      | ret => exact ⟨rfl, hI'⟩
  | .cond c x y, st, st', ex, a, w, hk, hd, hI, h => by
    simp only [codeOk, Bool.and_eq_true] at hk
    simp only [codeD, Bool.and_eq_true] at hd
    simp only [evC] at h
    obtain ⟨g, e0, hr, ht⟩ := hI.rel
    have hc := V_op ht.v c
    split at h
    · rename_i hb
      rw [hb] at hc
      exact wp_cond_true (V.ofBool hc) (evC_sound hP hM hX hE hL x hk.1 hd.1 hI h)
    · rename_i hb
      rw [hb] at hc
      exact wp_cond_false (V.ofBool hc) (evC_sound hP hM hX hE hL y hk.2 hd.2 hI h)
    · cases h
  | .block id c, st, st', ex, a, w, hk, hd, hI, h => by
    simp only [codeOk] at hk
    simp only [codeD] at hd
    simp only [evC] at h
    split at h
    · rename_i j s hs
      refine wp_block (wp_mono (evC_sound hP hM hX hE hL c hk hd hI hs) ?_)
      rintro e a w ⟨rfl, hI'⟩
      split at h
      · rename_i hj
        cases h
        show if j = id then _ else _
        rw [if_pos hj]; exact ⟨rfl, hI'⟩
      · rename_i hj
        cases h
        show if j = id then _ else _
        rw [if_neg hj]; exact ⟨rfl, hI'⟩
    · rename_i hne
      refine wp_block (wp_mono (evC_sound hP hM hX hE hL c hk hd hI h) ?_)
      rintro e a w ⟨rfl, hI'⟩
      cases ex with
      | normal => exact ⟨rfl, hI'⟩
      | exit i => exact absurd h (hne _ _)
      | ret => exact ⟨rfl, hI'⟩
  | .loop c, st, st', ex, a, w, hk, hd, hI, h => by
    simp only [codeOk] at hk
    simp only [codeD] at hd
    simp only [evC] at h
    exact wp_of_loop (hL fid c st ex st' h N g0 H0 w0 a w hk hd hI)
  | .goto _, _, _, _, _, _, _, _, _, h => by simp [evC] at h

theorem evLoop_sound {C : Cfg} {X : Ctx} (hP : progOk C.P = true) (hM : C.P.follows .mixedOrders = true) (hX : CallsOK C.P K X) (hE : ExtOK C.P K C) (hL : LoopsOK C K X) : ∀ fid c st ex st', evLoop C X fid c st = some (ex, st') → ∀ N g0 H0 w0 a w, codeOk N c = true → codeD C fid c = true → Inv K N g0 H0 w0 st a w → LoopWp C.P c (Done K N g0 H0 w0 ex st') a w := by
  intro fid c st ex st' h N g0 H0 w0 a w hk hd hI
  unfold evLoop at h
  split at h
  · rename_i s hs
    refine loop_round (wp_mono (evC_sound hP hM hX hE hL c hk hd hI hs) ?_)
    rintro e a w ⟨rfl, hI'⟩
    exact hL fid c s ex st' h N g0 H0 w0 a w hk hd hI'
  · rename_i hne
    refine loop_round (wp_mono (evC_sound hP hM hX hE hL c hk hd hI h) ?_)
    rintro e a w ⟨rfl, hI'⟩
    cases ex with
    | normal => exact absurd h (hne _)
    | exit i => exact ⟨rfl, hI'⟩
    | ret => exact ⟨rfl, hI'⟩

theorem evLoad_addr {P : Program} {g : Gh} {H : Heap} {w : World} (hr : RH K g H w) {t : TypeId} {p r : AV} {v : Value} (hp : V g H w p v) (h : evLoad P H t p = some r) : ∃ ad u, v = .pointer (some ad) ∧ (loadVar t ad).run P w = .ok u w ∧ V g H w r u := by
  obtain ⟨u, h1, h2⟩ := evLoad_sound (P := P) hr hp h
  have : ∃ ad, v = .pointer (some ad) := by
    unfold evLoad at h
    split at h
    · exact V.ofPtrI hp
    · rename_i b n i o
      obtain ⟨xs, hxs, _⟩ := Option.bind_eq_some_iff.1 h
      obtain ⟨⟨z0, hH, _⟩, hn⟩ := arrOf_some hxs
      cases hp with
      | ptr _ _ _ _ _ _ _ hv => exact ⟨_, (hv z0 xs hH).2 hn.symm⟩
    · cases h
  obtain ⟨ad, rfl⟩ := this
  exact ⟨ad, u, rfl, by simpa [Instr.loadAt, Instr.sureAddr] using h1, h2⟩

def resOf (tmps : Array Value) : ResultVar → Sem Value
  | .tmp t => pure (tmps.getD t undef)
  | .cell a t => do loadVar t (← asAddr (tmps.getD a undef))

theorem results_eq (fn : Func) (tmps : Array Value) : results fn tmps = (do let vs ← fn.results.mapM (resOf tmps); pure (if h : vs.size = 1 then vs[0] else .tuple vs)) := by
  unfold results
  congr 1

theorem evResults_sound {P : Program} {g : Gh} {H : Heap} {w : World} (hr : RH K g H w) {st : St} {a : Act} (hst : st.H = H) (ht : ∀ t, V g H w (st.T t) (a.tmps.getD t undef)) : ∀ (l : List ResultVar) (vs : List AV), evResults P st l = some vs →
    ∃ us : List Value, (l.mapM (resOf a.tmps)).run P w = .ok us w ∧ us.length = vs.length ∧ ∀ i, i < vs.length → V g H w (vs.getD i .und) (us.getD i undef)
  | [], vs, h => by cases h; exact ⟨[], by simp, rfl, fun i hi => by simp at hi⟩
  | x :: l, vs, h => by
    simp only [evResults] at h
    obtain ⟨v, hv, h⟩ := Option.bind_eq_some_iff.1 h
    obtain ⟨vs', hvs, rfl⟩ := Option.map_eq_some_iff.1 h
    obtain ⟨us, h1, h2, h3⟩ := evResults_sound hr hst ht l vs' hvs
    have key : ∃ u, (resOf a.tmps x).run P w = .ok u w ∧ V g H w v u := by
      cases x with
      | tmp t => cases hv; exact ⟨_, by simp [resOf] <;> rfl, ht t⟩
      | cell x t =>
        simp only [evRes, hst] at hv
        obtain ⟨ad, u, q1, q2, q3⟩ := evLoad_addr hr (ht x) hv
        exact ⟨u, by simp [resOf, q1, asAddr, q2], q3⟩
    obtain ⟨u, q1, q2⟩ := key
    refine ⟨u :: us, ?_, by simp [h2], fun i hi => ?_⟩
    · rw [List.mapM_cons]
      simp only [Sem.run_bind, Sem.run_pure, q1, Result.andThen_ok, h1]
    · cases i with
      | zero => simpa using q2
      | succ i => simpa using h3 i (by simpa using hi)

theorem evFn_sound {C : Cfg} {X : Ctx} (hP : progOk C.P = true) (hM : C.P.follows .mixedOrders = true) (hDr : drawsOk C = true) (hX : CallsOK C.P K X) (hE : ExtOK C.P K C) (hL : LoopsOK C K X) : CallsOK C.P K ⟨evFn C X, evLoop C X⟩ := by
  intro f args H r H' h
  simp only [evFn] at h
  split at h
  · cases h
  · rename_i hfr
    split at h
    · rename_i fn hfn
      split at h
      · rename_i c hc
        refine ⟨⟨fn, hfn, by rw [hc]; rfl⟩, fun g w vs hr ha => ?_⟩
        have hok := progOk_fn hP hfn
        simp only [fnOk, hc, Bool.and_eq_true] at hok
        have hD : codeD C f c = true := by
          have h1 : f < C.P.funcs.size := (Array.getElem?_eq_some_iff.1 hfn).1
          have h2 := List.all_eq_true.1 hDr (fn, f) (by
            rw [List.mem_zipIdx_iff_getElem?]
            rw [Array.getElem?_toList]; exact hfn)
          simpa [hc] using h2
        have hnf : ∀ t n, slots args t ≠ .fresh n := by
          intro t n he
          apply hfr
          rw [List.any_eq_true]
          simp only [slots] at he
          have hlt : t < args.length := by
            rcases Nat.lt_or_ge t args.length with h | h
            · exact h
            · simp [List.getD_eq_getElem?_getD, List.getElem?_eq_none h] at he
          refine ⟨args[t], List.getElem_mem hlt, ?_⟩
          rw [List.getD_eq_getElem?_getD, List.getElem?_eq_getElem hlt] at he
          simp only [Option.getD_some] at he
          rw [he]; rfl
        have hI : Inv K fn.ntmps g H w ⟨slots args, H⟩ { tmps := vs ++ Array.replicate (fn.ntmps - vs.size) undef, defers := [] } w := by
          refine ⟨⟨g, Ext.refl _ _ _, hr, ⟨fun t => ?_, fun t n he => absurd he (hnf t n), fun t t' n n' he => absurd he (hnf t n)⟩⟩, rfl, by simp; omega⟩
          simp only [slots]
          by_cases hlt : t < args.length
          · rw [getD_append_l _ _ _ (by rw [ha.1]; exact hlt)]
            exact ha.2 t hlt
          · rw [List.getD_eq_getElem?_getD, List.getElem?_eq_none (by omega)]
            exact .und _
        have fin : ∀ ex st, (ex = .ret ∨ ex = .normal) → evC C X f c ⟨slots args, H⟩ = some (ex, st) → (evResults C.P st fn.results.toList).map (fun vs => (oneOf vs, st.H)) = some (r, H') → Calls C.P f vs w (CallPost K g H w r H') := by
          intro ex st hex hev hres
          obtain ⟨rs, hrs, he⟩ := Option.map_eq_some_iff.1 hres
          cases he
          refine calls_of_wp hfn hc (wp_mono (evC_sound hP hM hX hE hL c hok.2 hD hI hev) ?_)
          rintro e a' w' ⟨rfl, hI'⟩
          obtain ⟨g', e1, hr', ht'⟩ := hI'.rel
          obtain ⟨us, u1, u2, u3⟩ := evResults_sound (P := C.P) hr' rfl ht'.v fn.results.toList rs hrs
          have hrun : ∃ v, (results fn a'.tmps).run C.P w' = .ok v w' ∧ V g' st.H w' (oneOf rs) v := by
            rw [results_eq, Array.mapM_eq_mapM_toList]
            refine ⟨if h : us.toArray.size = 1 then us.toArray[0] else .tuple us.toArray, ?_, ?_⟩
            · simp only [Sem.run_bind, Sem.run_map]
              rw [u1]
              simp
            · match rs, us, u2, u3 with
              | [], [], _, _ => exact .tup [] #[] rfl fun i hi => by simp at hi
              | [x], [u], _, h3 => simpa [oneOf] using h3 0 (by simp)
              | x :: y :: l, u :: v :: m, h2, h3 =>
                have hne : ¬ (u :: v :: m).toArray.size = 1 := by simp
                rw [dif_neg hne]
                refine .tup _ _ (by simpa using h2) fun i hi => ?_
                have := h3 i hi
                simpa [List.getD_eq_getElem?_getD, Array.getD_eq_getD_getElem?] using this
              | [], _ :: _, h, _ => simp at h
              | _ :: _, [], h, _ => simp at h
              | [_], _ :: _ :: _, h, _ => simp at h
              | _ :: _ :: _, [_], h, _ => simp at h
          obtain ⟨v, hv1, hv2⟩ := hrun
          have hpost : CallPost K g H w (oneOf rs) st.H (.returned v) w' := ⟨v, g', rfl, e1, hr', hv2⟩
          rcases hex with rfl | rfl
          · exact ⟨hI'.defers, v, hv1, hpost⟩
          · exact ⟨hI'.defers, v, hv1, hpost⟩
        split at h
        · rename_i st hev; exact fin _ _ (.inl rfl) hev h
        · rename_i st hev; exact fin _ _ (.inr rfl) hev h
        · cases h
      · cases h
    · cases h

/-- THE EVALUATOR'S ANSWER IS THE MACHINE'S. -/
theorem ev_sound {C : Cfg} (hP : progOk C.P = true) (hM : C.P.follows .mixedOrders = true) (hDr : drawsOk C = true) (hE : ExtOK C.P K C) : ∀ n, CallsOK C.P K (ev C n) ∧ LoopsOK C K (ev C n)
  | 0 => ⟨fun f args H r H' h => by simp [ev] at h, fun fid c st ex st' h => by simp [ev] at h⟩
  | n + 1 => by
    obtain ⟨h1, h2⟩ := ev_sound hP hM hDr hE n
    exact ⟨evFn_sound hP hM hDr h1 hE h2, evLoop_sound hP hM h1 hE h2⟩

end
end Go.Ev
