/- The evaluator's operations are the machine's: those that leave the memory as it is. -/
import Derived.Test.YtpbmighaddkelaaGreatDoorE3
import Derived.WideLaws
namespace Go.Ev

/-- An operation has yielded a value, and the memory stands to the evaluator's as it should. -/
def OpPost (K : Base) (g : Gh) (H : Heap) (w : World) (H' : Heap) (r : AV) (res : Result Next) : Prop :=
  ∃ v w' g', (res = .ok (.value v) w' ∨ (res = .ok .skip w' ∧ v = undef)) ∧ Ext g H w g' H' w' ∧ RH K g' H' w' ∧ V g' H' w' r v

section
variable {P : Program} {K : Base} {g : Gh} {H : Heap} {w : World}

theorem post_same {r : AV} {v : Value} {res : Result Next} (hr : RH K g H w) (h : res = .ok (.value v) w) (hv : V g H w r v) : OpPost K g H w H r res :=
  ⟨v, w, g, .inl h, Ext.refl g H w, hr, hv⟩

theorem ev_intOp {op : BinOp} {k : IntKind} {a b : Int} {r : AV} {t : TypeId} {x y : Operand} (h : intOp op k a b = some r) (hs : op ≠ .shl ∧ op ≠ .shr) :
    ∃ v, (do eqGuard op t x y (.int k a) (.int k b); binOp op t (.int k a) (.int k b)).run P w = .ok v w ∧ V g H w r v := by
  cases op <;> simp only [intOp] at h <;> first | (cases h; done) | skip
  all_goals first
    | (cases h; exact ⟨_, by (simp [eqGuard, binOp, Op.intArith, Op.intBits, Op.intCmp] <;> rfl), by constructor⟩)
    | (split at h
       · cases h
       · rename_i hb; cases h; exact ⟨_, by (simp [eqGuard, binOp, Op.intDiv, hb] <;> rfl), by constructor⟩)
    | exact absurd rfl hs.1
    | exact absurd rfl hs.2

theorem ev_shl {k k' : IntKind} {a b : Int} {r : AV} {t : TypeId} {x y : Operand} (h : intOp .shl k a b = some r) :
    ∃ v, (do eqGuard .shl t x y (.int k a) (.int k' b); binOp .shl t (.int k a) (.int k' b)).run P w = .ok v w ∧ V g H w r v := by
  simp only [intOp] at h
  split at h
  · rename_i hb
    cases h
    have : ¬ b < 0 := by omega
    exact ⟨_, by (simp [eqGuard, binOp, Op.shift, this] <;> rfl), by constructor⟩
  · cases h

theorem ev_shr {k k' : IntKind} {a b : Int} {r : AV} {t : TypeId} {x y : Operand} (h : intOp .shr k a b = some r) :
    ∃ v, (do eqGuard .shr t x y (.int k a) (.int k' b); binOp .shr t (.int k a) (.int k' b)).run P w = .ok v w ∧ V g H w r v := by
  simp only [intOp] at h
  split at h
  · rename_i hb
    cases h
    have : ¬ b < 0 := by omega
    exact ⟨_, by (simp [eqGuard, binOp, Op.shift, this] <;> rfl), by constructor⟩
  · cases h

theorem ev_strOp {op : BinOp} {a b : ByteArray} {r : AV} {t : TypeId} {x y : Operand} (h : strOp op a b = some r) :
    ∃ v, (do eqGuard op t x y (.string a) (.string b); binOp op t (.string a) (.string b)).run P w = .ok v w ∧ V g H w r v := by
  cases op <;> simp only [strOp] at h <;> first | (cases h; done) | skip
  · split at h
    · rename_i hb
      cases h
      have hlt : ¬ ((a.size + b.size : Nat) : Int) > IntKind.i64.max := by
        have : IntKind.i64.max = 9223372036854775807 := by decide
        rw [this]; omega
      exact ⟨_, by (simp only [eqGuard, binOp, Op.stringOp, hlt]; simp <;> rfl), by constructor⟩
    · cases h
  · cases h; exact ⟨_, by (simp [eqGuard, binOp, Op.stringOp] <;> rfl), by constructor⟩
  · cases h; exact ⟨_, by (simp [eqGuard, binOp, Op.stringOp] <;> rfl), by constructor⟩

theorem tk_ptr {d : TypeDesc} {e : TypeId} (h : tk d = .ptr e) : d = .pointer e := by cases d <;> simp [tk] at h; rw [h]
theorem tk_bool {d : TypeDesc} (h : tk d = .bool) : d = .bool := by cases d <;> simp [tk] at h; rfl
theorem tk_iface {d : TypeDesc} (h : tk d = .iface) : ∃ ms, d = .interface ms := by cases d <;> simp [tk] at h; exact ⟨_, rfl⟩
theorem ti_ptr {t e : TypeId} (h : (ti P t).k = .ptr e) : P.underlying t = some (.pointer e) := by
  obtain ⟨i, d, _, h2, h3⟩ := ti_some (P := P) (t := t) (by rw [h]; simp)
  rw [h3] at h
  rw [h2, tk_ptr h]
theorem ti_bool {t : TypeId} (h : (ti P t).k = .bool) : P.underlying t = some .bool := by
  obtain ⟨i, d, _, h2, h3⟩ := ti_some (P := P) (t := t) (by rw [h]; simp)
  rw [h3] at h
  rw [h2, tk_bool h]
theorem ti_iface {t : TypeId} (h : (ti P t).k = .iface) : ∃ ms, P.underlying t = some (.interface ms) := by
  obtain ⟨i, d, _, h2, h3⟩ := ti_some (P := P) (t := t) (by rw [h]; simp)
  rw [h3] at h
  obtain ⟨ms, e⟩ := tk_iface h
  exact ⟨ms, by rw [h2, e]⟩

theorem tk_func {d : TypeDesc} (h : tk d = .func) : ∃ a b c, d = .func a b c := by cases d <;> simp [tk] at h; exact ⟨_, _, _, rfl⟩
theorem ti_func {t : TypeId} (h : (ti P t).k = .func) : ∃ a b c, P.underlying t = some (.func a b c) := by
  obtain ⟨i, d, _, h2, h3⟩ := ti_some (P := P) (t := t) (by rw [h]; simp)
  rw [h3] at h
  obtain ⟨a, b, c, e⟩ := tk_func h
  exact ⟨a, b, c, by rw [h2, e]⟩

theorem eqIn_nilif (d : Nat) {t : TypeId} {ms : Array (String × TypeId)} (h : P.underlying t = some (.interface ms)) : (Op.equalIn (d + 1) t .nilIface .nilIface).run P w = .ok true w := by
  simp [Op.equalIn, run_underlying h]
theorem eqIn_func (d : Nat) {t : TypeId} {a1 a2 : Array TypeId} {a3 : Bool} (h : P.underlying t = some (.func a1 a2 a3)) (f : Fn) (x y : Array Value) : (Op.equalIn (d + 1) t (.func f x y) .nilFunc).run P w = .ok false w := by
  simp [Op.equalIn, run_underlying h]
theorem eqIn_nilfn (d : Nat) {t : TypeId} {a1 a2 : Array TypeId} {a3 : Bool} (h : P.underlying t = some (.func a1 a2 a3)) : (Op.equalIn (d + 1) t .nilFunc .nilFunc).run P w = .ok true w := by
  simp [Op.equalIn, run_underlying h]
theorem eqIn_bool (d : Nat) {t : TypeId} (h : P.underlying t = some .bool) (a b : Bool) : (Op.equalIn (d + 1) t (.bool a) (.bool b)).run P w = .ok (a == b) w := by
  simp [Op.equalIn, run_underlying h]
theorem eqIn_iface (d : Nat) {t : TypeId} {ms : Array (String × TypeId)} (h : P.underlying t = some (.interface ms)) (u : TypeId) (v : Value) : (Op.equalIn (d + 1) t (.iface u v) .nilIface).run P w = .ok false w := by
  simp [Op.equalIn, run_underlying h]
theorem eqIn_slice (d : Nat) {t e : TypeId} (h : P.underlying t = some (.slice e)) (a : Option Addr) (l c : Nat) : (Op.equalIn (d + 1) t (.slice a l c) (.slice none 0 0)).run P w = .ok a.isNone w := by
  cases a <;> simp [Op.equalIn, run_underlying h]
theorem eqIn_ptr (d : Nat) {t e : TypeId} (h : P.underlying t = some (.pointer e)) (a : Option Addr) : (Op.equalIn (d + 1) t (.pointer a) (.pointer none)).run P w = .ok a.isNone w := by
  cases a <;> simp [Op.equalIn, run_underlying h]

/-- '==' and '!=' where the machine's equality is known. -/
theorem ev_eqOp {op : BinOp} {b : Bool} {r : AV} {t : TypeId} {x y : Operand} {va vb : Value} (h : eqOp op b = some r)
    (hg : ∀ op, (eqGuard op t x y va vb) = pure ()) (he : (Op.equal t va vb).run P w = .ok b w)
    (hb : ∀ op, op = .eql ∨ op = .neq → binOp op t va vb = (match op with | .eql => do pure (.bool (← Op.equal t va vb)) | _ => do pure (.bool (!(← Op.equal t va vb))))) :
    ∃ v, (do eqGuard op t x y va vb; binOp op t va vb).run P w = .ok v w ∧ V g H w r v := by
  cases op <;> simp only [eqOp] at h <;> first | (cases h; done) | skip
  · cases h; exact ⟨.bool b, by rw [hg, hb _ (.inl rfl)]; simp [he], .bool b⟩
  · cases h; exact ⟨.bool !b, by rw [hg, hb _ (.inr rfl)]; simp [he], .bool _⟩

theorem evBin_sound {op : BinOp} {t : TypeId} {x y : Operand} {p q r : AV} {vp vq : Value} (hp : V g H w p vp) (hq : V g H w q vq)
    (h : evBin H (ti P t).k (isConst x || isConst y) op p q = some r) : ∃ v, (do eqGuard op t x y vp vq; binOp op t vp vq).run P w = .ok v w ∧ V g H w r v := by
  unfold evBin at h
  split at h
  · cases hp; cases hq
    split at h
    · exact ev_shl h
    · exact ev_shr h
    · rename_i h1 h2
      split at h
      · rename_i hk; subst hk; exact ev_intOp h ⟨h1, h2⟩
      · cases h
  · cases hp; cases hq; exact ev_strOp h
  · cases hp; cases hq
    split at h
    · rename_i hk
      refine ev_eqOp h (fun op => by cases op <;> rfl) ?_ (fun op ho => by rcases ho with rfl | rfl <;> rfl)
      exact eqIn_bool 9999 (ti_bool hk) _ _
    · cases h
  · cases hp; cases hq
    split at h
    · rename_i hk
      obtain ⟨ms, hu⟩ := ti_iface hk
      refine ev_eqOp h (fun op => by cases op <;> rfl) ?_ (fun op ho => by rcases ho with rfl | rfl <;> rfl)
      exact eqIn_iface 9999 hu _ _
    · cases h
  · cases hp; cases hq
    split at h
    · rename_i hk hc
      obtain ⟨ms, hu⟩ := ti_iface hk
      refine ev_eqOp h (fun op => ?_) ?_ (fun op ho => by rcases ho with rfl | rfl <;> rfl)
      · unfold eqGuard
        cases op <;> first | rfl | skip
        all_goals (cases x <;> cases y <;> first | rfl | (simp [isConst] at hc))
      · exact eqIn_nilif 9999 hu
    · cases h
  · split at h
    · rename_i hk
      cases hq with
      | zsl _ a h1 h2 =>
        obtain rfl := h1 rfl
        cases hp
        refine ev_eqOp h (fun op => by cases op <;> rfl) ?_ (fun op ho => by rcases ho with rfl | rfl <;> rfl)
        exact eqIn_slice 9999 (ti_slice hk) _ _ _
    · cases h
  · split at h
    · rename_i hk
      obtain ⟨xs, hxs, h⟩ := Option.bind_eq_some_iff.1 h
      obtain ⟨⟨z0, hb, _⟩, hn⟩ := arrOf_some hxs
      cases hq with
      | zsl _ a h1 h2 =>
        obtain rfl := h1 rfl
        cases hp with
        | own _ _ _ _ _ hv =>
          obtain rfl := (hv z0 xs hb).2 hn.symm
          refine ev_eqOp h (fun op => by cases op <;> rfl) ?_ (fun op ho => by rcases ho with rfl | rfl <;> rfl)
          exact eqIn_slice 9999 (ti_slice hk) _ _ _
    · cases h
  · split at h
    · rename_i hk
      cases hq with
      | zsl _ a h1 h2 =>
        obtain rfl := h1 rfl
        cases hp with
        | zsl n a' h3 h4 =>
          refine ev_eqOp h (fun op => by cases op <;> rfl) ?_ (fun op ho => by rcases ho with rfl | rfl <;> rfl)
          have key : ∀ n : Bool, (n = true → a' = none) → (n = false → a'.isSome = true) → (Op.equal t (.slice a' 0 0) (.slice none 0 0)).run P w = .ok n w := by
            intro n h3 h4
            cases n with
            | true => obtain rfl := h3 rfl; exact eqIn_slice 9999 (ti_slice hk) _ _ _
            | false =>
              cases a' with
              | none => simp at h4
              | some a' => exact eqIn_slice 9999 (ti_slice hk) _ _ _
          exact key _ h3 h4
    · cases h
  · split at h
    · rename_i hk
      obtain ⟨xs, hxs, h⟩ := Option.bind_eq_some_iff.1 h
      obtain ⟨⟨z0, hb, _⟩, hn⟩ := arrOf_some hxs
      cases hq
      cases hp with
      | ptr _ _ _ _ _ _ _ hv =>
        obtain rfl := (hv z0 xs hb).2 hn.symm
        refine ev_eqOp h (fun op => by cases op <;> rfl) ?_ (fun op ho => by rcases ho with rfl | rfl <;> rfl)
        exact eqIn_ptr 9999 (ti_ptr hk) _
    · cases h
  · split at h
    · rename_i hk
      cases hq
      cases hp
      refine ev_eqOp h (fun op => by cases op <;> rfl) ?_ (fun op ho => by rcases ho with rfl | rfl <;> rfl)
      exact eqIn_ptr 9999 (ti_ptr hk) _
    · cases h
  · split at h
    · rename_i hk
      cases hq
      cases hp
      refine ev_eqOp h (fun op => by cases op <;> rfl) ?_ (fun op ho => by rcases ho with rfl | rfl <;> rfl)
      exact eqIn_ptr 9999 (ti_ptr hk) _
    · cases h
  · split at h
    · rename_i hk
      cases hq
      cases hp
      obtain ⟨a1, a2, a3, hu⟩ := ti_func hk
      refine ev_eqOp h (fun op => by cases op <;> rfl) ?_ (fun op ho => by rcases ho with rfl | rfl <;> rfl)
      exact eqIn_func 9999 hu _ _ _
    · cases h
  · split at h
    · rename_i hk
      cases hq
      cases hp
      obtain ⟨a1, a2, a3, hu⟩ := ti_func hk
      refine ev_eqOp h (fun op => by cases op <;> rfl) ?_ (fun op ho => by rcases ho with rfl | rfl <;> rfl)
      exact eqIn_nilfn 9999 hu
    · cases h
  · cases h

theorem evUn_sound {op : UnOp} {p r : AV} {vp : Value} (hp : V g H w p vp) (h : evUn op p = some r) : ∃ v, (Op.unary op vp).run P w = .ok v w ∧ V g H w r v := by
  unfold evUn at h
  split at h
  · cases hp
    split at h
    · cases h; exact ⟨_, by simp [Op.unary] <;> rfl, by constructor⟩
    · cases h
  · cases hp
    split at h
    · cases h; exact ⟨.int _ (_), rfl, .int _ _⟩
    · cases h
  · cases h

end
end Go.Ev
