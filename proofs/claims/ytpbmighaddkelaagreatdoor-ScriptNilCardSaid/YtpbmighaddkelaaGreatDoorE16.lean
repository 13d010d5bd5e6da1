/- A region whose order is drawn: whatever the order, the evaluator's answer is the machine's. -/
import Derived.Test.YtpbmighaddkelaaGreatDoorE15
namespace Go.Ev

/-- What an operation has to do with the evaluator's memory: nothing; it reads; it makes memory at its own place; anything. -/
inductive Cls where
  | blind | reader | alloc | loud
  deriving DecidableEq

def clsNew (m : Mode) (v : Bool) : Cls := match m with
  | .imm => .blind
  | .heap => if v then .alloc else .loud

def clsOp (P : Program) (m : Mode) (v : Bool) : Op → Cls
  | .move _ | .assign _ | .pick _ _ _ | .unOp _ _ _ | .makeInterface _ _ | .makeFunc _ _ _ | .field _ _ _ | .index _ _ _ | .typeAssert _ _ _ _ | .extract _ _ | .build _ _ => .blind
  | .binOp _ t _ _ _ => match (ti P t).k with
    | .slice _ | .ptr _ => .reader
    | _ => .blind
  | .slice t _ _ _ none => match (ti P t).k with
    | .str => .blind
    | _ => .reader
  | .lookup _ _ _ _ | .load _ _ | .nilCheck _ | .slice _ _ _ _ (some _) | .fieldAddr _ _ _ | .indexAddr _ _ _ => .reader
  | .box _ _ | .buildSlice _ _ _ => clsNew m v
  | .convert _ _ _ => match m with
    | .imm => .reader
    | .heap => .loud
  | .makeSlice _ _ _ | .makeMap _ _ => if v then .alloc else .loud
  | .call c => match c.callee with
    | .builtin .len => .reader
    | .builtin .max | .builtin .min => .blind
    | _ => .loud
  | _ => .loud

def cls (C : Cfg) (fid : FuncId) (v : Bool) (o : Oper) : Cls :=
  match opk o.op with
  | .call c => match c.callee with
    | .value (.func g) => if C.sol g then .reader else .blind
    | _ => .reader
  | .store _ a _ => if immAt C fid a then .blind else .loud
  | .alloc _ => clsNew (C.md fid (o.dst.getD 0)) v
  | .other => clsOp C.P (C.md fid (o.dst.getD 0)) v o.op

/-- The slots that an operation may write. -/
def wr (C : Cfg) (fid : FuncId) (o : Oper) : List Tmp := (match o.op with
  | .store _ (.tmp p) _ => if C.md fid p = .imm then [p] else []
  | _ => []) ++ o.dst.toList

def apartW (C : Cfg) (fid : FuncId) (ops : Array Oper) (x y : Oper) : Bool :=
  (wr C fid x).all fun p => !(y.looksAt ops).contains p && !(wr C fid y).contains p && true
def apartB (C : Cfg) (fid : FuncId) (ops : Array Oper) (x y : Oper) : Bool :=
  apartW C fid ops x y && (wr C fid y).all fun p => !(x.looksAt ops).contains p

def compat : Cls → Cls → Bool
  | .blind, _ | _, .blind | .reader, .reader | .alloc, .alloc => true
  | _, _ => false

/-- Of each operation: those that come before it, as bits. -/
def befs : List Oper → List Nat → List Nat
  | [], acc => acc
  | o :: l, acc => befs l (acc ++ [o.after.toList.foldl (fun s e => if Region.binds .any e then s ||| 2 ^ e.on ||| acc.getD e.on 0 else s) 0])

def drawOk (C : Cfg) (fid : FuncId) (v : Bool) (ops : Array Oper) : Bool :=
  let B := befs ops.toList []
  (List.range ops.size).all fun i => match ops[i]? with
    | none => false
    | some oi => (oi.after.toList.all fun e => !Region.binds .any e || decide (e.on < i)) && (List.range i).all fun j =>
        (B.getD i 0).testBit j || (match ops[j]? with
          | some oj => compat (cls C fid v oj) (cls C fid v oi) && apartB C fid ops oj oi
          | none => false)

/-- Slots, some of them written. -/
def ov : List (Tmp × AV) → Slots → Slots
  | [], T => T
  | p :: w, T => ov w (upd T p.1 p.2)

theorem ov_other : ∀ {w : List (Tmp × AV)} {T : Slots} {t : Tmp}, (∀ p ∈ w, p.1 ≠ t) → ov w T t = T t
  | [], _, _, _ => rfl
  | p :: w, T, t, h => by
    rw [ov, ov_other (fun q hq => h q (by simp [hq]))]
    simp only [upd]
    rw [if_neg (fun e => h p (by simp) e.symm)]

theorem ov_in : ∀ {w : List (Tmp × AV)} {T T' : Slots} {t : Tmp}, (∃ p ∈ w, p.1 = t) → ov w T t = ov w T' t
  | [], _, _, _, h => by obtain ⟨p, hp, _⟩ := h; cases hp
  | p :: w, T, T', t, h => by
    by_cases hw : ∃ q ∈ w, q.1 = t
    · exact ov_in (w := w) hw
    · have hn : ∀ q ∈ w, q.1 ≠ t := fun q hq e => hw ⟨q, hq, e⟩
      rw [ov, ov, ov_other hn, ov_other hn]
      obtain ⟨q, hq, he⟩ := h
      rcases List.mem_cons.1 hq with rfl | hq
      · simp [upd, he]
      · exact absurd ⟨q, hq, he⟩ hw

theorem ov_comm {x y : List (Tmp × AV)} {T : Slots} (h : ∀ p ∈ x, ∀ q ∈ y, p.1 ≠ q.1) : ov x (ov y T) = ov y (ov x T) := by
  funext t
  by_cases hx : ∃ p ∈ x, p.1 = t
  · have hy : ∀ q ∈ y, q.1 ≠ t := fun q hq e => by
      obtain ⟨p, hp, hpt⟩ := hx
      exact h p hp q hq (hpt.trans e.symm)
    rw [ov_other (w := y) hy]
    exact ov_in hx
  · have hx' : ∀ p ∈ x, p.1 ≠ t := fun p hp e => hx ⟨p, hp, e⟩
    rw [ov_other (w := x) hx']
    by_cases hy : ∃ q ∈ y, q.1 = t
    · exact ov_in hy
    · have hy' : ∀ p ∈ y, p.1 ≠ t := fun p hp e => hy ⟨p, hp, e⟩
      rw [ov_other (w := y) hy', ov_other (w := y) hy', ov_other (w := x) hx']

theorem updO_ov {T : Slots} {d : Option Tmp} {r : AV} : updO T d r = ov (d.toList.map fun t => (t, r)) T := by
  cases d <;> rfl

section
variable {C : Cfg} {X : Ctx} {fid : FuncId}

theorem rho_congr {T T' : Slots} {x : Operand} (h : ∀ t, x = .tmp t → T' t = T t) : ρ T' x = ρ T x := by
  cases x with
  | tmp t => exact h t rfl
  | _ => rfl

theorem map_congr' {T T' : Slots} {xs : Array Operand} (h : ∀ x ∈ xs, ρ T' x = ρ T x) : xs.toList.map (ρ T') = xs.toList.map (ρ T) :=
  List.map_congr_left fun x hx => h x (by simpa using hx)

theorem target_congr {T T' : Slots} {c : Call} (h : ∀ x ∈ c.operands, ρ T' x = ρ T x) : target T' c = target T c := by
  have hargs : c.args.toList.map (ρ T') = c.args.toList.map (ρ T) := map_congr' fun x hx => h x (by simp [Call.operands, hx])
  unfold target
  cases hc : c.callee with
  | value f =>
    have hf : ρ T' f = ρ T f := h f (by simp [Call.operands, hc])
    simp only [hf, hargs]
  | invoke r m => rfl
  | builtin b => rfl

theorem evOp_congr {P : Program} {m : Mode} {al : Option Nat} {T T' : Slots} {H : Heap} {op : Op} (h : ∀ x ∈ op.operands, ρ T' x = ρ T x) : evOp P m al T' H op = evOp P m al T H op := by
  have pairs : ∀ ps : Array (Nat × Operand), (∀ x ∈ ps.map (·.2), ρ T' x = ρ T x) → (ps.toList.map fun p => (p.1, ρ T' p.2)) = (ps.toList.map fun p => (p.1, ρ T p.2)) := fun ps hp =>
    List.map_congr_left fun p hm => by rw [hp p.2 (Array.mem_map.2 ⟨p, by simpa using hm, rfl⟩)]
  cases op <;> simp only [Op.operands] at h <;> simp only [evOp]
  case build t ps => rw [pairs ps fun x hx => h x (by simpa using hx)]
  case buildSlice t n ps => rw [pairs ps fun x hx => h x (by simpa using hx)]
  case makeFunc fn first captured =>
    rw [map_congr' (xs := first) fun x hx => h x (by simp [hx]), map_congr' (xs := captured) fun x hx => h x (by simp [hx])]
  case slice t x lo hi mx => cases lo <;> cases hi <;> cases mx <;> simp_all
  case next it s => cases s <;> simp_all [evOp]
  case makeMap t r => cases r <;> simp_all [evOp]
  case call c =>
    have hargs : c.args.toList.map (ρ T') = c.args.toList.map (ρ T) := map_congr' fun x hx => h x (by simp [Call.operands, hx])
    rw [hargs]
  all_goals (first | rfl | (simp_all; done))


/-- Memory, written at one place or not. -/
def setO (H : Heap) (i : Nat) (k : Option Blk) : Heap := match k with
  | some b => H.set i b
  | none => H

theorem evNew_imm {al : Option Nat} {H H' : Heap} {sz : Nat} {xs : List AV} {r : AV} (h : evNew .imm al H sz xs = some (r, H')) : H' = H ∧ ∀ al2 H2, evNew .imm al2 H2 sz xs = some (r, H2) := by
  simp only [evNew] at h
  split at h
  · rename_i hf; cases h; exact ⟨rfl, fun al2 H2 => by simp [evNew, hf]⟩
  · cases h

theorem newB_place {i : Nat} {H H' : Heap} {k : Blk} {b : Nat} (h : newB (some i) H k = some (b, H')) : b = i ∧ H' = H.set i k ∧ H[i]? = some .void ∧ ∀ H2 : Heap, H2[i]? = some .void → newB (some i) H2 k = some (i, H2.set i k) := by
  simp only [newB] at h
  split at h
  · rename_i hv; cases h; exact ⟨rfl, rfl, hv, fun H2 h2 => by simp [newB, h2]⟩
  · cases h

/-- An operation that makes memory at its own place. -/
def AllocAt (i : Nat) (H : Heap) (r : AV) (H' : Heap) (F : Heap → Option (AV × Heap)) : Prop :=
  ∃ k : Option Blk, H' = setO H i k ∧ (k ≠ none → H[i]? = some .void) ∧ ∀ H2 : Heap, (k ≠ none → H2[i]? = some .void) → F H2 = some (r, setO H2 i k)

theorem AllocAt.blind {i : Nat} {H : Heap} {r : AV} {H' : Heap} {F : Heap → Option (AV × Heap)} (h : H' = H) (hF : ∀ H2, F H2 = some (r, H2)) : AllocAt i H r H' F :=
  ⟨none, h, fun e => absurd rfl e, fun H2 _ => hF H2⟩

theorem AllocAt.newB {i : Nat} {H H' : Heap} {k : Blk} {f : Nat → AV} {r : AV} {F : Heap → Option (AV × Heap)} (h : (newB (some i) H k).map (fun p => (f p.1, p.2)) = some (r, H')) (hF : ∀ H2, F H2 = (Ev.newB (some i) H2 k).map fun p => (f p.1, p.2)) : AllocAt i H r H' F := by
  obtain ⟨⟨b, H1⟩, hn, he⟩ := Option.map_eq_some_iff.1 h
  cases he
  obtain ⟨rfl, rfl, hv, h2⟩ := newB_place hn
  exact ⟨some k, rfl, fun _ => hv, fun H2 hH2 => by rw [hF, h2 H2 (hH2 (by simp))]; rfl⟩

theorem evNew_alloc {m : Mode} {i : Nat} {H H' : Heap} {sz : Nat} {xs : List AV} {r : AV} (h : evNew m (some i) H sz xs = some (r, H')) : AllocAt i H r H' (fun H2 => evNew m (some i) H2 sz xs) := by
  cases m with
  | imm => obtain ⟨h1, h2⟩ := evNew_imm h; exact .blind h1 fun H2 => h2 _ H2
  | heap =>
    simp only [evNew] at h
    exact .newB (f := fun b => .own b xs.length) h fun H2 => by simp only [evNew]

theorem evLit_alloc {P : Program} {m : Mode} {i : Nat} {H H' : Heap} {t : TypeId} {n : Nat} {ps : List (Nat × AV)} {r : AV} (h : evLit P m (some i) H t n ps = some (r, H')) : AllocAt i H r H' (fun H2 => evLit P m (some i) H2 t n ps) := by
  unfold evLit at h
  split at h
  · rename_i e he
    split at h
    · rename_i hc
      cases n with
      | zero =>
        cases h
        exact .blind rfl fun H2 => by simp only [evLit, he]; rw [if_pos hc]
      | succ n =>
        simp only at h
        obtain ⟨k, h1, h2, h3⟩ := evNew_alloc h
        exact ⟨k, h1, h2, fun H2 hH => by simp only [evLit, he]; rw [if_pos hc]; exact h3 H2 hH⟩
    · cases h
  · cases h

theorem evLit_imm {P : Program} {al : Option Nat} {H H' : Heap} {t : TypeId} {n : Nat} {ps : List (Nat × AV)} {r : AV} (h : evLit P .imm al H t n ps = some (r, H')) : H' = H ∧ ∀ H2, evLit P .imm al H2 t n ps = some (r, H2) := by
  unfold evLit at h
  split at h
  · rename_i e he
    split at h
    · rename_i hc
      cases n with
      | zero =>
        cases h
        exact ⟨rfl, fun H2 => by simp only [evLit, he]; rw [if_pos hc]⟩
      | succ n =>
        simp only at h
        obtain ⟨h1, h2⟩ := evNew_imm h
        exact ⟨h1, fun H2 => by simp only [evLit, he]; rw [if_pos hc]; exact h2 _ H2⟩
    · cases h
  · cases h

theorem evBin_blind {H H' : Heap} {kk : TK} (h1 : ∀ e, kk ≠ .slice e) (h2 : ∀ e, kk ≠ .ptr e) (c : Bool) (op : BinOp) (a b : AV) : evBin H' kk c op a b = evBin H kk c op a b := by
  unfold evBin
  split <;> first | rfl | skip
  · cases kk <;> first | rfl | exact absurd rfl (h1 _)
  · cases kk <;> first | rfl | exact absurd rfl (h2 _)

theorem evOp_blind {P : Program} {m : Mode} {v : Bool} {al : Option Nat} {T : Slots} {H H1 : Heap} {op : Op} {r : AV} (hq : clsOp P m v op = .blind) (h : evOp P m al T H op = some (r, H1)) : H1 = H ∧ ∀ H2, evOp P m al T H2 op = some (r, H2) := by
  have mapc : ∀ {o : Option AV}, o.map (fun v => (v, H)) = some (r, H1) → H1 = H ∧ ∀ H2 : Heap, o.map (fun v => (v, H2)) = some (r, H2) := fun h => by
    obtain ⟨v, hv, he⟩ := Option.map_eq_some_iff.1 h
    cases he
    exact ⟨rfl, fun H2 => by rw [hv]; rfl⟩
  cases op <;> simp only [clsOp, clsNew] at hq <;> first | (cases hq; done) | skip
  case move x => simp only [evOp] at h ⊢; cases h; exact ⟨rfl, fun _ => rfl⟩
  case assign x => simp only [evOp] at h ⊢; cases h; exact ⟨rfl, fun _ => rfl⟩
  case pick c x y =>
    simp only [evOp] at h ⊢
    split at h
    · rename_i e; cases h; exact ⟨rfl, fun _ => rfl⟩
    · rename_i e; cases h; exact ⟨rfl, fun _ => rfl⟩
    · cases h
  case box t x =>
    cases m with
    | heap => cases v <;> cases hq
    | imm =>
      simp only [evOp] at h ⊢
      split at h
      · rename_i hc
        split at h
        · rename_i hf; cases h; exact ⟨rfl, fun H2 => by rw [if_pos hc, if_pos hf]⟩
        · cases h
      · cases h
  case build t ps =>
    simp only [evOp] at h ⊢
    split at h
    · rename_i hc
      obtain ⟨w, hv, he⟩ := Option.map_eq_some_iff.1 h
      cases he
      exact ⟨rfl, fun H2 => by rw [if_pos hc, hv]; rfl⟩
    · cases h
  case buildSlice t n ps =>
    cases m with
    | heap => cases v <;> cases hq
    | imm =>
      simp only [evOp] at h ⊢
      exact evLit_imm h
  case binOp op t x y z =>
    simp only [evOp] at h ⊢
    obtain ⟨w, hv, he⟩ := Option.map_eq_some_iff.1 h
    cases he
    refine ⟨rfl, fun H2 => ?_⟩
    rw [evBin_blind (H := H) (fun e he => by rw [he] at hq; cases hq) (fun e he => by rw [he] at hq; cases hq), hv]
    rfl
  case unOp op t x => simp only [evOp] at h ⊢; exact mapc h
  case convert => cases m <;> cases hq
  case makeInterface t x =>
    simp only [evOp] at h ⊢
    split at h
    · cases h
    · cases h
    · cases h; exact ⟨rfl, fun _ => rfl⟩
  case makeFunc f a b => simp only [evOp] at h ⊢; cases h; exact ⟨rfl, fun _ => rfl⟩
  case makeMap => cases v <;> cases hq
  case makeSlice => cases v <;> cases hq
  case slice t x lo hi mx =>
    cases mx with
    | none =>
      simp only [evOp] at h ⊢
      obtain ⟨w, hv, he⟩ := Option.map_eq_some_iff.1 h
      cases he
      refine ⟨rfl, fun H2 => ?_⟩
      have hk : (ti P t).k = .str := by
        simp only [clsOp] at hq
        split at hq
        · assumption
        · cases hq
      have : evSlice P H2 t (ρ T x) (lo.map (ρ T)) (hi.map (ρ T)) = evSlice P H t (ρ T x) (lo.map (ρ T)) (hi.map (ρ T)) := by
        unfold evSlice
        rw [hk]
        generalize ρ T x = y
        cases y <;> rfl
      rw [this, hv]
      rfl
    | some _ => cases hq
  case field s x f =>
    simp only [evOp] at h ⊢
    obtain ⟨p, hp, h⟩ := Option.bind_eq_some_iff.1 h
    split at h
    · rename_i cs hcs
      obtain ⟨w, hv, he⟩ := Option.map_eq_some_iff.1 h
      cases he
      exact ⟨rfl, fun H2 => by rw [hp]; simp only [Option.bind_some, hv, Option.map_some]⟩
    · cases h
  case index t x i => simp only [evOp] at h ⊢; exact mapc h
  case typeAssert x t u ok => simp only [evOp] at h ⊢; exact mapc h
  case extract t i =>
    simp only [evOp] at h ⊢
    split at h
    · rename_i vs hvs; exact mapc h
    · cases h
  case call c =>
    simp only [evOp] at h ⊢
    split at hq
    · cases hq
    all_goals first | (cases hq; done) | skip
    all_goals
      rename_i hc
      rw [hc] at h
      simp only at h
      simp only [hc]
      simp only [evBuiltin] at h ⊢
      split at h
      · rename_i he _ _; cases he
      · rename_i he _ _; cases he
      · rename_i he _ _; cases he
      · rename_i he _ _; cases he
      · rename_i k a k' b' hb hts
        first
        | (cases hb; done)
        | (split at h
           · rename_i hk; cases h; refine ⟨rfl, fun H2 => ?_⟩; first | rw [if_pos hk] | (simp only [hts]; rw [if_pos hk])
           · cases h)
      · rename_i k a k' b' hb hts
        first
        | (cases hb; done)
        | (split at h
           · rename_i hk; cases h; refine ⟨rfl, fun H2 => ?_⟩; first | rw [if_pos hk] | (simp only [hts]; rw [if_pos hk])
           · cases h)
      · cases h

theorem evOp_reader {P : Program} {m : Mode} {v : Bool} {al : Option Nat} {T : Slots} {H H1 : Heap} {op : Op} {r : AV} (hq : clsOp P m v op = .reader) (h : evOp P m al T H op = some (r, H1)) : H1 = H := by
  cases op <;> simp only [clsOp, clsNew] at hq <;> first | (cases hq; done) | skip
  all_goals (simp only [evOp] at h)
  case box => cases m <;> cases v <;> cases hq
  case buildSlice => cases m <;> cases v <;> cases hq
  case load => obtain ⟨v, _, he⟩ := Option.map_eq_some_iff.1 h; cases he; rfl
  case nilCheck =>
    split at h
    · obtain ⟨v, _, he⟩ := Option.map_eq_some_iff.1 h; cases he; rfl
    · cases h; rfl
    · cases h
  case binOp => obtain ⟨v, _, he⟩ := Option.map_eq_some_iff.1 h; cases he; rfl
  case convert =>
    cases m with
    | heap => cases hq
    | imm =>
      unfold evConv at h
      split at h
      · split at h
        · split at h
          · exact (evNew_imm h).1
          · cases h
        · cases h
      · cases h; rfl
      · cases h; rfl
      · split at h
        · split at h
          · cases h
          · obtain ⟨l, _, h⟩ := Option.bind_eq_some_iff.1 h
            obtain ⟨v, _, he⟩ := Option.map_eq_some_iff.1 h; cases he; rfl
        · cases h
      · cases h
  case makeMap => cases v <;> cases hq
  case makeSlice => cases v <;> cases hq
  case slice t x lo hi mx =>
    cases mx with
    | none => simp only [evOp] at h; obtain ⟨v, _, he⟩ := Option.map_eq_some_iff.1 h; cases he; rfl
    | some _ =>
      simp only [evOp] at h
      obtain ⟨v, _, he⟩ := Option.map_eq_some_iff.1 h; cases he; rfl
  case fieldAddr =>
    obtain ⟨p, _, h⟩ := Option.bind_eq_some_iff.1 h
    split at h
    · cases h
    · obtain ⟨v, _, he⟩ := Option.map_eq_some_iff.1 h; cases he; rfl
  case indexAddr => obtain ⟨v, _, he⟩ := Option.map_eq_some_iff.1 h; cases he; rfl
  case lookup => obtain ⟨v, _, he⟩ := Option.map_eq_some_iff.1 h; cases he; rfl
  case call c =>
    split at hq
    · rename_i hc
      rw [hc] at h
      simp only [evBuiltin] at h
      split at h
      · split at h
        · cases h; rfl
        · cases h; rfl
        · cases h; rfl
        · obtain ⟨v, _, he⟩ := Option.map_eq_some_iff.1 h; cases he; rfl
        · cases h
      all_goals first | (rename_i he _ _; cases he; done) | (rename_i he _; cases he; done) | cases h
    · cases hq
    · cases hq
    · cases hq

theorem evOp_alloc {P : Program} {m : Mode} {v : Bool} {i : Nat} {T : Slots} {H H1 : Heap} {op : Op} {r : AV} (hq : clsOp P m v op = .alloc) (h : evOp P m (some i) T H op = some (r, H1)) : AllocAt i H r H1 (fun H2 => evOp P m (some i) T H2 op) := by
  cases op <;> simp only [clsOp, clsNew] at hq <;> first | (cases hq; done) | skip
  case box t x =>
    cases m with
    | imm => cases hq
    | heap =>
      simp only [evOp] at h ⊢
      split at h
      · rename_i hc
        refine .newB (f := fun b => .ptr b 1 0 0) h fun H2 => ?_
        rw [if_pos hc]
      · cases h
  case buildSlice t n ps =>
    simp only [evOp] at h ⊢
    exact evLit_alloc h
  case binOp => split at hq <;> cases hq
  case convert => cases m <;> cases hq
  case makeMap t n =>
    cases n with
    | none =>
      simp only [evOp] at h ⊢
      exact .newB (f := fun b => .map b) h fun H2 => rfl
    | some n =>
      simp only [evOp] at h ⊢
      split at h
      · rename_i hk hn
        exact .newB (f := fun b => .map b) h fun H2 => by simp only [hk, hn]
      · cases h
  case makeSlice t l c =>
    simp only [evOp] at h ⊢
    unfold evMake at h
    split at h
    · rename_i hk hl hc
      split at h
      · rename_i hb
        refine .newB (f := fun b => .own b _) h fun H2 => ?_
        simp only [evMake, hk, hl, hc]
        rw [if_pos hb]
      · cases h
    · cases h
  case slice t x lo hi mx =>
    cases mx with
    | none => simp only [clsOp] at hq; split at hq <;> cases hq
    | some _ => cases hq
  case call c => split at hq <;> cases hq

theorem evCall_reader {f : FuncId} {args : List AV} {H H' : Heap} {r : AV} (hs : C.shr f = false) (hf : (flatL args || C.sol f) = true) (h : evCall C X f args H = some (r, H')) : H' = H := by
  unfold evCall at h
  rw [hs] at h
  simp only [Bool.false_eq_true, if_false] at h
  split at h
  · obtain ⟨v, _, he⟩ := Option.map_eq_some_iff.1 h; cases he; rfl
  · rename_i hfl
    have hsol : C.sol f = true := by simpa [hfl] using hf
    rw [if_pos hsol] at h
    obtain ⟨fa, hfa, h⟩ := Option.bind_eq_some_iff.1 h
    split at h
    · obtain ⟨v, hv, h⟩ := Option.bind_eq_some_iff.1 h
      split at h
      · cases h; rfl
      · cases h
    · cases h

theorem evCall_blind {f : FuncId} {args : List AV} {H H' : Heap} {r : AV} (hs : C.shr f = false) (hf : flatL args = true) (h : evCall C X f args H = some (r, H')) : H' = H ∧ ∀ H2, evCall C X f args H2 = some (r, H2) := by
  unfold evCall at h ⊢
  rw [hs] at h ⊢
  simp only [Bool.false_eq_true, if_false, hf, if_true] at h ⊢
  obtain ⟨v, hv, he⟩ := Option.map_eq_some_iff.1 h
  cases he
  exact ⟨rfl, fun H2 => by rw [hv]; rfl⟩

/-- What an operation does: the slots that it writes, and what becomes of the memory. -/
structure Does (C : Cfg) (fid : FuncId) (v : Bool) (ops : Array Oper) (o : Oper) (al : Option Nat) (E : St → Option St) (T : Slots) (H : Heap) (st' : St) (w : List (Tmp × AV)) (H1 : Heap) : Prop where
  wr : ∀ p ∈ w, p.1 ∈ Ev.wr C fid o
  eq : st' = ⟨ov w T, H1⟩
  slots : ∀ T' : Slots, (∀ t ∈ o.looksAt ops, T' t = T t) → E ⟨T', H⟩ = some ⟨ov w T', H1⟩
  reader : cls C fid v o = .reader → H1 = H
  blind : cls C fid v o = .blind → H1 = H ∧ ∀ (T' : Slots) (H2 : Heap), (∀ t ∈ o.looksAt ops, T' t = T t) → E ⟨T', H2⟩ = some ⟨ov w T', H2⟩
  alloc : cls C fid v o = .alloc → ∀ i, al = some i → ∃ k : Option Blk, H1 = setO H i k ∧ (k ≠ none → H[i]? = some .void) ∧ ∀ (T' : Slots) (H2 : Heap), (∀ t ∈ o.looksAt ops, T' t = T t) → (k ≠ none → H2[i]? = some .void) → E ⟨T', H2⟩ = some ⟨ov w T', setO H2 i k⟩

theorem go_does {ops : Array Oper} {v : Bool} {al : Option Nat} {o : Oper} {st st' : St} (h : evGo C X fid true al ops o st = some st') :
    ∃ w H1, Does C fid v ops o al (evGo C X fid true al ops o) st.T st.H st' w H1 := by
  have hops : ∀ T' : Slots, (∀ t ∈ o.looksAt ops, T' t = st.T t) → ∀ x ∈ o.op.operands, ρ T' x = ρ st.T x := fun T' hT x hx => rho_congr fun t ht => hT t (by
    subst ht
    exact List.mem_append_left _ (List.mem_filterMap.2 ⟨.tmp t, by simpa using hx, rfl⟩))
  have hw : ∀ T' : Slots, (∀ t ∈ o.looksAt ops, T' t = st.T t) → evWanted ops T' o = evWanted ops st.T o := fun T' hT => by
    unfold evWanted
    cases hg : o.guard with
    | none => rfl
    | some gw =>
      obtain ⟨j, want⟩ := gw
      simp only
      cases hj : (ops[j]?).bind (·.dst) with
      | none => rfl
      | some t => simp only [hT t (by simp [Oper.looksAt, hg, hj])]
  have hdst : ∀ r : AV, ∀ p ∈ (o.dst.toList.map fun t => (t, r)), p.1 ∈ Ev.wr C fid o := fun r p hp => by
    obtain ⟨t, ht, rfl⟩ := List.mem_map.1 hp
    exact List.mem_append_right _ ht
  unfold evGo at h
  split at h
  · rename_i hwt
    have hgo : ∀ (T' : Slots) (H2 : Heap), (∀ t ∈ o.looksAt ops, T' t = st.T t) → evGo C X fid true al ops o ⟨T', H2⟩ = evStep C X fid true al ⟨T', H2⟩ o := fun T' H2 hT => by
      unfold evGo
      simp only [hw T' hT, hwt]
    unfold evStep at h
    split at h
    · rename_i c hop
      have hop' := opk_call hop
      obtain ⟨⟨f, args⟩, htg, h⟩ := Option.bind_eq_some_iff.1 h
      split at h
      · cases h
      · rename_i hsf
        obtain ⟨⟨r, H'⟩, hr1, he⟩ := Option.map_eq_some_iff.1 h
        obtain ⟨⟨r2, H2⟩, hc, hk⟩ := Option.bind_eq_some_iff.1 hr1
        obtain ⟨hk1, hk2⟩ := chk_some hk
        cases hk1
        cases he
        have hsf' := hsf
        simp only [Bool.true_and, Bool.or_eq_true, Bool.not_eq_true', not_or, Bool.not_eq_true, Bool.not_eq_false] at hsf'
        have hshr := hsf'.1
        have hfs : (flatL args || C.sol f) = true := by simpa using hsf'.2
        have hH := evCall_reader hshr hfs hc
        have hstep : ∀ (T' : Slots) (H2 : Heap), (∀ t ∈ o.looksAt ops, T' t = st.T t) → evCall C X f args H2 = some (r, H2) → evGo C X fid true al ops o ⟨T', H2⟩ = some ⟨updO T' o.dst r, H2⟩ := fun T' H2 hT hcl => by
          have h1 := hops T' hT
          rw [hop'] at h1
          rw [hgo T' H2 hT]
          unfold evStep
          rw [hop]
          simp only [target_congr (T := st.T) (T' := T') (c := c) (fun x hx => h1 x (by simpa [Op.operands] using hx)), htg, Option.bind_some]
          rw [if_neg hsf, hcl]
          have hk' : chk (r, H2) = some (r, H2) := by simp [chk, hk2]
          simp only [Option.bind_some, hk', Option.map_some]
        subst hH
        refine ⟨_, _, hdst r, by rw [updO_ov], fun T' hT => by rw [hstep T' _ hT hc, updO_ov], fun _ => rfl, fun hcl => ⟨rfl, fun T' H2 hT => ?_⟩, fun hcl => ?_⟩
        · rw [hstep T' H2 hT ?_, updO_ov]
          have hcls : C.sol f = false := by
            simp only [cls, hop] at hcl
            split at hcl
            · rename_i g hg
              unfold target at htg
              rw [hg] at htg
              simp only [ρ] at htg
              cases htg
              cases hs : C.sol f with
              | true => rw [hs] at hcl; cases hcl
              | false => rfl
            · cases hcl
          have hfl : flatL args = true := by simpa [hcls] using hfs
          exact (evCall_blind hshr hfl hc).2 H2
        · simp only [cls, hop] at hcl
          split at hcl
          · split at hcl <;> cases hcl
          · cases hcl
    · rename_i t p x hop
      have hop' := opk_store hop
      split at h
      · cases h
      rename_i hq
      have hx : ∀ T' : Slots, (∀ t ∈ o.looksAt ops, T' t = st.T t) → ρ T' x = ρ st.T x ∧ ρ T' p = ρ st.T p := fun T' hT => by
        have h1 := hops T' hT
        rw [hop'] at h1
        exact ⟨h1 x (by simp [Op.operands]), h1 p (by simp [Op.operands])⟩
      have hfr : ∀ T' : Slots, (∀ t ∈ o.looksAt ops, T' t = st.T t) → freshAt T' p = freshAt st.T p := fun T' hT => by
        cases p with
        | tmp s => simp only [freshAt]; rw [show T' s = st.T s from (hx T' hT).2]
        | _ => rfl
      split at h
      · rename_i s n hf
        split at h
        · rename_i hs
          cases h
          have himm : immAt C fid p = true := by simpa [hf] using hq
          have hp : p = .tmp s := by
            unfold freshAt at hf
            split at hf
            · split at hf
              · cases hf; rfl
              · cases hf
            · cases hf
          have hwr : s ∈ Ev.wr C fid o := by
            unfold Ev.wr
            rw [hop', hp]
            rw [hp] at himm
            simp only [immAt, decide_eq_true_eq] at himm
            simp [himm]
          have hgo2 : ∀ (T' : Slots) (H2 : Heap), (∀ t ∈ o.looksAt ops, T' t = st.T t) → evGo C X fid true al ops o ⟨T', H2⟩ = some ⟨ov ((s, .ptrI (ρ st.T x) 0) :: o.dst.toList.map fun t => (t, skip)) T', H2⟩ := fun T' H2 hT => by
            rw [hgo T' H2 hT]
            unfold evStep
            rw [hop]
            simp only [hfr T' hT, hf, (hx T' hT).1]
            rw [if_neg (by simp [himm]), if_pos hs, updO_ov]
            rfl
          refine ⟨_, _, fun q hq' => ?_, by rw [updO_ov]; rfl, fun T' hT => hgo2 T' _ hT, fun _ => rfl, fun _ => ⟨rfl, hgo2⟩, fun hcl => ?_⟩
          · rcases List.mem_cons.1 hq' with rfl | hq'
            · exact hwr
            · exact hdst _ q hq'
          · simp only [cls, hop, himm, if_true] at hcl
            cases hcl
        · cases h
      · rename_i hf
        have himm : immAt C fid p = false := by simpa [hf] using hq
        obtain ⟨H', hH, he⟩ := Option.map_eq_some_iff.1 h
        cases he
        refine ⟨_, _, hdst skip, by rw [updO_ov], fun T' hT => ?_, fun hcl => ?_, fun hcl => ?_, fun hcl => ?_⟩
        · rw [hgo T' _ hT]
          unfold evStep
          rw [hop]
          simp only [hfr T' hT, hf, (hx T' hT).1, (hx T' hT).2, himm, hH, Option.map_some]
          rw [if_neg (by simp), updO_ov]
        all_goals (simp only [cls, hop, himm] at hcl; cases hcl)
    · rename_i t hop
      have hop' := opk_alloc hop
      split at h
      · rename_i d hd
        split at h
        · rename_i hs
          have hgo2 : ∀ (T' : Slots) (H2 : Heap), (∀ t ∈ o.looksAt ops, T' t = st.T t) → evGo C X fid true al ops o ⟨T', H2⟩ = (match C.md fid d with
              | .imm => some ⟨upd T' d (.fresh (ti C.P t).size), H2⟩
              | .heap => (newB al H2 (.arr (ti C.P t).size [(ti C.P t).zero])).map fun p => ⟨upd T' d (.ptr p.1 1 0 0), p.2⟩) := fun T' H2 hT => by
            rw [hgo T' H2 hT]
            unfold evStep
            rw [hop]
            simp only [hd]
            rw [if_pos hs]
            cases C.md fid d <;> rfl
          have hwd : d ∈ Ev.wr C fid o := by
            unfold Ev.wr
            simp [hd]
          cases hm : C.md fid d with
          | imm =>
            simp only [hm] at h hgo2
            cases h
            refine ⟨[(d, .fresh (ti C.P t).size)], _, fun q hq => ?_, rfl, fun T' hT => hgo2 T' _ hT, fun _ => rfl, fun _ => ⟨rfl, hgo2⟩, fun hcl => ?_⟩
            · simp only [List.mem_singleton] at hq; subst hq; exact hwd
            · simp only [cls, hop, hd, Option.getD_some, hm, clsNew] at hcl
              cases hcl
          | heap =>
            simp only [hm] at h hgo2
            obtain ⟨⟨b0, H'⟩, hnb, he⟩ := Option.map_eq_some_iff.1 h
            cases he
            refine ⟨[(d, .ptr b0 1 0 0)], H', fun q hq => ?_, rfl, fun T' hT => by rw [hgo2 T' _ hT, hnb]; rfl, fun hcl => ?_, fun hcl => ?_, fun hcl i hi => ?_⟩
            · simp only [List.mem_singleton] at hq; subst hq; exact hwd
            · simp only [cls, hop, hd, Option.getD_some, hm, clsNew] at hcl
              split at hcl <;> cases hcl
            · simp only [cls, hop, hd, Option.getD_some, hm, clsNew] at hcl
              split at hcl <;> cases hcl
            · subst hi
              obtain ⟨rfl, rfl, hv, h2⟩ := newB_place hnb
              refine ⟨some _, rfl, fun _ => hv, fun T' H2 hT hH2 => ?_⟩
              rw [hgo2 T' H2 hT, h2 H2 (hH2 (by simp))]
              rfl
        · cases h
      · cases h
    · rename_i hop
      obtain ⟨⟨r, H'⟩, hr1, he⟩ := Option.map_eq_some_iff.1 h
      obtain ⟨⟨r2, H2⟩, hc, hk⟩ := Option.bind_eq_some_iff.1 hr1
      obtain ⟨hk1, hk2⟩ := chk_some hk
      cases hk1
      cases he
      have hgo2 : ∀ (T' : Slots) (H2 H3 : Heap), (∀ t ∈ o.looksAt ops, T' t = st.T t) → evOp C.P (C.md fid (o.dst.getD 0)) al st.T H2 o.op = some (r, H3) → evGo C X fid true al ops o ⟨T', H2⟩ = some ⟨ov (o.dst.toList.map fun t => (t, r)) T', H3⟩ := fun T' H2 H3 hT hev => by
        rw [hgo T' H2 hT]
        unfold evStep
        rw [hop]
        have hk' : chk (r, H3) = some (r, H3) := by simp [chk, hk2]
        simp only [evOp_congr (hops T' hT), hev, Option.bind_some, hk', Option.map_some, updO_ov]
      refine ⟨_, _, hdst r, by rw [updO_ov], fun T' hT => hgo2 T' _ _ hT hc, fun hcl => ?_, fun hcl => ?_, fun hcl i hi => ?_⟩
      · simp only [cls, hop] at hcl
        exact evOp_reader hcl hc
      · simp only [cls, hop] at hcl
        obtain ⟨h1, h2⟩ := evOp_blind hcl hc
        exact ⟨h1, fun T' H2 hT => hgo2 T' H2 H2 hT (h2 H2)⟩
      · simp only [cls, hop] at hcl
        subst hi
        obtain ⟨k, h1, h2, h3⟩ := evOp_alloc hcl hc
        exact ⟨k, h1, h2, fun T' H2 hT hH2 => hgo2 T' H2 _ hT (h3 H2 hH2)⟩
  · rename_i hwt
    cases h
    have hgo2 : ∀ (T' : Slots) (H2 : Heap), (∀ t ∈ o.looksAt ops, T' t = st.T t) → evGo C X fid true al ops o ⟨T', H2⟩ = some ⟨ov (o.dst.toList.map fun t => (t, skip)) T', H2⟩ := fun T' H2 hT => by
      unfold evGo
      rw [hw T' hT, hwt, updO_ov]
    exact ⟨_, _, hdst skip, by rw [updO_ov], fun T' hT => hgo2 T' _ hT, fun _ => rfl, fun _ => ⟨rfl, hgo2⟩, fun _ i _ => ⟨none, rfl, fun e => absurd rfl e, fun T' H2 hT _ => hgo2 T' H2 hT⟩⟩
  · cases h

theorem apartB_spec {ops : Array Oper} {x y : Oper} (h : apartB C fid ops x y = true) : (∀ p ∈ wr C fid x, p ∉ y.looksAt ops) ∧ (∀ p ∈ wr C fid x, p ∉ wr C fid y) ∧ (∀ p ∈ wr C fid y, p ∉ x.looksAt ops) := by
  simp only [apartB, apartW, Bool.and_eq_true, List.all_eq_true, Bool.not_eq_true', List.contains_eq_mem, decide_eq_false_iff_not, and_true] at h
  exact ⟨fun p hp => (h.1 p hp).1, fun p hp => (h.1 p hp).2, fun p hp => h.2 p hp⟩

theorem setO_comm {H : Heap} {i j : Nat} {a b : Option Blk} (h : i ≠ j) : setO (setO H i a) j b = setO (setO H j b) i a := by
  cases a <;> cases b <;> simp only [setO]
  exact List.set_comm _ _ h

theorem setO_get {H : Heap} {i j : Nat} {a : Option Blk} (h : i ≠ j) : (setO H i a)[j]? = H[j]? := by
  cases a with
  | none => rfl
  | some k => simp only [setO]; rw [List.getElem?_set_ne h]

/-- Two operations that are apart may change places. -/
theorem op_swap {ops : Array Oper} {v : Bool} {base ix iy : Nat} {x y : Oper} {st st1 st2 : St} (hne : ix ≠ iy) (hv : v = true ∨ (cls C fid v x ≠ .alloc ∧ cls C fid v y ≠ .alloc)) (hxy : compat (cls C fid v x) (cls C fid v y) = true) (hap : apartB C fid ops x y = true)
    (h1 : evGo C X fid true (place v base ix) ops x st = some st1) (h2 : evGo C X fid true (place v base iy) ops y st1 = some st2) :
    ∃ st', evGo C X fid true (place v base iy) ops y st = some st' ∧ evGo C X fid true (place v base ix) ops x st' = some st2 := by
  obtain ⟨a1, a2, a3⟩ := apartB_spec hap
  obtain ⟨wx, H1, dx⟩ := go_does (v := v) h1
  have e1 := dx.eq
  subst e1
  obtain ⟨wy, H2, dy⟩ := go_does (v := v) h2
  have e2 := dy.eq
  subst e2
  have hlx : ∀ T : Slots, ∀ t ∈ x.looksAt ops, ov wy T t = T t := fun T t ht => ov_other fun p hp e => a3 p.1 (dy.wr p hp) (e ▸ ht)
  have hly : ∀ T : Slots, ∀ t ∈ y.looksAt ops, ov wx T t = T t := fun T t ht => ov_other fun p hp e => a1 p.1 (dx.wr p hp) (e ▸ ht)
  have hcomm : ov wx (ov wy st.T) = ov wy (ov wx st.T) := ov_comm fun p hp q hq e => a2 p.1 (dx.wr p hp) (e ▸ dy.wr q hq)
  have hly' : ∀ t ∈ y.looksAt ops, st.T t = ov wx st.T t := fun t ht => (hly st.T t ht).symm
  by_cases hbx : cls C fid v x = .blind
  · obtain ⟨b1, b2⟩ := dx.blind hbx
    try simp only at b1
    subst b1
    refine ⟨_, dy.slots st.T hly', ?_⟩
    rw [b2 (ov wy st.T) H2 (hlx st.T), hcomm]
  · by_cases hby : cls C fid v y = .blind
    · obtain ⟨b1, b2⟩ := dy.blind hby
      try simp only at b1
      subst b1
      refine ⟨_, b2 st.T st.H hly', ?_⟩
      rw [dx.slots (ov wy st.T) (hlx st.T), hcomm]
    · by_cases hrx : cls C fid v x = .reader
      · have hry : cls C fid v y = .reader := by
          rw [hrx] at hxy
          cases hc : cls C fid v y <;> rw [hc] at hxy hby <;> first | rfl | exact absurd rfl hby | (cases hxy; done)
        have b1 := dx.reader hrx
        try simp only at b1
        subst b1
        have b2 := dy.reader hry
        try simp only at b2
        subst b2
        refine ⟨_, dy.slots st.T hly', ?_⟩
        rw [dx.slots (ov wy st.T) (hlx st.T), hcomm]
      · have hax : cls C fid v x = .alloc ∧ cls C fid v y = .alloc := by
          cases hc : cls C fid v x <;> cases hc' : cls C fid v y <;> rw [hc, hc'] at hxy <;> first | exact ⟨rfl, rfl⟩ | exact absurd hc hbx | exact absurd hc' hby | exact absurd hc hrx | (cases hxy; done)
        have hvt : v = true := by
          rcases hv with h | h
          · exact h
          · exact absurd hax.1 h.1
        subst hvt
        obtain ⟨k, k1, k2, k3⟩ := dx.alloc hax.1 (base + ix) rfl
        obtain ⟨l, l1, l2, l3⟩ := dy.alloc hax.2 (base + iy) rfl
        have hne' : base + ix ≠ base + iy := by omega
        try simp only at k1 k2 l1 l2
        subst k1
        subst l1
        refine ⟨_, l3 st.T st.H hly' (fun hl => by have := l2 hl; rwa [setO_get hne'] at this), ?_⟩
        rw [k3 (ov wy st.T) _ (hlx st.T) (fun hk => by rw [setO_get (Ne.symm hne')]; exact k2 hk), hcomm, setO_comm hne']

def evI (C : Cfg) (X : Ctx) (fid : FuncId) (v : Bool) (base : Nat) (ops : Array Oper) (i : Nat) (st : St) : Option St :=
  match ops[i]? with
  | some o => evGo C X fid true (place v base i) ops o st
  | none => none

def evL (C : Cfg) (X : Ctx) (fid : FuncId) (v : Bool) (base : Nat) (ops : Array Oper) : List Nat → St → Option St
  | [], st => some st
  | i :: l, st => (evI C X fid v base ops i st).bind (evL C X fid v base ops l)

theorem evDraw_evL {v : Bool} {base : Nat} {ops : Array Oper} : ∀ (l : List Oper) (i : Nat) (st : St), ops.toList.drop i = l → evDraw C X fid v base ops i l st = evL C X fid v base ops (List.range' i l.length) st
  | [], _, _, _ => rfl
  | o :: l, i, st, hl => by
    have hi : ops[i]? = some o := by
      have := congrArg List.head? hl
      rw [List.head?_drop] at this
      simpa using this
    have hl' : ops.toList.drop (i + 1) = l := by rw [← List.drop_drop, hl]; rfl
    simp only [evDraw, List.length_cons, List.range'_succ, evL, evI, hi]
    congr 1
    funext st'
    exact evDraw_evL l (i + 1) st' hl'

/-- An operation before which none must come, of those that are left, may come first. -/
theorem move_front {v : Bool} {base : Nat} {ops : Array Oper} {i : Nat} {oi : Oper} (hi : ops[i]? = some oi) (post : List Nat) : ∀ (pre : List Nat) (st fin : St), (∀ j ∈ pre, j ≠ i ∧ ∃ oj, ops[j]? = some oj ∧ compat (cls C fid v oj) (cls C fid v oi) = true ∧ apartB C fid ops oj oi = true) →
    evL C X fid v base ops (pre ++ i :: post) st = some fin → ∃ st1, evI C X fid v base ops i st = some st1 ∧ evL C X fid v base ops (pre ++ post) st1 = some fin
  | [], st, fin, _, h => by
    simp only [List.nil_append, evL] at h
    exact Option.bind_eq_some_iff.1 h
  | j :: pre, st, fin, hp, h => by
    simp only [List.cons_append, evL] at h
    obtain ⟨st1, h1, h2⟩ := Option.bind_eq_some_iff.1 h
    obtain ⟨st2, h3, h4⟩ := move_front hi post pre st1 fin (fun j' hj' => hp j' (by simp [hj'])) h2
    obtain ⟨hne, oj, hj, q1, q3⟩ := hp j (by simp)
    simp only [evI, hj] at h1
    simp only [evI, hi] at h3
    have hv : v = true ∨ (cls C fid v oj ≠ .alloc ∧ cls C fid v oi ≠ .alloc) := by
      cases v with
      | true => exact .inl rfl
      | false =>
        right
        have hn : ∀ o, cls C fid false o ≠ .alloc := by
          intro o
          unfold cls
          split
          · split
            · split <;> simp
            · simp
          · split <;> simp
          · simp only [clsNew]; split <;> simp
          · unfold clsOp
            split <;> first | (intro e; cases e; done) | skip
            all_goals first | (split <;> first | (intro e; cases e; done) | skip) | skip
            all_goals (simp only [clsNew]; split <;> simp)
        exact ⟨hn _, hn _⟩
    obtain ⟨st', h5, h6⟩ := op_swap hne hv q1 q3 h1 h3
    refine ⟨st', by simp only [evI, hi]; exact h5, ?_⟩
    simp only [List.cons_append, evL, evI, hj, h6, Option.bind_some]
    exact h4

/-- One operation comes before another. -/
inductive Anc (ops : Array Oper) : Nat → Nat → Prop where
  | one {i : Nat} {oi : Oper} {e : Edge} : ops[i]? = some oi → e ∈ oi.after.toList → Region.binds .any e = true → Anc ops e.on i
  | more {i j : Nat} {oi : Oper} {e : Edge} : ops[i]? = some oi → e ∈ oi.after.toList → Region.binds .any e = true → Anc ops j e.on → Anc ops j i

theorem befs_spec {ops : Array Oper} : ∀ (l : List Oper) (acc : List Nat), ops.toList.drop acc.length = l → (∀ i j, (acc.getD i 0).testBit j = true → Anc ops j i) → ∀ i j, ((befs l acc).getD i 0).testBit j = true → Anc ops j i
  | [], acc, _, h, i, j, hb => h i j hb
  | o :: l, acc, hl, h, i, j, hb => by
    have hi : ops[acc.length]? = some o := by
      have := congrArg List.head? hl
      rw [List.head?_drop] at this
      simpa using this
    have hl' : ops.toList.drop (acc.length + 1) = l := by rw [← List.drop_drop, hl]; rfl
    refine befs_spec l _ (by simpa using hl') (fun i j hb => ?_) i j hb
    rcases Nat.lt_trichotomy i acc.length with hlt | heq | hgt
    · rw [List.getD_eq_getElem?_getD, List.getElem?_append_left hlt, ← List.getD_eq_getElem?_getD] at hb
      exact h i j hb
    · subst heq
      rw [List.getD_eq_getElem?_getD, List.getElem?_append_right (Nat.le_refl _)] at hb
      simp only [Nat.sub_self, List.getElem?_cons_zero, Option.getD_some] at hb
      have key : ∀ (es : List Edge) (s : Nat), (∀ e ∈ es, e ∈ o.after.toList) → (s.testBit j = true → Anc ops j acc.length) → (es.foldl (fun s e => if Region.binds .any e then s ||| 2 ^ e.on ||| acc.getD e.on 0 else s) s).testBit j = true → Anc ops j acc.length := by
        intro es
        induction es with
        | nil => intro s _ hs hb; exact hs hb
        | cons e es ih =>
          intro s hes hs hb
          refine ih _ (fun e' he' => hes e' (by simp [he'])) (fun hs' => ?_) hb
          simp only at hs'
          split at hs'
          · rename_i hbd
            simp only [Nat.testBit_or, Bool.or_eq_true, Nat.testBit_two_pow, decide_eq_true_eq] at hs'
            rcases hs' with (h1 | h1) | h1
            · exact hs h1
            · subst h1; exact .one hi (hes e (by simp)) hbd
            · exact .more hi (hes e (by simp)) hbd (h _ _ h1)
          · exact hs hs'
      exact key o.after.toList 0 (fun _ h => h) (fun h => by simp at h) hb
    · rw [List.getD_eq_getElem?_getD, List.getElem?_eq_none (by simp; omega)] at hb
      simp at hb

end
/-- The operations that are still to come. -/
def left (n : Nat) (listed : Array Bool) : List Nat := (List.range n).filter fun i => !listed.getD i true

theorem left_set {n i : Nat} {listed : Array Bool} (hs : listed.size = n) {pre post : List Nat} (h : left n listed = pre ++ i :: post) : left n (listed.setIfInBounds i true) = pre ++ post := by
  have hget : ∀ k, k < n → (listed.setIfInBounds i true).getD k true = if k = i then true else listed.getD k true := by
    intro k hk
    simp only [Array.getD_eq_getD_getElem?, Array.getElem?_setIfInBounds]
    by_cases hki : i = k
    · subst hki; simp [hs, hk]
    · rw [if_neg hki, if_neg (fun e => hki e.symm)]
  have h1 : left n (listed.setIfInBounds i true) = (left n listed).filter fun k => k != i := by
    unfold left
    rw [List.filter_filter]
    refine List.filter_congr fun k hk => ?_
    rw [hget k (by simpa using hk)]
    by_cases hki : k = i
    · simp [hki]
    · simp [hki]
  have hnd : (left n listed).Nodup := List.Nodup.sublist List.filter_sublist List.nodup_range
  rw [h1, h]
  rw [h] at hnd
  rw [List.nodup_append] at hnd
  obtain ⟨_, hnd2, hnd3⟩ := hnd
  rw [List.nodup_cons] at hnd2
  rw [List.filter_append, List.filter_cons]
  simp only [bne_self_eq_false, Bool.false_eq_true, if_false]
  rw [List.filter_eq_self.2 fun k hk => ?_, List.filter_eq_self.2 fun k hk => ?_]
  · simp only [bne_iff_ne, ne_eq]
    rintro rfl
    exact hnd2.1 hk
  · simp only [bne_iff_ne, ne_eq]
    exact hnd3 k hk i (by simp)

section
variable {C : Cfg} {X : Ctx} {fid : FuncId} {K : Base}

theorem drawOk_spec {v : Bool} {ops : Array Oper} (h : drawOk C fid v ops = true) {i : Nat} (hi : i < ops.size) : ∃ oi, ops[i]? = some oi ∧ (∀ e ∈ oi.after.toList, Region.binds .any e = true → e.on < i) ∧
    ∀ j, j < i → Anc ops j i ∨ ∃ oj, ops[j]? = some oj ∧ compat (cls C fid v oj) (cls C fid v oi) = true ∧ apartB C fid ops oj oi = true := by
  have h1 := List.all_eq_true.1 h i (by simpa using hi)
  rw [Array.getElem?_eq_getElem hi] at h1 ⊢
  refine ⟨_, rfl, ?_⟩
  simp only [Bool.and_eq_true, List.all_eq_true] at h1
  refine ⟨fun e he hb => ?_, fun j hj => ?_⟩
  · have := h1.1 e he
    simpa [hb] using this
  · have := h1.2 j (by simpa using hj)
    rw [Bool.or_eq_true] at this
    rcases this with h2 | h2
    · exact .inl (befs_spec ops.toList [] (by simp) (fun i j hb => by simp at hb) i j h2)
    · split at h2
      · rename_i oj hoj
        simp only [Bool.and_eq_true] at h2
        exact .inr ⟨oj, hoj, h2.1, h2.2⟩
      · cases h2

/-- What is listed is listed with all that comes before it. -/
def DownClosed (ops : Array Oper) (listed : Array Bool) : Prop := ∀ i oi, ops[i]? = some oi → listed.getD i false = true → ∀ e ∈ oi.after.toList, Region.binds .any e = true → listed.getD e.on false = true

theorem DownClosed.anc {ops : Array Oper} {listed : Array Bool} (h : DownClosed ops listed) {j i : Nat} (ha : Anc ops j i) : (∀ oi, ops[i]? = some oi → ∀ e ∈ oi.after.toList, Region.binds .any e = true → listed.getD e.on false = true) → listed.getD j false = true := by
  induction ha with
  | one hi he hb => exact fun hr => hr _ hi _ he hb
  | more hi he hb _ ih => exact fun hr => ih fun oi hoi e' he' hb' => h _ oi hoi (hr _ hi _ he hb) e' he' hb'

theorem draw_sound (hP : progOk C.P = true) (hX : CallsOK C.P K X) (hE : ExtOK C.P K C) {N : Nat} {g0 : Gh} {H0 : Heap} {w0 : World} {v : Bool} {base : Nat} {ops : Array Oper} {Q : Exit → Act → World → Prop} {fin : St} (hQ : ∀ a w, Inv K N g0 H0 w0 fin a w → Q .normal a w)
    (hD : drawOk C fid v ops = true) (hd : ops.toList.all (dstOk N) = true) : ∀ (fuel : Nat) (listed : Array Bool) {st : St} {a : Act} {w : World}, listed.size = ops.size → DownClosed ops listed → (left ops.size listed).length = fuel → Inv K N g0 H0 w0 st a w →
      evL C X fid v base ops (left ops.size listed) st = some fin → wpAny C.P .any ops Q fuel listed a w := by
  have hready : ∀ (listed : Array Bool) (i : Nat), i ∈ Region.ready .any ops listed → i ∈ left ops.size listed ∧ ∀ oi, ops[i]? = some oi → ∀ e ∈ oi.after.toList, Region.binds .any e = true → listed.getD e.on false = true := by
    intro listed i hi
    simp only [Region.ready, List.mem_filter, Bool.and_eq_true] at hi
    refine ⟨List.mem_filter.2 ⟨hi.1, hi.2.1⟩, fun oi hoi e he hb => ?_⟩
    have := hi.2.2
    rw [hoi] at this
    simp only [Option.map_some, Option.getD_some] at this
    have h2 := (Array.all_eq_true_iff_forall_mem.1 this) e (Array.mem_toList_iff.1 he)
    simpa [hb] using h2
  intro fuel
  induction fuel with
  | zero =>
    intro listed st a w hs hdc hl hI h
    have hnil : left ops.size listed = [] := List.length_eq_zero_iff.1 hl
    rw [hnil] at h
    cases h
    refine ⟨List.eq_nil_iff_forall_not_mem.2 fun i hi => ?_, hQ a w hI⟩
    have := (hready listed i hi).1
    rw [hnil] at this
    cases this
  | succ fuel ih =>
    intro listed st a w hs hdc hl hI h
    refine ⟨fun hnil => ?_, fun i hi => ?_⟩
    · exfalso
      match hlf : left ops.size listed with
      | [] => rw [hlf] at hl; cases hl
      | i :: post =>
        have hmem : i ∈ left ops.size listed := by rw [hlf]; simp
        obtain ⟨hr, hul⟩ := List.mem_filter.1 hmem
        have hin : i < ops.size := by simpa using hr
        obtain ⟨oi, hoi, h1, _⟩ := drawOk_spec hD hin
        have hfirst : ∀ j, j < i → listed.getD j true = true := by
          intro j hj
          have hsorted : (left ops.size listed).Pairwise (· < ·) := List.Pairwise.filter _ List.pairwise_lt_range
          rw [hlf] at hsorted
          have hns : j ∉ left ops.size listed := by
            rw [hlf]
            intro hm
            rcases List.mem_cons.1 hm with h2 | h2
            · omega
            · have := (List.pairwise_cons.1 hsorted).1 j h2; omega
          have h3 : ¬ (j ∈ List.range ops.size ∧ (!listed.getD j true) = true) := fun h => hns (List.mem_filter.2 h)
          have hjn : j ∈ List.range ops.size := by simp; omega
          simpa [hjn] using h3
        have : i ∈ Region.ready .any ops listed := by
          simp only [Region.ready, List.mem_filter, Bool.and_eq_true]
          refine ⟨hr, hul, ?_⟩
          rw [hoi]
          simp only [Option.map_some, Option.getD_some]
          refine Array.all_eq_true_iff_forall_mem.2 fun e he => ?_
          by_cases hb : Region.binds .any e = true
          · have h2 := h1 e (Array.mem_toList_iff.2 he) hb
            have h3 := hfirst e.on h2
            have h4 : e.on < listed.size := by omega
            simp only [Array.getD_eq_getD_getElem?, Array.getElem?_eq_getElem h4, Option.getD_some] at h3 ⊢
            simp [h3]
          · simp [hb]
        rw [hnil] at this
        cases this
    · obtain ⟨hmem, hafter⟩ := hready listed i hi
      obtain ⟨pre, post, hlf⟩ := List.append_of_mem hmem
      have hin : i < ops.size := by
        have := (List.mem_filter.1 hmem).1
        simpa using this
      obtain ⟨oi, hoi, _, h2⟩ := drawOk_spec hD hin
      have hpre : ∀ j ∈ pre, j ≠ i ∧ ∃ oj, ops[j]? = some oj ∧ compat (cls C fid v oj) (cls C fid v oi) = true ∧ apartB C fid ops oj oi = true := by
        intro j hj
        have hsorted : (left ops.size listed).Pairwise (· < ·) := List.Pairwise.filter _ List.pairwise_lt_range
        have hjm : j ∈ left ops.size listed := by rw [hlf]; simp [hj]
        rw [hlf, List.pairwise_append] at hsorted
        have hji : j < i := hsorted.2.2 j hj i (by simp)
        refine ⟨by omega, ?_⟩
        rcases h2 j hji with hanc | h3
        · exfalso
          have h4 := hdc.anc hanc hafter
          have h5 := (List.mem_filter.1 hjm).2
          have hjl : j < listed.size := by omega
          simp only [Array.getD_eq_getD_getElem?, Array.getElem?_eq_getElem hjl, Option.getD_some] at h4 h5
          rw [h4] at h5
          cases h5
        · exact h3
      rw [hlf] at h
      obtain ⟨st1, h3, h4⟩ := move_front hoi post pre st fin hpre h
      simp only [evI, hoi] at h3
      refine evGo_sound hP hX hE hoi hI (List.all_eq_true.1 hd oi ?_) h3 fun a' w' hI' => ?_
      · rw [Array.mem_toList_iff]; exact Array.mem_of_getElem? hoi
      · refine ih _ (by simpa using hs) ?_ ?_ hI' ?_
        · intro i' oi' hoi' hl' e he hb
          have hmono : ∀ k, listed.getD k false = true → (listed.setIfInBounds i true).getD k false = true := by
            intro k hk
            simp only [Array.getD_eq_getD_getElem?, Array.getElem?_setIfInBounds] at hk ⊢
            split
            · split <;> simp
              rename_i hik hlt
              subst hik
              rw [Array.getElem?_eq_none (by omega)] at hk
              simp at hk
            · exact hk
          by_cases hii : i' = i
          · subst hii
            exact hmono _ (hafter oi' hoi' e he hb)
          · refine hmono _ (hdc i' oi' hoi' ?_ e he hb)
            simp only [Array.getD_eq_getD_getElem?, Array.getElem?_setIfInBounds] at hl' ⊢
            rw [if_neg (fun e => hii e.symm)] at hl'
            exact hl'
        · rw [left_set hs hlf]
          rw [hlf] at hl
          simp at hl ⊢
          omega
        · rw [left_set hs hlf]; exact h4

end
end Go.Ev
