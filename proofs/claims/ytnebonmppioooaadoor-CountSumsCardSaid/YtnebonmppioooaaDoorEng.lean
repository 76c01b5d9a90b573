/- The walk's own words: what is known of a frame (a list of slots), of the heap (a list of pieces, apart from each other), and one law for each operation. -/
import Derived.TacticsIn
import Derived.OrdersIn
import Derived.Laws.Cells
import Derived.Laws.Tables
import Derived.Laws.AppendOwn
import Derived.Laws.Strings
import Derived.WalkKit
import Derived.LoopNIn
set_option linter.unusedVariables false
set_option linter.unusedSimpArgs false
namespace Go.Proofs.YtnebonmppioooaaDoor
namespace Eng
open Go

/-! ### What is known of a frame -/
abbrev Env := List (Nat × Value)
def look : Env → Nat → Option Value
  | [], _ => none
  | (k, v) :: r, i => bif Nat.beq k i then some v else look r i
def ev (e : Env) : Operand → Option Value
  | .tmp t => look e t
  | .const v => some v
  | .global g => some (.pointer (some ⟨g, 0, none⟩))
  | .func f => some (.func (.func f) #[] #[])

/-! ### What is known of the heap -/
structure Piece where
  fp : Nat → Prop
  ok : World → Prop
  inHeap : ∀ w, ok w → ∀ b, fp b → b < w.heap.size
  loc : ∀ w w' : World, (∀ b, fp b → w'.heap[b]? = w.heap[b]?) → ok w → ok w'
/-- A piece of the heap: a block; a row that is owned; another one. -/
inductive Chunk where
  | blk (b : Nat) (o : Obj)
  | own (e size : Nat) (v : Value) (n : Nat) (xs : List Value)
  | abs (p : Piece)
abbrev Blk (b : Nat) (o : Obj) : Chunk := .blk b o
def Chunk.fp : Chunk → Nat → Prop
  | .blk b _ => (· = b)
  | .own _ _ v _ _ => fun b => v.ownBlock = some b
  | .abs p => p.fp
def Chunk.ok : Chunk → World → Prop
  | .blk b o => fun w => w.heap[b]? = some o
  | .own e size v n xs => fun w => w.ownsRow 0 e size v n xs
  | .abs p => p.ok
theorem Chunk.inHeap (k : Chunk) (w : World) (h : k.ok w) (b : Nat) (hb : k.fp b) : b < w.heap.size := by
  cases k with
  | blk b' o => cases hb; exact (Array.getElem?_eq_some_iff.1 h).1
  | own e size v n xs => exact (World.ownsRow.lt h b hb).2
  | abs p => exact p.inHeap w h b hb
theorem Chunk.loc (k : Chunk) (w w' : World) (hs : ∀ b, k.fp b → w'.heap[b]? = w.heap[b]?) (h : k.ok w) : k.ok w' := by
  cases k with
  | blk b o => exact (hs b rfl).trans h
  | own e size v n xs =>
    obtain ⟨h1, h2⟩ := (show w.ownsRow 0 e size v n xs from h)
    refine ⟨h1, ?_⟩
    rcases h2 with h2 | ⟨g, cap, cur, rfl, h3, h4, h5⟩
    · exact .inl h2
    · exact .inr ⟨g, cap, cur, rfl, h3, (hs g rfl).trans h4, h5⟩
  | abs p => exact p.loc w w' hs h

structure S where
  env : Env
  ds : List Deferred
  H : List Chunk

structure Cx where
  ro : Option Nat
  P : Program
  N : Nat
  w0 : World
  A : Nat → Prop

structure Rep (c : Cx) (a : Act) (s : S) : Prop where
  ds : a.defers = s.ds
  size : a.tmps.size = c.N
  at_ : ∀ i v, look s.env i = some v → a.tmps[i]? = some v

structure RepW (c : Cx) (w : World) (H : List Chunk) : Prop where
  os : w.os = c.w0.os
  tape : w.tape = c.w0.tape
  output : w.output = c.w0.output
  size : c.w0.heap.size ≤ w.heap.size
  old : ∀ b, b < c.w0.heap.size → ¬ c.A b → w.heap[b]? = c.w0.heap[b]?
  ok : ∀ k ∈ H, k.ok w
  apart : H.Pairwise fun k k' => ∀ b, k.fp b → ¬ k'.fp b
  own : ∀ k ∈ H, ∀ b, k.fp b → c.A b ∨ c.w0.heap.size ≤ b

def fence (ro : Option Nat) : Fence := { Fence.wide with round := ro }

/-- The ways out of a piece of code: K where it goes on, X where it leaves. -/
def post (c : Cx) (K : S → Prop) (X : Exit → S → Prop) : Exit → Act → World → Prop :=
  fun e a w => ∃ s, Rep c a s ∧ RepW c w s.H ∧ (match e with | .normal => K s | e => X e s)

def V (c : Cx) (code : Code) (K : S → Prop) (X : Exit → S → Prop) (s : S) : Prop :=
  ∀ a w, Rep c a s → RepW c w s.H → code.wpIn (fence c.ro) 0 c.P (post c K X) a w
def VO (c : Cx) (ops : Array Oper) (l : List Oper) (K : S → Prop) (X : Exit → S → Prop) (s : S) : Prop :=
  ∀ a w, Rep c a s → RepW c w s.H → wpListIn (fence c.ro) 0 c.P ops (post c K X) l a w

variable {c : Cx} {K : S → Prop} {X : Exit → S → Prop} {s : S} {e0 : Env} {dd : List Deferred} {HH : List Chunk}

theorem look_eval {a : Act} (h : Rep c a s) {x : Operand} {v : Value} (hx : ev s.env x = some v) : a.eval x = v := by
  cases x with
  | tmp t =>
    have := h.at_ t v hx
    simp [Act.eval, Array.getD_eq_getD_getElem?, this]
  | const u => simpa [ev, Act.eval] using hx
  | global g => simpa [ev, Act.eval] using hx
  | func f => simpa [ev, Act.eval] using hx

theorem rep_put {a : Act} (h : Rep c a s) {d : Nat} (hd : Nat.blt d c.N = true) (v : Value) : Rep c (a.put (some d) v) ⟨(d, v) :: s.env, s.ds, s.H⟩ := by
  refine ⟨h.ds, by simp [Act.put, h.size], fun i u hu => ?_⟩
  have hd' : d < a.tmps.size := by rw [h.size]; exact Nat.le_of_ble_eq_true hd
  simp only [look] at hu
  by_cases e : d = i
  · subst e
    simp only [Nat.beq_refl, cond_true, Option.some.injEq] at hu
    subst hu
    simp [Act.put, hd']
  · have : Nat.beq d i = false := by
      cases hb : Nat.beq d i with
      | false => rfl
      | true => exact absurd (Nat.eq_of_beq_eq_true hb) e
    rw [this] at hu
    simp only [Act.put]
    rw [Array.getElem?_setIfInBounds_ne e]
    exact h.at_ i u hu

theorem rep_env {a : Act} {s t : S} (h : Rep c a s) (he : ∀ i v, look t.env i = some v → look s.env i = some v) (hd : s.ds = t.ds) : Rep c a t :=
  ⟨h.ds.trans hd, h.size, fun i v hv => h.at_ i v (he i v hv)⟩
theorem rep_heap {a : Act} (h : Rep c a s) (H : List Chunk) : Rep c a ⟨s.env, s.ds, H⟩ := ⟨h.ds, h.size, h.at_⟩

/-! ### Code -/
theorem v_skip (h : K s) : V c .skip K X s := fun a w ha hw => wpIn_skip ⟨s, ha, hw, h⟩
theorem v_label {l : Nat} (h : K s) : V c (.label l) K X s := fun a w ha hw => wpIn_label ⟨s, ha, hw, h⟩
theorem v_exit {id : Nat} (h : X (.exit id) s) : V c (.exit id) K X s := fun a w ha hw => wpIn_exit ⟨s, ha, hw, h⟩
theorem v_ret (h : X .ret s) : V c .ret K X s := fun a w ha hw => wpIn_ret ⟨s, ha, hw, h⟩
theorem v_mono {code : Code} {K' : S → Prop} {X' : Exit → S → Prop} (hk : ∀ s, K s → K' s) (hx : ∀ e s, X e s → X' e s) (h : V c code K X s) : V c code K' X' s :=
  fun a w ha hw => wpIn_mono (h a w ha hw) fun e a w ⟨s', h1, h2, h3⟩ => ⟨s', h1, h2, by
    cases e <;> first | exact hk _ h3 | exact hx _ _ h3⟩
theorem v_seq' {x y : Code} (h : V c x (fun s => V c y K X s) X s) : V c (.seq x y) K X s := fun a w ha hw =>
  wpIn_seq (wpIn_mono (h a w ha hw) fun e a w ⟨s', h1, h2, h3⟩ => by
    cases e with
    | normal => exact h3 a w h1 h2
    | exit id => exact ⟨s', h1, h2, h3⟩
    | goto l => exact ⟨s', h1, h2, h3⟩
    | ret => exact ⟨s', h1, h2, h3⟩
    | panic ch => exact ⟨s', h1, h2, h3⟩
    | outgrown => exact ⟨s', h1, h2, h3⟩)
/-- One behind the other: what stands behind is laid behind a name. -/
theorem v_seq {x y : Code} (h : ∀ K' : S → Prop, (∀ s, V c y K X s → K' s) → V c x K' X s) : V c (.seq x y) K X s := v_seq' (h _ fun _ h => h)
/-- A cut: all that is known where the first part ends. -/
theorem v_seq_cut {x y : Code} (J : S → Prop) (h : V c x J X s) (h' : ∀ s, J s → V c y K X s) : V c (.seq x y) K X s := v_seq' (v_mono h' (fun _ _ h => h) h)
theorem v_cond {x : Operand} {t e : Code} {b : Bool} (hc : ev e0 x = some (.bool b)) (ht : b = true → V c t K X ⟨e0, dd, HH⟩) (he : b = false → V c e K X ⟨e0, dd, HH⟩) : V c (.cond x t e) K X ⟨e0, dd, HH⟩ :=
  fun a w ha hw => wpIn_cond_split (look_eval ha hc) (fun hb => ht hb a w ha hw) (fun hb => he hb a w ha hw)
/-- The ways out of a block. -/
def blkX (id : Nat) (K : S → Prop) (X : Exit → S → Prop) : Exit → S → Prop
  | .exit id', s => (id' = id → K s) ∧ (id' ≠ id → X (.exit id') s)
  | e, s => X e s
theorem x_same {id : Nat} (h : K s) : blkX id K X (.exit id) s := ⟨fun _ => h, fun hn => absurd rfl hn⟩
theorem x_other {id id' : Nat} (hn : Nat.beq id' id = false) (h : X (.exit id') s) : blkX id K X (.exit id') s := ⟨fun e => (by subst e; simp at hn), fun _ => h⟩
theorem x_ret {id : Nat} (h : X .ret s) : blkX id K X .ret s := h
theorem x_panic {id : Nat} {ch : List PanicEntry} (h : X (.panic ch) s) : blkX id K X (.panic ch) s := h
theorem v_block {id : Nat} {code : Code} (h : V c code K (blkX id K X) s) : V c (.block id code) K X s :=
  fun a w ha hw => wpIn_block (wpIn_mono (h a w ha hw) fun e a w ⟨s', h1, h2, h3⟩ => by
    cases e with
    | normal => exact ⟨s', h1, h2, h3⟩
    | exit id' =>
      by_cases hid : id' = id
      · simp only [Exit.inBlock, hid, if_true]; exact ⟨s', h1, h2, h3.1 hid⟩
      · simp only [Exit.inBlock, hid, if_false]; exact ⟨s', h1, h2, h3.2 hid⟩
    | goto l => exact ⟨s', h1, h2, h3⟩
    | ret => exact ⟨s', h1, h2, h3⟩
    | panic ch => exact ⟨s', h1, h2, h3⟩
    | outgrown => exact ⟨s', h1, h2, h3⟩)
theorem v_cond_true {x : Operand} {t e : Code} (hc : ev s.env x = some (.bool true)) (ht : V c t K X s) : V c (.cond x t e) K X s := v_cond hc (fun _ => ht) (fun h => by cases h)
theorem v_cond_false {x : Operand} {t e : Code} (hc : ev s.env x = some (.bool false)) (he : V c e K X s) : V c (.cond x t e) K X s := v_cond hc (fun h => by cases h) (fun _ => he)
/-- A body with a label that nobody jumps to. -/
def noGotoX (X : Exit → S → Prop) : Exit → S → Prop
  | .goto _, _ => False
  | e, s => X e s
theorem v_scope {code : Code} (hro : c.ro = none) (h : V c code K (noGotoX X) s) : V c (.scope code) K X s := fun a w ha hw => by
  have e : fence c.ro = Fence.wide := by rw [hro]; rfl
  have h1 := h a w ha hw
  rw [e] at h1 ⊢
  rw [wpIn_wide] at h1 ⊢
  refine wp_scope_straight (wp_mono h1 ?_)
  rintro e a w ⟨s', h1, h2, h3⟩
  cases e with
  | goto l => exact h3.elim
  | normal => exact ⟨s', h1, h2, h3⟩
  | exit id => exact ⟨s', h1, h2, h3⟩
  | ret => exact ⟨s', h1, h2, h3⟩
  | panic ch => exact ⟨s', h1, h2, h3⟩
  | outgrown => exact ⟨s', h1, h2, h3⟩
theorem y_exit {id : Nat} (h : X (.exit id) s) : noGotoX X (.exit id) s := h
theorem y_ret (h : X .ret s) : noGotoX X .ret s := h
theorem y_panic {ch : List PanicEntry} (h : X (.panic ch) s) : noGotoX X (.panic ch) s := h
/-- A loop: I names the state at its head by what varies. -/
theorem v_loop {code : Code} {α : Type} (I : α → S → Prop) (μ : α → Nat) {a0 : α} (h0 : I a0 s)
    (h : ∀ x s, I x s → V c code (fun s' => ∃ y, I y s' ∧ μ y < μ x) X s) : V c (.loop code) K X s := by
  have key : ∀ n x s, μ x < n → I x s → ∀ a w, Rep c a s → RepW c w s.H → Code.roundsIn (fence c.ro) 0 c.P code (post c K X) n a w := by
    intro n
    induction n with
    | zero => intro x s hx; omega
    | succ n ih =>
      intro x s hx hi a w ha hw
      refine wpIn_mono (h x s hi a w ha hw) fun e a w ⟨s', h1, h2, h3⟩ => ?_
      cases e with
      | normal =>
        obtain ⟨y, hy, hlt⟩ := h3
        exact ih y s' (by omega) hy a w h1 h2
      | exit id => exact ⟨s', h1, h2, h3⟩
      | goto l => exact ⟨s', h1, h2, h3⟩
      | ret => exact ⟨s', h1, h2, h3⟩
      | panic ch => exact ⟨s', h1, h2, h3⟩
      | outgrown => exact ⟨s', h1, h2, h3⟩
  exact fun a w ha hw => wpIn_loop_rounds (μ a0 + 1) (key _ a0 s (by omega) h0 a w ha hw)

/-! ### Operations -/
theorem fence_fn (ro : Option Nat) (f : FuncId) : (fence ro).fn f := trivial
theorem fence_depth (ro : Option Nat) : (fence ro).depth = none := rfl
theorem v_region {id : Nat} {l : List Oper} (h : VO c l.toArray l K X s) : V c (.region id l.toArray false) K X s := fun a w ha hw => wpIn_region_lit (h a w ha hw)
theorem vo_nil {ops : Array Oper} (h : K s) : VO c ops [] K X s := fun a w ha hw => ⟨s, ha, hw, h⟩

theorem callsIn_of_calls {ro : Option Nat} {n : Nat} {P : Program} {f : FuncId} {args : Array Value} {w : World} {R : Ending → World → Prop} (h : Calls P f args w R) : CallsIn (fence ro) n P f args w R := by
  have := (callsIn_wide (n := n)).2 h
  exact ⟨trivial, fun cs hr => this.2 cs (room_wide _)⟩
theorem calls_of_callsIn {ro : Option Nat} {n : Nat} {P : Program} {f : FuncId} {args : Array Value} {w : World} {R : Ending → World → Prop} (h : CallsIn (fence ro) n P f args w R) : Calls P f args w R :=
  (callsIn_wide (n := n)).1 ⟨trivial, fun cs _ => h.2 cs (fun _ hd => by cases hd)⟩

section
variable {ops : Array Oper} {l : List Oper} {op : Op} {ty : TypeId} {pos : String} {af : Array Edge}
/-- A guarded operation. -/
theorem vo_guard_yes {dst : Option Tmp} {j t : Nat} {want : Bool} (hj : ((ops[j]?).bind (·.dst)) = some t) (hv : look e0 t = some (.bool want))
    (h : VO c ops (⟨dst, op, ty, pos, af, none⟩ :: l) K X ⟨e0, dd, HH⟩) : VO c ops (⟨dst, op, ty, pos, af, some (j, want)⟩ :: l) K X ⟨e0, dd, HH⟩ := fun a w ha hw => by
  have h1 := h a w ha hw
  have hy : yielded ops a.tmps j = some want := by simp [yielded, hj, ha.at_ t _ hv]
  simp only [wpListIn, Region.wanted, hy, beq_self_eq_true, if_true] at h1 ⊢
  exact h1
theorem vo_guard_no {d : Nat} {j t : Nat} {want b : Bool} (hj : ((ops[j]?).bind (·.dst)) = some t) (hv : look e0 t = some (.bool b)) (hb : b = !want) (hd : Nat.blt d c.N = true)
    (h : VO c ops l K X ⟨(d, undef) :: e0, dd, HH⟩) : VO c ops (⟨some d, op, ty, pos, af, some (j, want)⟩ :: l) K X ⟨e0, dd, HH⟩ := fun a w ha hw => by
  have hy : yielded ops a.tmps j = some b := by simp [yielded, hj, ha.at_ t _ hv]
  have hw' : (some b == some want) = false := by subst hb; cases want <;> rfl
  simp only [wpListIn, Region.wanted, hy, hw']
  exact ⟨fun _ _ => trivial, h _ w (rep_put ha hd _) hw⟩
theorem vo_op {dst : Option Tmp} (hnd : ∀ q, op ≠ .defer q)
    (h : ∀ a w, Rep c a ⟨e0, dd, HH⟩ → RepW c w HH → Oper.uponIn (fence c.ro) 0 c.P ⟨dst, op, ty, pos, af, none⟩ a (wpListIn (fence c.ro) 0 c.P ops (post c K X) l) (post c K X) ((execOp a.eval ⟨dst, op, ty, pos, af, none⟩).run c.P w)) :
    VO c ops (⟨dst, op, ty, pos, af, none⟩ :: l) K X ⟨e0, dd, HH⟩ := fun a w ha hw => by
  simp only [wpListIn, Region.wanted, if_true]
  refine ⟨fun _ _ => trivial, ?_⟩
  have := h a w ha hw
  rw [Oper.semAt_eq _ _ _ hnd]
  exact this
/-- An operation that yields a value, the world being whatever it is. -/
theorem vo_val {d : Nat} {v : Value} (hnd : ∀ q, op ≠ .defer q) (hd : Nat.blt d c.N = true)
    (hrun : ∀ a w, Rep c a ⟨e0, dd, HH⟩ → RepW c w HH → (execOp a.eval ⟨some d, op, ty, pos, af, none⟩).run c.P w = .ok (.value v) w)
    (h : VO c ops l K X ⟨(d, v) :: e0, dd, HH⟩) : VO c ops (⟨some d, op, ty, pos, af, none⟩ :: l) K X ⟨e0, dd, HH⟩ :=
  vo_op hnd fun a w ha hw => by
    rw [hrun a w ha hw]
    exact h _ w (rep_put ha hd _) hw
/-- One that turns the world. -/
theorem vo_gen {d : Nat} (hnd : ∀ q, op ≠ .defer q) (hd : Nat.blt d c.N = true)
    (h : ∀ a w, Rep c a ⟨e0, dd, HH⟩ → RepW c w HH → ∃ v w' H', (execOp a.eval ⟨some d, op, ty, pos, af, none⟩).run c.P w = .ok (.value v) w' ∧ RepW c w' H' ∧ VO c ops l K X ⟨(d, v) :: e0, dd, H'⟩) :
    VO c ops (⟨some d, op, ty, pos, af, none⟩ :: l) K X ⟨e0, dd, HH⟩ :=
  vo_op hnd fun a w ha hw => by
    obtain ⟨v, w', H', hr, hw', hk⟩ := h a w ha hw
    rw [hr]
    exact hk _ w' (rep_heap (rep_put ha hd v) H') hw'
theorem vo_skip (hnd : ∀ q, op ≠ .defer q)
    (h : ∀ a w, Rep c a ⟨e0, dd, HH⟩ → RepW c w HH → ∃ w' H', (execOp a.eval ⟨none, op, ty, pos, af, none⟩).run c.P w = .ok .skip w' ∧ RepW c w' H' ∧ VO c ops l K X ⟨e0, dd, H'⟩) :
    VO c ops (⟨none, op, ty, pos, af, none⟩ :: l) K X ⟨e0, dd, HH⟩ :=
  vo_op hnd fun a w ha hw => by
    obtain ⟨w', H', hr, hw', hk⟩ := h a w ha hw
    rw [hr]
    exact hk _ w' (rep_heap ha H') hw'
def putO (d : Option Nat) (v : Value) (e : Env) : Env := match d with | some d => (d, v) :: e | none => e
def inN (c : Cx) (d : Option Nat) : Bool := match d with | some d => Nat.blt d c.N | none => true
theorem rep_putO {a : Act} (h : Rep c a s) {d : Option Nat} (hd : inN c d = true) (v : Value) : Rep c (a.put d v) ⟨putO d v s.env, s.ds, s.H⟩ := by
  cases d with
  | none => exact h
  | some d => exact rep_put h hd v
theorem vo_enter {dst : Option Nat} {f : FuncId} {args : Array Value} (hnd : ∀ q, op ≠ .defer q) (hd : inN c dst = true)
    (hrun : ∀ a w, Rep c a ⟨e0, dd, HH⟩ → RepW c w HH → (execOp a.eval ⟨dst, op, ty, pos, af, none⟩).run c.P w = .ok (.enter f args) w)
    (h : ∀ w, RepW c w HH → Calls c.P f args w fun e w' => ∃ H', RepW c w' H' ∧ match e with
      | .returned v => VO c ops l K X ⟨putO dst v e0, dd, H'⟩
      | .panicked ch => X (.panic ch) ⟨e0, dd, H'⟩
      | .outgrown => False) :
    VO c ops (⟨dst, op, ty, pos, af, none⟩ :: l) K X ⟨e0, dd, HH⟩ :=
  vo_op hnd fun a w ha hw => by
    rw [hrun a w ha hw]
    refine ⟨fun hd => (by cases hd), callsIn_of_calls ((h w hw).mono fun e w' ⟨H', h1, h2⟩ => ?_)⟩
    cases e with
    | returned v => exact h2 _ w' (rep_heap (rep_putO ha hd v) H') h1
    | panicked ch => exact ⟨⟨e0, dd, H'⟩, rep_heap ha H', h1, h2⟩
    | outgrown => exact h2.elim
theorem vo_panic {v : Value} {dst : Option Tmp} (hnd : ∀ q, op ≠ .defer q)
    (hrun : ∀ a w, Rep c a ⟨e0, dd, HH⟩ → RepW c w HH → (execOp a.eval ⟨dst, op, ty, pos, af, none⟩).run c.P w = .halt (.panic v) w)
    (h : X (.panic [{ v, recovered := false }]) ⟨e0, dd, HH⟩) : VO c ops (⟨dst, op, ty, pos, af, none⟩ :: l) K X ⟨e0, dd, HH⟩ :=
  vo_op hnd fun a w ha hw => by
    rw [hrun a w ha hw]
    exact ⟨_, ha, hw, h⟩
end

/-! ### What cells hold -/
inductive Has : List Chunk → Nat → Obj → Prop
  | here {b : Nat} {o : Obj} {H : List Chunk} : Has (Blk b o :: H) b o
  | there {k : Chunk} {b : Nat} {o : Obj} {H : List Chunk} (h : Has H b o) : Has (k :: H) b o
theorem Has.mem {H : List Chunk} {b : Nat} {o : Obj} (h : Has H b o) : Blk b o ∈ H := by
  induction h with
  | here => simp
  | there _ ih => simp [ih]
theorem Has.blk {H : List Chunk} {b : Nat} {o : Obj} (h : Has H b o) {w : World} (hw : RepW c w H) : w.heap[b]? = some o := by
  exact hw.ok _ h.mem
inductive Upd : List Chunk → Nat → Obj → Obj → List Chunk → Prop
  | here {b : Nat} {o o' : Obj} {H : List Chunk} : Upd (Blk b o :: H) b o o' (Blk b o' :: H)
  | there {k : Chunk} {b : Nat} {o o' : Obj} {H H' : List Chunk} (h : Upd H b o o' H') : Upd (k :: H) b o o' (k :: H')
theorem Upd.has {H H' : List Chunk} {b : Nat} {o o' : Obj} (h : Upd H b o o' H') : Has H b o := by
  induction h with
  | here => exact .here
  | there _ ih => exact .there ih
theorem Upd.mem {H H' : List Chunk} {b : Nat} {o o' : Obj} (h : Upd H b o o' H') : ∀ k ∈ H', k = Blk b o' ∨ k ∈ H := by
  induction h with
  | here => intro k hk; rcases List.mem_cons.1 hk with rfl | hk <;> simp [*]
  | there _ ih =>
    intro k hk
    rcases List.mem_cons.1 hk with rfl | hk
    · simp
    · rcases ih k hk with h | h <;> simp [h]
theorem Upd.repW {H H' : List Chunk} {b : Nat} {o o' : Obj} (h : Upd H b o o' H') {w w' : World} (hw : RepW c w H) (hos : w'.os = w.os) (htape : w'.tape = w.tape) (hout : w'.output = w.output)
    (hsize : w.heap.size ≤ w'.heap.size) (hb : w'.heap[b]? = some o') (hne : ∀ i, i < w.heap.size → i ≠ b → w'.heap[i]? = w.heap[i]?) : RepW c w' H' := by
  have hown : c.A b ∨ c.w0.heap.size ≤ b := by
    have : ∃ k ∈ H, k.fp b := by
      clear hw hsize hne hb
      induction h with
      | here => exact ⟨_, List.mem_cons_self .., rfl⟩
      | there _ ih => obtain ⟨k, h1, h2⟩ := ih; exact ⟨k, List.mem_cons_of_mem _ h1, h2⟩
    obtain ⟨k, h1, h2⟩ := this
    exact hw.own k h1 b h2
  have key : H'.Pairwise (fun k k' => ∀ b, k.fp b → ¬ k'.fp b) ∧ (∀ k ∈ H', k.ok w') := by
    have hap := hw.apart
    have hok := hw.ok
    clear hown hw
    induction h with
    | @here b o o' H =>
      obtain ⟨h1, h2⟩ := List.pairwise_cons.1 hap
      refine ⟨List.pairwise_cons.2 ⟨h1, h2⟩, fun k hk => ?_⟩
      rcases List.mem_cons.1 hk with rfl | hk2
      · exact hb
      · exact k.loc w w' (fun i hi => hne i (k.inHeap w (hok k (by simp [hk2])) i hi) (fun e => h1 k hk2 b rfl (e ▸ hi))) (hok k (by simp [hk2]))
    | @there k0 b o o' H H' hu ih =>
      obtain ⟨h1, h2⟩ := List.pairwise_cons.1 hap
      obtain ⟨h3, h4⟩ := ih hb hne h2 (fun k hk => hok k (by simp [hk]))
      have hkb : ¬ k0.fp b := by
        exact fun hf => h1 _ hu.has.mem b hf rfl
      refine ⟨List.pairwise_cons.2 ⟨fun k hk => ?_, h3⟩, fun k hk => ?_⟩
      · rcases hu.mem k hk with rfl | hk
        · intro i hi e
          exact hkb (by cases e; exact hi)
        · exact h1 k hk
      · rcases List.mem_cons.1 hk with rfl | hk
        · exact k.loc w w' (fun i hi => hne i (k.inHeap w (hok k (by simp)) i hi) (fun e => hkb (e ▸ hi))) (hok k (by simp))
        · exact h4 k hk
  refine ⟨hos.trans hw.os, htape.trans hw.tape, hout.trans hw.output, Nat.le_trans hw.size hsize, fun i hi ha => ?_, key.2, key.1, fun k hk i hi => ?_⟩
  · rw [hne i (Nat.lt_of_lt_of_le hi hw.size) (fun e => ?_), hw.old i hi ha]
    subst e
    rcases hown with h1 | h1
    · exact ha h1
    · omega
  · rcases h.mem k hk with rfl | hk
    · cases hi; exact hown
    · exact hw.own k hk i hi
/-- A new piece, of blocks that were not there. -/
theorem RepW.push {w w' : World} {H : List Chunk} (hw : RepW c w H) (k : Chunk) (hos : w'.os = w.os) (htape : w'.tape = w.tape) (hout : w'.output = w.output)
    (hsize : w.heap.size ≤ w'.heap.size) (hk : k.ok w') (hnew : ∀ b, k.fp b → w.heap.size ≤ b) (hne : ∀ i, i < w.heap.size → w'.heap[i]? = w.heap[i]?) : RepW c w' (k :: H) := by
  refine ⟨hos.trans hw.os, htape.trans hw.tape, hout.trans hw.output, Nat.le_trans hw.size hsize, fun i hi ha => ?_, fun j hj => ?_, List.pairwise_cons.2 ⟨fun j hj b hb hb' => ?_, hw.apart⟩, fun j hj b hb => ?_⟩
  · rw [hne i (Nat.lt_of_lt_of_le hi hw.size), hw.old i hi ha]
  · rcases List.mem_cons.1 hj with rfl | hj
    · exact hk
    · exact j.loc w w' (fun b hb => hne b (j.inHeap w (hw.ok j hj) b hb)) (hw.ok j hj)
  · have := j.inHeap w (hw.ok j hj) b hb'
    have := hnew b hb
    omega
  · rcases List.mem_cons.1 hj with rfl | hj
    · exact .inr (Nat.le_trans hw.size (hnew b hb))
    · exact hw.own j hj b hb

def CellAt (c : Cx) (H : List Chunk) (ad : Addr) (v : Value) : Prop := ∀ w, RepW c w H → w.cell? ad = some v
theorem cell_blk {H : List Chunk} {b o : Nat} {cs : List Value} {T : TypeId} {fr : Nat × Nat} {v : Value} (h : Has H b (.cells ⟨cs⟩ T fr)) (hv : cs[o]? = some v) : CellAt c H ⟨b, o, none⟩ v := fun w hw => by
  simp [World.cell?, h.blk hw, hv]
theorem cell_old {H : List Chunk} {ad : Addr} {v : Value} (h : c.w0.cell? ad = some v) (ha : ¬ c.A ad.block) : CellAt c H ad v := fun w hw => by
  rw [← h]
  exact World.cell?_of_block (hw.old _ (World.block_lt_of_cell? _ _ h) ha)

/-! ### One law for each operation -/
/-- Does a variable of that type lie in one cell (none), or in so many (some n)? -/
def lk (P : Program) (T : TypeId) : Option (Option Nat) :=
  match P.underlying T, P.info? T with
  | some (.struct _), some i | some (.array _ _), some i => some (some i.size)
  | some _, some _ => some none
  | _, _ => none
def szOf (P : Program) (T : TypeId) : Option Nat := (P.info? T).map (·.size)
def zeroL (P : Program) (T : TypeId) : Option (List Value) := (P.info? T).bind fun i => i.zero.map fun z => z.cells.toList
/-- Where a field begins, if it has cells. -/
def fieldOff (P : Program) (T f : Nat) : Option Nat :=
  match P.underlying T with
  | some (.struct fs) => match fs[f]? with
    | some fd => match P.info? fd.type with
      | some i => if i.size = 0 then none else some fd.offset
      | none => none
    | none => none
  | _ => none
def elemSz (P : Program) (T : TypeId) : Option Nat :=
  match P.underlying T with
  | some (.slice e) => szOf P e
  | _ => none

class TLk (P : Program) (T : TypeId) (r : outParam (Option Nat)) : Prop where
  h : lk P T = some r
class TSz (P : Program) (T : TypeId) (n : outParam Nat) : Prop where
  h : szOf P T = some n
class TZero (P : Program) (T : TypeId) (zs : outParam (List Value)) : Prop where
  h : zeroL P T = some zs
class TOff (P : Program) (T f : Nat) (off : outParam Nat) : Prop where
  h : fieldOff P T f = some off
class TElSz (P : Program) (T : TypeId) (sz : outParam Nat) : Prop where
  h : elemSz P T = some sz

theorem add_off (b o n : Nat) : (⟨b, o, none⟩ : Addr).add n = ⟨b, o + n, none⟩ := by
  unfold Addr.add
  split <;> simp_all
def CellsAt (c : Cx) (H : List Chunk) (ad : Addr) (cs : List Value) : Prop := ∀ j v, cs[j]? = some v → CellAt c H (ad.add j) v
theorem cells_blk {H : List Chunk} {b o : Nat} {cs vs : List Value} {T : TypeId} {fr : Nat × Nat} (h : Has H b (.cells ⟨cs⟩ T fr)) (hv : (cs.drop o).take vs.length = vs) : CellsAt c H ⟨b, o, none⟩ vs := fun j v hj => by
  rw [add_off]
  refine cell_blk h ?_
  rw [← hv, List.getElem?_take] at hj
  split at hj
  · rw [List.getElem?_drop] at hj; exact hj
  · cases hj
theorem cells_old {H : List Chunk} {ad : Addr} {vs : List Value} (h : ∀ j v, vs[j]? = some v → c.w0.cell? (ad.add j) = some v) (ha : ¬ c.A ad.block) : CellsAt c H ad vs := fun j v hj => by
  refine cell_old (h j v hj) ?_
  unfold Addr.add
  split <;> exact ha

section
variable {ops : Array Oper} {l : List Oper} {ty : TypeId} {pos : String} {af : Array Edge} {d : Nat}
theorem o_move {x : Operand} {v : Value} (hx : ev e0 x = some v) (hd : Nat.blt d c.N = true) (h : VO c ops l K X ⟨(d, v) :: e0, dd, HH⟩) : VO c ops (⟨some d, .move x, ty, pos, af, none⟩ :: l) K X ⟨e0, dd, HH⟩ :=
  vo_val (by simp) hd (fun a w ha hw => by simp [execOp, look_eval ha hx]) h
theorem o_assign {x : Operand} {v : Value} (hx : ev e0 x = some v) (hd : Nat.blt d c.N = true) (h : VO c ops l K X ⟨(d, v) :: e0, dd, HH⟩) : VO c ops (⟨some d, .assign x, ty, pos, af, none⟩ :: l) K X ⟨e0, dd, HH⟩ :=
  vo_val (by simp) hd (fun a w ha hw => by simp [execOp, look_eval ha hx]) h
theorem o_pick_yes {x y z : Operand} {v : Value} (hx : ev e0 x = some (.bool true)) (hy : ev e0 y = some v) (hd : Nat.blt d c.N = true) (h : VO c ops l K X ⟨(d, v) :: e0, dd, HH⟩) : VO c ops (⟨some d, .pick x y z, ty, pos, af, none⟩ :: l) K X ⟨e0, dd, HH⟩ :=
  vo_val (by simp) hd (fun a w ha hw => by simp [execOp, look_eval ha hx, look_eval ha hy, asBool]) h
theorem o_pick_no {x y z : Operand} {v : Value} (hx : ev e0 x = some (.bool false)) (hz : ev e0 z = some v) (hd : Nat.blt d c.N = true) (h : VO c ops l K X ⟨(d, v) :: e0, dd, HH⟩) : VO c ops (⟨some d, .pick x y z, ty, pos, af, none⟩ :: l) K X ⟨e0, dd, HH⟩ :=
  vo_val (by simp) hd (fun a w ha hw => by simp [execOp, look_eval ha hx, look_eval ha hz, asBool]) h
theorem o_nilCheck {x : Operand} {ad : Addr} (hx : ev e0 x = some (.pointer (some ad))) (hd : Nat.blt d c.N = true) (h : VO c ops l K X ⟨(d, .pointer (some ad)) :: e0, dd, HH⟩) : VO c ops (⟨some d, .nilCheck x, ty, pos, af, none⟩ :: l) K X ⟨e0, dd, HH⟩ :=
  vo_val (by simp) hd (fun a w ha hw => by simp [execOp, look_eval ha hx]) h
theorem o_nilCheck_func {x : Operand} {f : FuncId} {fi ca : Array Value} (hx : ev e0 x = some (.func (.func f) fi ca)) (hd : Nat.blt d c.N = true) (h : VO c ops l K X ⟨(d, .func (.func f) fi ca) :: e0, dd, HH⟩) : VO c ops (⟨some d, .nilCheck x, ty, pos, af, none⟩ :: l) K X ⟨e0, dd, HH⟩ :=
  vo_val (by simp) hd (fun a w ha hw => by simp [execOp, look_eval ha hx]) h
theorem o_fieldAddr {T f off b o : Nat} {x : Operand} [hf : TOff c.P T f off] (hx : ev e0 x = some (.pointer (some ⟨b, o, none⟩))) (hd : Nat.blt d c.N = true)
    (h : VO c ops l K X ⟨(d, .pointer (some ⟨b, o + off, none⟩)) :: e0, dd, HH⟩) : VO c ops (⟨some d, .fieldAddr T x f, ty, pos, af, none⟩ :: l) K X ⟨e0, dd, HH⟩ :=
  vo_val (by simp) hd (fun a w ha hw => by
    have hf' := hf.h
    unfold fieldOff at hf'
    split at hf' <;> try cases hf'
    rename_i fs hu
    split at hf' <;> try cases hf'
    rename_i fd hfd
    split at hf' <;> try cases hf'
    rename_i i hi
    split at hf' <;> try cases hf'
    rename_i h0
    simp [execOp, look_eval ha hx, Instr.fieldAt, run_underlying hu, hfd, Instr.sureAddr, fieldPlace, sizeOf, typeInfo, hi, h0, add_off]) h
theorem o_fieldAddr' {T f off : Nat} {ad : Addr} {x : Operand} [hf : TOff c.P T f off] (hx : ev e0 x = some (.pointer (some ad))) (hd : Nat.blt d c.N = true)
    (h : VO c ops l K X ⟨(d, .pointer (some (ad.add off))) :: e0, dd, HH⟩) : VO c ops (⟨some d, .fieldAddr T x f, ty, pos, af, none⟩ :: l) K X ⟨e0, dd, HH⟩ :=
  vo_val (by simp) hd (fun a w ha hw => by
    have hf' := hf.h
    unfold fieldOff at hf'
    split at hf' <;> try cases hf'
    rename_i fs hu
    split at hf' <;> try cases hf'
    rename_i fd hfd
    split at hf' <;> try cases hf'
    rename_i i hi
    split at hf' <;> try cases hf'
    rename_i h0
    simp [execOp, look_eval ha hx, Instr.fieldAt, run_underlying hu, hfd, Instr.sureAddr, fieldPlace, sizeOf, typeInfo, hi, h0]) h
theorem lk_one {P : Program} {T : TypeId} (h : lk P T = some none) : ∃ ds i, P.underlying T = some ds ∧ P.info? T = some i ∧ ∀ w, (isAgg T).run P w = .ok false w := by
  unfold lk at h
  split at h <;> try cases h
  rename_i ds i hu hi h1 h2
  refine ⟨_, _, h1, h2, fun w => ?_⟩
  simp only [isAgg, Sem.run_bind, run_underlying h1, Result.andThen]
  cases ds <;> first | rfl | exact absurd h1 (hu _ _ · h2) | skip
  all_goals simp_all
theorem lk_many {P : Program} {T n : Nat} (h : lk P T = some (some n)) : ∃ i, P.info? T = some i ∧ i.size = n ∧ ∀ w, (isAgg T).run P w = .ok true w := by
  unfold lk at h
  split at h <;> cases h
  · rename_i fs i hu hi
    exact ⟨_, hi, rfl, fun w => by simp [isAgg, run_underlying hu]⟩
  · rename_i n e i hu hi
    exact ⟨_, hi, rfl, fun w => by simp [isAgg, run_underlying hu]⟩
theorem o_load {T : Nat} {x : Operand} {ad : Addr} {v : Value} (hx : ev e0 x = some (.pointer (some ad))) [hT : TLk c.P T none] (hc : CellAt c HH ad v) (hd : Nat.blt d c.N = true)
    (h : VO c ops l K X ⟨(d, v) :: e0, dd, HH⟩) : VO c ops (⟨some d, .load T x, ty, pos, af, none⟩ :: l) K X ⟨e0, dd, HH⟩ :=
  vo_val (by simp) hd (fun a w ha hw => by
    obtain ⟨_, _, _, _, h3⟩ := lk_one hT.h
    simp [execOp, look_eval ha hx, Instr.loadAt, Instr.sureAddr, loadVar, h3, hc w hw]) h
theorem o_loadN {T n : Nat} {x : Operand} {ad : Addr} {vs : List Value} (hx : ev e0 x = some (.pointer (some ad))) [hT : TLk c.P T (some n)] (hn : vs.length = n) (hc : CellsAt c HH ad vs) (hd : Nat.blt d c.N = true)
    (h : VO c ops l K X ⟨(d, .agg ⟨vs⟩) :: e0, dd, HH⟩) : VO c ops (⟨some d, .load T x, ty, pos, af, none⟩ :: l) K X ⟨e0, dd, HH⟩ :=
  vo_val (by simp) hd (fun a w ha hw => by
    obtain ⟨i, h1, h2, h3⟩ := lk_many hT.h
    have hl : (loadCells ad n).run c.P w = .ok vs.toArray w := by rw [← hn]; exact run_loadCells_list w ad vs (fun j v hj => hc j v hj w hw)
    simp [execOp, look_eval ha hx, Instr.loadAt, Instr.sureAddr, loadVar, h3, sizeOf, typeInfo, h1, h2, hl]) h
end

/-! ### Stores, new blocks -/
def wrL (cs : List Value) (o : Nat) : List Value → List Value
  | [] => cs
  | v :: r => wrL (cs.set o v) (o + 1) r
theorem wrL_length (vs : List Value) : ∀ (cs : List Value) (o : Nat), (wrL cs o vs).length = cs.length := by
  induction vs with
  | nil => intro cs o; rfl
  | cons v r ih => intro cs o; simp [wrL, ih]
theorem run_storeCells {P : Program} {b o : Nat} {T : TypeId} (vs : List Value) : ∀ (w : World) (cs : List Value) (i : Nat), w.heap[b]? = some (.cells ⟨cs⟩ T (0, 0)) → o + i + vs.length ≤ cs.length → vs.all Value.oneCell' = true →
    ∃ w', (storeCells ⟨b, o, none⟩ vs i).run P w = .ok () w' ∧ w'.os = w.os ∧ w'.tape = w.tape ∧ w'.output = w.output ∧ w'.heap.size = w.heap.size ∧ w'.heap[b]? = some (.cells ⟨wrL cs (o + i) vs⟩ T (0, 0)) ∧ ∀ j, j ≠ b → w'.heap[j]? = w.heap[j]? := by
  induction vs with
  | nil => intro w cs i h _ _; exact ⟨w, rfl, rfl, rfl, rfl, rfl, h, fun _ _ => rfl⟩
  | cons v r ih =>
    intro w cs i h hl h1
    simp only [List.length_cons] at hl
    simp only [List.all_cons, Bool.and_eq_true] at h1
    have hb : b < w.heap.size := (Array.getElem?_eq_some_iff.1 h).1
    have hc : w.cell? ⟨b, o + i, none⟩ = some (cs[o + i]'(by omega)) := by simp [World.cell?, h]
    have hf : w.frozen? ⟨b, o + i, none⟩ = false := by simp [World.frozen?, h]
    have hset : (w.setCell ⟨b, o + i, none⟩ v).heap[b]? = some (.cells ⟨cs.set (o + i) v⟩ T (0, 0)) := by
      simp [World.setCell, Array.getElem?_modify, h]
    obtain ⟨w', h2, h3, h4, h5, h6, h7, h8⟩ := ih (w.setCell ⟨b, o + i, none⟩ v) (cs.set (o + i) v) (i + 1) hset (by simp; omega) h1.2
    refine ⟨w', ?_, h3, h4, h5, by rw [h6]; simp [World.setCell], h7, fun j hj => ?_⟩
    · simp only [storeCells, Sem.run_bind, add_off, run_store _ _ _ _ _ h1.1, hc, hf, Bool.false_eq_true, if_false, Result.andThen, h2]
    · rw [h8 j hj]
      exact Below.heap_setCell _ _ _ _ hj
where
  Below.heap_setCell (w : World) (a : Addr) (u : Value) (k : Nat) (h : k ≠ a.block) : (w.setCell a u).heap[k]? = w.heap[k]? := by
    simp only [World.setCell, Array.getElem?_modify]
    rw [if_neg (by omega)]
theorem szOf_some {P : Program} {T n : Nat} (h : szOf P T = some n) : ∃ i, P.info? T = some i ∧ i.size = n := by
  simpa [szOf] using h
theorem zeroL_some {P : Program} {T : Nat} {l : List Value} (h : zeroL P T = some l) : ∃ i z, P.info? T = some i ∧ i.zero = some z ∧ z.cells.toList = l := by
  simp only [zeroL, Option.bind_eq_some_iff, Option.map_eq_some_iff] at h
  obtain ⟨i, h1, z, h2, h3⟩ := h
  exact ⟨i, z, h1, h2, h3⟩
theorem heap_push_old (w : World) (o : Obj) (i : Nat) (h : i < w.heap.size) : ({ w with heap := w.heap.push o } : World).heap[i]? = w.heap[i]? := by
  simp only [Array.getElem?_push]
  rw [if_neg (by omega)]
section
variable {ops : Array Oper} {l : List Oper} {ty : TypeId} {pos : String} {af : Array Edge} {d : Nat}
theorem o_store {T b o : Nat} {x y : Operand} {v : Value} {cs : List Value} {T' : TypeId} {H' : List Chunk} (hx : ev e0 x = some (.pointer (some ⟨b, o, none⟩))) (hy : ev e0 y = some v)
    {n : Nat} [hT : TSz c.P T n] (hvn : n = v.cells.toList.length) (hu : Upd HH b (.cells ⟨cs⟩ T' (0, 0)) (.cells ⟨wrL cs o v.cells.toList⟩ T' (0, 0)) H') (hb : o + v.cells.toList.length ≤ cs.length) (h1 : v.cells.toList.all Value.oneCell' = true)
    (h : VO c ops l K X ⟨e0, dd, H'⟩) : VO c ops (⟨none, .store T x y, ty, pos, af, none⟩ :: l) K X ⟨e0, dd, HH⟩ :=
  vo_skip (by simp) fun a w ha hw => by
    obtain ⟨w', h2, h3, h4, h5, h6, h7, h8⟩ := run_storeCells (P := c.P) (o := o) v.cells.toList w cs 0 (hu.has.blk hw) (by omega) h1
    obtain ⟨i, hi, hsz⟩ := szOf_some hT.h
    subst hvn
    refine ⟨w', H', ?_, hu.repW hw h3 h4 h5 (by omega) h7 (fun j _ hj => h8 j hj), h⟩
    have hsz' : v.cells.size = i.size := by rw [hsz]; simp
    simp [execOp, look_eval ha hx, look_eval ha hy, Instr.storeAt, Instr.sureAddr, storeVar, sizeOf, typeInfo, hi, hsz', h2]
theorem o_alloc {T : Nat} {zs : List Value} [hz : TZero c.P T zs] (hd : Nat.blt d c.N = true)
    (h : ∀ b, c.w0.heap.size ≤ b → VO c ops l K X ⟨(d, .pointer (some ⟨b, 0, none⟩)) :: e0, dd, Blk b (.cells ⟨zs⟩ T (0, 0)) :: HH⟩) : VO c ops (⟨some d, .alloc T, ty, pos, af, none⟩ :: l) K X ⟨e0, dd, HH⟩ :=
  vo_gen (by simp) hd fun a w ha hw => by
    obtain ⟨i, z, h1, h2, h3⟩ := zeroL_some hz.h
    refine ⟨_, { w with heap := w.heap.push (.cells ⟨zs⟩ T) }, _, ?_, hw.push (Blk w.heap.size (.cells ⟨zs⟩ T (0, 0))) rfl rfl rfl (by simp) (by show (w.heap.push _)[w.heap.size]? = _; exact Array.getElem?_push_size) (fun b hb => by cases hb; exact Nat.le_refl _) (fun i hi => heap_push_old w _ i hi), h _ hw.size⟩
    have : z.cells = ⟨zs⟩ := by rw [← h3]
    simp [execOp, Instr.alloc, zeroValue, typeInfo, h1, h2, newVar, newRow, this]
theorem o_box {T : Nat} {x : Operand} {v : Value} (hx : ev e0 x = some v) (hd : Nat.blt d c.N = true)
    (h : ∀ b, c.w0.heap.size ≤ b → VO c ops l K X ⟨(d, .pointer (some ⟨b, 0, none⟩)) :: e0, dd, Blk b (.cells ⟨v.cells.toList⟩ T (0, 0)) :: HH⟩) : VO c ops (⟨some d, .box T x, ty, pos, af, none⟩ :: l) K X ⟨e0, dd, HH⟩ :=
  vo_gen (by simp) hd fun a w ha hw => by
    refine ⟨_, { w with heap := w.heap.push (.cells ⟨v.cells.toList⟩ T) }, _, ?_, hw.push (Blk w.heap.size (.cells ⟨v.cells.toList⟩ T (0, 0))) rfl rfl rfl (by simp) (by show (w.heap.push _)[w.heap.size]? = _; exact Array.getElem?_push_size) (fun b hb => by cases hb; exact Nat.le_refl _) (fun i hi => heap_push_old w _ i hi), h _ hw.size⟩
    simp [execOp, look_eval ha hx, Instr.box, newVar, newRow]
/-- The parts of what is built, each in its place. -/
def fillL (pl : Nat → Option (Nat × Nat)) (cs : List Value) : List (Nat × Value) → Option (List Value)
  | [] => some cs
  | p :: r =>
    match pl p.1 with
    | none => none
    | some (off, sz) => if p.2.cells.toList.length = sz ∧ off + sz ≤ cs.length then fillL pl (wrL cs off p.2.cells.toList) r else none
theorem foldl_wr (vs : List Value) : ∀ (cs : List Value) (off k : Nat), (vs.zipIdx k).foldl (fun (a : Array Value) (p : Value × Nat) => a.setIfInBounds (off + p.2) p.1) (⟨cs⟩ : Array Value) = ⟨wrL cs (off + k) vs⟩ := by
  induction vs with
  | nil => intro cs off k; rfl
  | cons v r ih =>
    intro cs off k
    simp only [List.zipIdx_cons, List.foldl_cons, wrL]
    have e : (⟨cs⟩ : Array Value).setIfInBounds (off + k) v = ⟨cs.set (off + k) v⟩ := by
      apply Array.ext'
      simp
    rw [e, ih, Nat.add_assoc]
theorem fill_eq (pl : Nat → Option (Nat × Nat)) (ps : List (Nat × Value)) : ∀ (cs r : List Value), fillL pl cs ps = some r → Instr.fill pl ⟨cs⟩ ps = some ⟨r⟩ := by
  induction ps with
  | nil => intro cs r h; simp only [fillL, Option.some.injEq] at h; subst h; rfl
  | cons p ps ih =>
    intro cs r h
    obtain ⟨i, v⟩ := p
    simp only [fillL] at h
    split at h
    · cases h
    · rename_i off sz hpl
      split at h
      · rename_i hh
        have h0 : v.cells.size = sz := by rw [← hh.1]; simp
        have h2 : (v.cells.zipIdx.foldl (fun cs (p : Value × Nat) => cs.setIfInBounds (off + p.2) p.1) (⟨cs⟩ : Array Value)) = ⟨wrL cs off v.cells.toList⟩ := by
          rw [← Array.foldl_toList, Array.toList_zipIdx]
          exact foldl_wr _ cs off 0
        simp only [Instr.fill, hpl]
        rw [if_neg (by simp; omega)]
        have := ih _ _ h
        rw [← h2] at this
        exact this
      · cases h
def placesOf (P : Program) (T : TypeId) : Option (List (Nat × Nat)) :=
  match P.underlying T with
  | some (.struct fs) => fs.toList.mapM fun f => (szOf P f.type).map fun n => (f.offset, n)
  | _ => none
class TPl (P : Program) (T : TypeId) (pl : outParam (List (Nat × Nat))) : Prop where
  h : placesOf P T = some pl
theorem parts_eval {a : Act} (ha : Rep c a s) : ∀ (L : List (Nat × Operand)) (vs : List (Nat × Value)), L.mapM (fun q => (ev s.env q.2).map fun v => (q.1, v)) = some vs → L.map (fun q => (q.1, a.eval q.2)) = vs
  | [], vs, h => by simpa using h
  | q :: L, vs, h => by
    simp only [List.mapM_cons, Option.bind_eq_bind, Option.bind_eq_some_iff, Option.map_eq_some_iff, Option.pure_def, Option.some.injEq] at h
    obtain ⟨p, ⟨v, e1, rfl⟩, ps', e2, rfl⟩ := h
    simp [parts_eval ha L ps' e2, look_eval ha e1]
theorem o_build {T : Nat} {ps : Array (Nat × Operand)} {pl : List (Nat × Nat)} {zs r : List Value} {vs : List (Nat × Value)} [hz : TZero c.P T zs] [hp : TPl c.P T pl]
    (hv : ps.toList.mapM (fun q => (ev e0 q.2).map fun v => (q.1, v)) = some vs) (hf : fillL (pl[·]?) zs vs = some r) (hd : Nat.blt d c.N = true)
    (h : VO c ops l K X ⟨(d, .agg ⟨r⟩) :: e0, dd, HH⟩) : VO c ops (⟨some d, .build T ps, ty, pos, af, none⟩ :: l) K X ⟨e0, dd, HH⟩ :=
  vo_val (by simp) hd (fun a w ha hw => by
    obtain ⟨i, z, h1, h2, h3⟩ := zeroL_some hz.h
    have hzc : z.cells = ⟨zs⟩ := by rw [← h3]
    have hb : c.P.built T (ps.map fun (p : Nat × Operand) => (p.1, a.eval p.2)).toList = some ⟨r⟩ := by
      have hp' := hp.h
      unfold placesOf at hp'
      split at hp' <;> try cases hp'
      rename_i fs hu
      have hp' : fs.toList.mapM (fun f => (c.P.info? f.type).map fun i => (f.offset, i.size)) = some pl := by
        rw [← hp']; congr 1; funext f; simp [szOf]; cases c.P.info? f.type <;> rfl
      simp only [Program.built, h1, hu, h2, hp', hzc]
      rw [Array.toList_map, parts_eval ha _ _ hv]
      have e : (fun x : Nat => pl.toArray[x]?) = (fun x : Nat => pl[x]?) := by funext x; simp
      rw [e]
      exact fill_eq _ _ _ _ hf
    simp [execOp, run_build w T _ _ hb]) h
end

/-! ### Numbers, texts, slices, calls -/
/-- The numbers of a kind. -/
def inK (k : IntKind) (n : Int) : Prop := k.wrap n = n
theorem inK_i64 {n : Int} (h : -9223372036854775808 ≤ n ∧ n ≤ 9223372036854775807) : inK .i64 n := by
  unfold inK IntKind.wrap
  simp only [IntKind.bits, IntKind.signed, Bool.true_and, decide_eq_true_eq, ge_iff_le]
  by_cases hh : (2 : Int) ^ (64 - 1) ≤ n % 2 ^ 64
  · rw [if_pos hh]; omega
  · rw [if_neg hh]; omega
theorem inK_u64 {n : Int} (h : 0 ≤ n ∧ n < 18446744073709551616) : inK .u64 n := by
  unfold inK IntKind.wrap
  simp only [IntKind.bits, IntKind.signed, Bool.false_and]
  simp; omega
theorem inK_u8 {n : Int} (h : 0 ≤ n ∧ n < 256) : inK .u8 n := by
  unfold inK IntKind.wrap
  simp only [IntKind.bits, IntKind.signed, Bool.false_and]
  simp; omega
section
variable {ops : Array Oper} {l : List Oper} {ty : TypeId} {pos : String} {af : Array Edge} {d : Nat} {T T2 : TypeId} {x y : Operand} {k : IntKind} {a b r : Int}
theorem beq_dec (a b : Int) : (a == b) = decide (a = b) := by rw [Bool.eq_iff_iff]; simp
theorem guard_int {P : Program} {w : World} {op : BinOp} {T : TypeId} {x y : Operand} {k k' : IntKind} {a b : Int} : (eqGuard op T x y (.int k a) (.int k' b)).run P w = .ok () w := by
  unfold eqGuard
  cases op <;> rfl
theorem o_add (hx : ev e0 x = some (.int k a)) (hy : ev e0 y = some (.int k b)) (hr : k.wrap (a + b) = r) (hd : Nat.blt d c.N = true) (h : VO c ops l K X ⟨(d, .int k r) :: e0, dd, HH⟩) : VO c ops (⟨some d, .binOp .add T x y T2, ty, pos, af, none⟩ :: l) K X ⟨e0, dd, HH⟩ :=
  vo_val (by simp) hd (fun a w ha hw => by simp [execOp, look_eval ha hx, look_eval ha hy, guard_int, binOp, Op.intArith, hr]) h
theorem o_sub (hx : ev e0 x = some (.int k a)) (hy : ev e0 y = some (.int k b)) (hr : k.wrap (a - b) = r) (hd : Nat.blt d c.N = true) (h : VO c ops l K X ⟨(d, .int k r) :: e0, dd, HH⟩) : VO c ops (⟨some d, .binOp .sub T x y T2, ty, pos, af, none⟩ :: l) K X ⟨e0, dd, HH⟩ :=
  vo_val (by simp) hd (fun a w ha hw => by simp [execOp, look_eval ha hx, look_eval ha hy, guard_int, binOp, Op.intArith, hr]) h
theorem o_mul (hx : ev e0 x = some (.int k a)) (hy : ev e0 y = some (.int k b)) (hr : k.wrap (a * b) = r) (hd : Nat.blt d c.N = true) (h : VO c ops l K X ⟨(d, .int k r) :: e0, dd, HH⟩) : VO c ops (⟨some d, .binOp .mul T x y T2, ty, pos, af, none⟩ :: l) K X ⟨e0, dd, HH⟩ :=
  vo_val (by simp) hd (fun a w ha hw => by simp [execOp, look_eval ha hx, look_eval ha hy, guard_int, binOp, Op.intArith, hr]) h
theorem o_quo (hx : ev e0 x = some (.int k a)) (hy : ev e0 y = some (.int k b)) (h0 : b ≠ 0) (hr : k.wrap (a.tdiv b) = r) (hd : Nat.blt d c.N = true) (h : VO c ops l K X ⟨(d, .int k r) :: e0, dd, HH⟩) : VO c ops (⟨some d, .binOp .quo T x y T2, ty, pos, af, none⟩ :: l) K X ⟨e0, dd, HH⟩ :=
  vo_val (by simp) hd (fun a w ha hw => by simp [execOp, look_eval ha hx, look_eval ha hy, guard_int, binOp, Op.intDiv, h0, hr]) h
theorem o_rem (hx : ev e0 x = some (.int k a)) (hy : ev e0 y = some (.int k b)) (h0 : b ≠ 0) (hr : a.tmod b = r) (hd : Nat.blt d c.N = true) (h : VO c ops l K X ⟨(d, .int k r) :: e0, dd, HH⟩) : VO c ops (⟨some d, .binOp .rem T x y T2, ty, pos, af, none⟩ :: l) K X ⟨e0, dd, HH⟩ :=
  vo_val (by simp) hd (fun a w ha hw => by simp [execOp, look_eval ha hx, look_eval ha hy, guard_int, binOp, Op.intDiv, h0, hr]) h
def bitI (op : BinOp) (k : IntKind) (x y : Int) : Int :=
  match op with
  | .and => k.wrap (BitVec.ofInt k.bits x &&& BitVec.ofInt k.bits y).toNat
  | .or => k.wrap (BitVec.ofInt k.bits x ||| BitVec.ofInt k.bits y).toNat
  | .xor => k.wrap (BitVec.ofInt k.bits x ^^^ BitVec.ofInt k.bits y).toNat
  | _ => k.wrap (BitVec.ofInt k.bits x &&& ~~~ BitVec.ofInt k.bits y).toNat
theorem o_and (hx : ev e0 x = some (.int k a)) (hy : ev e0 y = some (.int k b)) (hr : bitI .and k a b = r) (hd : Nat.blt d c.N = true) (h : VO c ops l K X ⟨(d, .int k r) :: e0, dd, HH⟩) : VO c ops (⟨some d, .binOp .and T x y T2, ty, pos, af, none⟩ :: l) K X ⟨e0, dd, HH⟩ :=
  vo_val (by simp) hd (fun a w ha hw => by subst hr; simp [execOp, look_eval ha hx, look_eval ha hy, guard_int, binOp, Op.intBits, bitI]) h
theorem o_or (hx : ev e0 x = some (.int k a)) (hy : ev e0 y = some (.int k b)) (hr : bitI .or k a b = r) (hd : Nat.blt d c.N = true) (h : VO c ops l K X ⟨(d, .int k r) :: e0, dd, HH⟩) : VO c ops (⟨some d, .binOp .or T x y T2, ty, pos, af, none⟩ :: l) K X ⟨e0, dd, HH⟩ :=
  vo_val (by simp) hd (fun a w ha hw => by subst hr; simp [execOp, look_eval ha hx, look_eval ha hy, guard_int, binOp, Op.intBits, bitI]) h
theorem o_xor (hx : ev e0 x = some (.int k a)) (hy : ev e0 y = some (.int k b)) (hr : bitI .xor k a b = r) (hd : Nat.blt d c.N = true) (h : VO c ops l K X ⟨(d, .int k r) :: e0, dd, HH⟩) : VO c ops (⟨some d, .binOp .xor T x y T2, ty, pos, af, none⟩ :: l) K X ⟨e0, dd, HH⟩ :=
  vo_val (by simp) hd (fun a w ha hw => by subst hr; simp [execOp, look_eval ha hx, look_eval ha hy, guard_int, binOp, Op.intBits, bitI]) h
theorem o_andNot (hx : ev e0 x = some (.int k a)) (hy : ev e0 y = some (.int k b)) (hr : bitI .andNot k a b = r) (hd : Nat.blt d c.N = true) (h : VO c ops l K X ⟨(d, .int k r) :: e0, dd, HH⟩) : VO c ops (⟨some d, .binOp .andNot T x y T2, ty, pos, af, none⟩ :: l) K X ⟨e0, dd, HH⟩ :=
  vo_val (by simp) hd (fun a w ha hw => by subst hr; simp [execOp, look_eval ha hx, look_eval ha hy, guard_int, binOp, Op.intBits, bitI]) h
theorem o_shl {k2 : IntKind} (hx : ev e0 x = some (.int k a)) (hy : ev e0 y = some (.int k2 b)) (h0 : 0 ≤ b) (hr : k.wrap (a * 2 ^ (min b.toNat k.bits)) = r) (hd : Nat.blt d c.N = true) (h : VO c ops l K X ⟨(d, .int k r) :: e0, dd, HH⟩) : VO c ops (⟨some d, .binOp .shl T x y T2, ty, pos, af, none⟩ :: l) K X ⟨e0, dd, HH⟩ :=
  vo_val (by simp) hd (fun a w ha hw => by subst hr; simp [execOp, look_eval ha hx, look_eval ha hy, guard_int, binOp, Op.shift, Int.not_lt.2 h0]) h
theorem o_shr {k2 : IntKind} (hx : ev e0 x = some (.int k a)) (hy : ev e0 y = some (.int k2 b)) (h0 : 0 ≤ b) (hr : a.fdiv (2 ^ (min b.toNat k.bits)) = r) (hd : Nat.blt d c.N = true) (h : VO c ops l K X ⟨(d, .int k r) :: e0, dd, HH⟩) : VO c ops (⟨some d, .binOp .shr T x y T2, ty, pos, af, none⟩ :: l) K X ⟨e0, dd, HH⟩ :=
  vo_val (by simp) hd (fun a w ha hw => by subst hr; simp [execOp, look_eval ha hx, look_eval ha hy, guard_int, binOp, Op.shift, Int.not_lt.2 h0]) h
theorem o_eql (hx : ev e0 x = some (.int k a)) (hy : ev e0 y = some (.int k b)) (hd : Nat.blt d c.N = true) (h : VO c ops l K X ⟨(d, .bool (decide (a = b))) :: e0, dd, HH⟩) : VO c ops (⟨some d, .binOp .eql T x y T2, ty, pos, af, none⟩ :: l) K X ⟨e0, dd, HH⟩ :=
  vo_val (by simp) hd (fun a w ha hw => by simp [execOp, look_eval ha hx, look_eval ha hy, guard_int, binOp, Op.intCmp, beq_dec]) h
theorem o_neq (hx : ev e0 x = some (.int k a)) (hy : ev e0 y = some (.int k b)) (hd : Nat.blt d c.N = true) (h : VO c ops l K X ⟨(d, .bool (decide (a ≠ b))) :: e0, dd, HH⟩) : VO c ops (⟨some d, .binOp .neq T x y T2, ty, pos, af, none⟩ :: l) K X ⟨e0, dd, HH⟩ :=
  vo_val (by simp) hd (fun a w ha hw => by simp [execOp, look_eval ha hx, look_eval ha hy, guard_int, binOp, Op.intCmp, bne, beq_dec]) h
theorem o_lss (hx : ev e0 x = some (.int k a)) (hy : ev e0 y = some (.int k b)) (hd : Nat.blt d c.N = true) (h : VO c ops l K X ⟨(d, .bool (decide (a < b))) :: e0, dd, HH⟩) : VO c ops (⟨some d, .binOp .lss T x y T2, ty, pos, af, none⟩ :: l) K X ⟨e0, dd, HH⟩ :=
  vo_val (by simp) hd (fun a w ha hw => by simp [execOp, look_eval ha hx, look_eval ha hy, guard_int, binOp, Op.intCmp]) h
theorem o_leq (hx : ev e0 x = some (.int k a)) (hy : ev e0 y = some (.int k b)) (hd : Nat.blt d c.N = true) (h : VO c ops l K X ⟨(d, .bool (decide (a ≤ b))) :: e0, dd, HH⟩) : VO c ops (⟨some d, .binOp .leq T x y T2, ty, pos, af, none⟩ :: l) K X ⟨e0, dd, HH⟩ :=
  vo_val (by simp) hd (fun a w ha hw => by simp [execOp, look_eval ha hx, look_eval ha hy, guard_int, binOp, Op.intCmp]) h
theorem o_gtr (hx : ev e0 x = some (.int k a)) (hy : ev e0 y = some (.int k b)) (hd : Nat.blt d c.N = true) (h : VO c ops l K X ⟨(d, .bool (decide (b < a))) :: e0, dd, HH⟩) : VO c ops (⟨some d, .binOp .gtr T x y T2, ty, pos, af, none⟩ :: l) K X ⟨e0, dd, HH⟩ :=
  vo_val (by simp) hd (fun a w ha hw => by simp [execOp, look_eval ha hx, look_eval ha hy, guard_int, binOp, Op.intCmp]) h
theorem o_geq (hx : ev e0 x = some (.int k a)) (hy : ev e0 y = some (.int k b)) (hd : Nat.blt d c.N = true) (h : VO c ops l K X ⟨(d, .bool (decide (b ≤ a))) :: e0, dd, HH⟩) : VO c ops (⟨some d, .binOp .geq T x y T2, ty, pos, af, none⟩ :: l) K X ⟨e0, dd, HH⟩ :=
  vo_val (by simp) hd (fun a w ha hw => by simp [execOp, look_eval ha hx, look_eval ha hy, guard_int, binOp, Op.intCmp]) h
theorem o_not {t : Bool} (hx : ev e0 x = some (.bool t)) (hd : Nat.blt d c.N = true) (h : VO c ops l K X ⟨(d, .bool (!t)) :: e0, dd, HH⟩) : VO c ops (⟨some d, .unOp .not T x, ty, pos, af, none⟩ :: l) K X ⟨e0, dd, HH⟩ :=
  vo_val (by simp) hd (fun a w ha hw => by simp [execOp, look_eval ha hx, Op.unary]) h
theorem o_neg (hx : ev e0 x = some (.int k a)) (hr : k.wrap (0 - a) = r) (hd : Nat.blt d c.N = true) (h : VO c ops l K X ⟨(d, .int k r) :: e0, dd, HH⟩) : VO c ops (⟨some d, .unOp .neg T x, ty, pos, af, none⟩ :: l) K X ⟨e0, dd, HH⟩ :=
  vo_val (by simp) hd (fun a w ha hw => by subst hr; simp [execOp, look_eval ha hx, Op.unary, Op.intArith]) h
/-- Which kind of whole number a type is. -/
def kindOf (P : Program) (T : TypeId) : Option IntKind := match P.underlying T with | some (.int k) => some k | _ => none
theorem kindOf_some {P : Program} {T : TypeId} {k : IntKind} (h : kindOf P T = some k) : P.underlying T = some (.int k) := by
  unfold kindOf at h
  split at h
  · rename_i k' hk; cases h; exact hk
  · cases h
class TKind (P : Program) (T : TypeId) (k : outParam IntKind) : Prop where
  h : kindOf P T = some k
theorem o_convert {k2 : IntKind} [hs : TKind c.P T k] [ht : TKind c.P T2 k2] (hx : ev e0 x = some (.int k a)) (hr : k2.wrap a = r) (hd : Nat.blt d c.N = true)
    (h : VO c ops l K X ⟨(d, .int k2 r) :: e0, dd, HH⟩) : VO c ops (⟨some d, .convert T T2 x, ty, pos, af, none⟩ :: l) K X ⟨e0, dd, HH⟩ :=
  vo_val (by simp) hd (fun a w ha hw => by subst hr; simp [execOp, look_eval ha hx, convert, run_underlying (kindOf_some hs.h), run_underlying (kindOf_some ht.h), Conv.intToInt]) h
theorem o_extract {vs : Array Value} {i : Nat} {v : Value} (hx : ev e0 x = some (.tuple vs)) (hi : vs[i]? = some v) (hd : Nat.blt d c.N = true)
    (h : VO c ops l K X ⟨(d, v) :: e0, dd, HH⟩) : VO c ops (⟨some d, .extract x i, ty, pos, af, none⟩ :: l) K X ⟨e0, dd, HH⟩ :=
  vo_val (by simp) hd (fun a w ha hw => by simp [execOp, look_eval ha hx, Instr.extract, hi]) h
theorem eval_all {a : Act} (ha : Rep c a s) : ∀ (L : List Operand) (vs : List Value), L.mapM (ev s.env) = some vs → L.map a.eval = vs
  | [], vs, h => by simpa using h
  | q :: L, vs, h => by
    simp only [List.mapM_cons, Option.bind_eq_bind, Option.bind_eq_some_iff, Option.pure_def, Option.some.injEq] at h
    obtain ⟨v, e1, ps', e2, rfl⟩ := h
    simp [eval_all ha L ps' e2, look_eval ha e1]
theorem eval_arr {a : Act} (ha : Rep c a s) {L : Array Operand} {vs : List Value} (h : L.toList.mapM (ev s.env) = some vs) : L.map a.eval = ⟨vs⟩ := by
  apply Array.ext'
  rw [Array.toList_map]
  exact eval_all ha _ _ h
theorem o_makeFunc {fn : Fn} {fi ca : Array Operand} {vf vc : List Value} (hf : fi.toList.mapM (ev e0) = some vf) (hc : ca.toList.mapM (ev e0) = some vc) (hd : Nat.blt d c.N = true)
    (h : VO c ops l K X ⟨(d, .func fn ⟨vf⟩ ⟨vc⟩) :: e0, dd, HH⟩) : VO c ops (⟨some d, .makeFunc fn fi ca, ty, pos, af, none⟩ :: l) K X ⟨e0, dd, HH⟩ :=
  vo_val (by simp) hd (fun a w ha hw => by simp [execOp, eval_arr ha hf, eval_arr ha hc, Instr.makeFunc]) h
/-- A concrete type. -/
def concr (P : Program) (T : TypeId) : Bool := match P.underlying T with | some (.interface _) => false | some _ => true | none => false
class TConc (P : Program) (T : TypeId) : Prop where
  h : concr P T = true
theorem o_makeInterface {v : Value} [hT : TConc c.P T] (hx : ev e0 x = some v) (hd : Nat.blt d c.N = true)
    (h : VO c ops l K X ⟨(d, .iface T v) :: e0, dd, HH⟩) : VO c ops (⟨some d, .makeInterface T x, ty, pos, af, none⟩ :: l) K X ⟨e0, dd, HH⟩ :=
  vo_val (by simp) hd (fun a w ha hw => by
    have : (Instr.makeInterface T v).run c.P w = .ok (.iface T v) w := by
      have hT' := hT.h
      unfold concr at hT'
      split at hT' <;> try cases hT'
      rename_i ds hds hu
      simp only [Instr.makeInterface, Sem.run_bind, run_underlying hu, Result.andThen]
      cases ds <;> first | rfl | exact absurd hu (hds _)
    simp [execOp, look_eval ha hx, this]) h
theorem o_panic {v : Value} {dst : Option Tmp} (hx : ev e0 x = some (.iface T v)) (h : X (.panic [{ v := .iface T v, recovered := false }]) ⟨e0, dd, HH⟩) : VO c ops (⟨dst, .panic x, ty, pos, af, none⟩ :: l) K X ⟨e0, dd, HH⟩ :=
  vo_panic (by simp) (fun a w ha hw => by simp [execOp, look_eval ha hx, Instr.panic]) h
end

/-! ### Exchanging pieces -/
inductive Rem : List Chunk → Chunk → List Chunk → Prop
  | here {k : Chunk} {H : List Chunk} : Rem (k :: H) k H
  | there {j k : Chunk} {H H' : List Chunk} (h : Rem H k H') : Rem (j :: H) k (j :: H')
inductive Split : List Chunk → List Chunk → List Chunk → Prop
  | nil {H : List Chunk} : Split H [] H
  | cons {k : Chunk} {H H1 L R : List Chunk} (h : Rem H k H1) (h' : Split H1 L R) : Split H (k :: L) R
theorem Rem.perm {H H' : List Chunk} {k : Chunk} (h : Rem H k H') : H.Perm (k :: H') := by
  induction h with
  | here => exact List.Perm.refl _
  | there _ ih => exact (List.Perm.cons _ ih).trans (List.Perm.swap _ _ _)
theorem Split.perm {H L R : List Chunk} (h : Split H L R) : H.Perm (L ++ R) := by
  induction h with
  | nil => exact List.Perm.refl _
  | cons h _ ih => exact h.perm.trans (List.Perm.cons _ ih)
def Apart (k k' : Chunk) : Prop := ∀ b, k.fp b → ¬ k'.fp b
theorem Apart.symm {k k' : Chunk} (h : Apart k k') : Apart k' k := fun b h1 h2 => h b h2 h1
theorem RepW.perm {w : World} {H H' : List Chunk} (hw : RepW c w H) (h : H.Perm H') : RepW c w H' :=
  ⟨hw.os, hw.tape, hw.output, hw.size, hw.old, fun k hk => hw.ok k (h.mem_iff.2 hk), (h.pairwise_iff (R := Apart) (fun h => h.symm)).1 hw.apart, fun k hk => hw.own k (h.mem_iff.2 hk)⟩
/-- Some pieces fewer are known. -/
theorem RepW.drop {w : World} {L R : List Chunk} (hw : RepW c w (L ++ R)) : RepW c w L :=
  ⟨hw.os, hw.tape, hw.output, hw.size, hw.old, fun k hk => hw.ok k (List.mem_append_left _ hk), (List.pairwise_append.1 hw.apart).1, fun k hk => hw.own k (List.mem_append_left _ hk)⟩
/-- What becomes of a heap when the pieces L become L', and nothing else of it turns. -/
structure Trans (w : World) (L : List Chunk) (w' : World) (L' : List Chunk) : Prop where
  os : w'.os = w.os
  tape : w'.tape = w.tape
  output : w'.output = w.output
  size : w.heap.size ≤ w'.heap.size
  old : ∀ b, b < w.heap.size → (∀ k ∈ L, ¬ k.fp b) → w'.heap[b]? = w.heap[b]?
  ok : ∀ k ∈ L', k.ok w'
  apart : L'.Pairwise Apart
  fp : ∀ k ∈ L', ∀ b, k.fp b → (∃ k0 ∈ L, k0.fp b) ∨ w.heap.size ≤ b
theorem RepW.exch {w w' : World} {H L R L' : List Chunk} (hw : RepW c w H) (hs : Split H L R) (ht : Trans w L w' L') : RepW c w' (L' ++ R) := by
  have hp := hw.perm hs.perm
  obtain ⟨hL, hR, hLR⟩ := List.pairwise_append.1 hp.apart
  have hRkeep : ∀ k ∈ R, ∀ b, k.fp b → w'.heap[b]? = w.heap[b]? := fun k hk b hb =>
    ht.old b (k.inHeap w (hp.ok k (List.mem_append_right _ hk)) b hb) fun k0 hk0 hb0 => hLR k0 hk0 k hk b hb0 hb
  refine ⟨ht.os.trans hw.os, ht.tape.trans hw.tape, ht.output.trans hw.output, Nat.le_trans hw.size ht.size, fun b hb hA => ?_, fun k hk => ?_, List.pairwise_append.2 ⟨ht.apart, hR, fun k hk k' hk' b hb hb' => ?_⟩, fun k hk b hb => ?_⟩
  · rw [ht.old b (Nat.lt_of_lt_of_le hb hw.size) (fun k hk hkb => ?_), hw.old b hb hA]
    rcases hp.own k (List.mem_append_left _ hk) b hkb with h | h
    · exact hA h
    · omega
  · rcases List.mem_append.1 hk with h | h
    · exact ht.ok k h
    · exact k.loc w w' (hRkeep k h) (hp.ok k (List.mem_append_right _ h))
  · rcases ht.fp k hk b hb with ⟨k0, h0, h1⟩ | h
    · exact hLR k0 h0 k' hk' b h1 hb'
    · have := k'.inHeap w (hp.ok k' (List.mem_append_right _ hk')) b hb'
      omega
  · rcases List.mem_append.1 hk with h | h
    · rcases ht.fp k h b hb with ⟨k0, h0, h1⟩ | h'
      · exact hp.own k0 (List.mem_append_left _ h0) b h1
      · exact .inr (Nat.le_trans hw.size h')
    · exact hp.own k (List.mem_append_right _ h) b hb

/-! ### A contract: what a call of a function does with the pieces L, where D holds of the rest -/
def Hold (w : World) (L : List Chunk) : Prop := (∀ k ∈ L, k.ok w) ∧ L.Pairwise Apart
def Tr (P : Program) (f : FuncId) (args : Array Value) (w : World) (L : List Chunk) (R : Ending → List Chunk → Prop) : Prop :=
  Hold w L → Calls P f args w fun e w' => ∃ L', R e L' ∧ Trans w L w' L'
theorem RepW.hold {w : World} {H L R : List Chunk} (hw : RepW c w H) (hs : Split H L R) : Hold w L := by
  have hp := hw.perm hs.perm
  exact ⟨fun k hk => hp.ok k (List.mem_append_left _ hk), (List.pairwise_append.1 hp.apart).1⟩
theorem Trans.refl {w : World} {L : List Chunk} (h : Hold w L) : Trans w L w L := ⟨rfl, rfl, rfl, Nat.le_refl _, fun _ _ _ => rfl, h.1, h.2, fun k hk b hb => .inl ⟨k, hk, hb⟩⟩

section
variable {ops : Array Oper} {l : List Oper} {ty : TypeId} {pos : String} {af : Array Edge} {dst : Option Nat}
/-- Is there such a function, with a body? -/
def entersB (P : Program) (f : FuncId) : Bool := match P.funcs[f]? with | some fn => fn.name != "runtime.NumGoroutine" && fn.body.isSome | none => false
theorem enters_run {P : Program} {f : FuncId} (h : entersB P f = true) (args : Array Value) (w : World) : (callFunc f args).run P w = .ok (.enter f args) w := by
  unfold entersB at h
  split at h
  · rename_i fn hf
    simp only [Bool.and_eq_true, bne_iff_ne, ne_eq] at h
    obtain ⟨b, hb⟩ := Option.isSome_iff_exists.1 h.2
    simp [callFunc, hf, h.1, hb]
  · cases h
class TEnt (P : Program) (f : FuncId) : Prop where
  h : entersB P f = true
theorem o_call {fv : Operand} {as : Array Operand} {ats : Array TypeId} {f : FuncId} {fi ca : Array Value} {vs : List Value} {L R : List Chunk} {Q : Ending → List Chunk → Prop}
    (hf : ev e0 fv = some (.func (.func f) fi ca)) (ha : as.toList.mapM (ev e0) = some vs) [he : TEnt c.P f] (hd : inN c dst = true)
    (hs : Split HH L R) (hc : ∀ w, RepW c w HH → Tr c.P f (fi ++ ⟨vs⟩ ++ ca) w L Q)
    (h : ∀ e L', Q e L' → match e with
      | .returned v => VO c ops l K X ⟨putO dst v e0, dd, L' ++ R⟩
      | .panicked ch => X (.panic ch) ⟨e0, dd, L' ++ R⟩
      | .outgrown => False) :
    VO c ops (⟨dst, .call { callee := .value fv, args := as, argTypes := ats }, ty, pos, af, none⟩ :: l) K X ⟨e0, dd, HH⟩ := by
  refine vo_enter (f := f) (args := fi ++ ⟨vs⟩ ++ ca) (by simp) hd (fun a w hr hw => ?_) (fun w hw => ?_)
  · simp [execOp, resolve, look_eval hr hf, eval_arr hr ha, Deferred.ofValue, invoke, enters_run he.h]
  · refine Calls.mono (hc w hw (hw.hold hs)) ?_
    rintro e w' ⟨L', h1, h2⟩
    refine ⟨L' ++ R, hw.exch hs h2, ?_⟩
    have h3 := h e L' h1
    cases e with
    | returned v => exact h3
    | panicked ch => exact h3
    | outgrown => exact h3
end

/-! ### A function's contract out of its body's walk -/
/-- What a result's variable holds. -/
def ResAt (c : Cx) (s : S) : ResultVar → Value → Prop
  | .tmp t, v => look s.env t = some v
  | .cell a T, v => ∃ ad, look s.env a = some (.pointer (some ad)) ∧ ((lk c.P T = some none ∧ CellAt c s.H ad v) ∨ ∃ vs : List Value, v = .agg ⟨vs⟩ ∧ lk c.P T = some (some vs.length) ∧ CellsAt c s.H ad vs)
def ResAll (c : Cx) (s : S) : List ResultVar → List Value → Prop
  | [], [] => True
  | r :: rs, v :: vs => ResAt c s r v ∧ ResAll c s rs vs
  | _, _ => False
def packV : List Value → Value
  | [v] => v
  | vs => .tuple ⟨vs⟩
def resSem (tmps : Array Value) : ResultVar → Sem Value
  | .tmp t => pure (tmps.getD t undef)
  | .cell a t => do loadVar t (← asAddr (tmps.getD a undef))
theorem resSem_run {w : World} {a : Act} (ha : Rep c a s) (hw : RepW c w s.H) {r : ResultVar} {v : Value} (h : ResAt c s r v) : (resSem a.tmps r).run c.P w = .ok v w := by
  cases r with
  | tmp t =>
    have : a.tmps.getD t undef = v := by simp [Array.getD_eq_getD_getElem?, ha.at_ t v h]
    simp only [resSem, this]; rfl
  | cell ad T =>
    obtain ⟨p, hp, hv⟩ := h
    have e : a.tmps.getD ad undef = .pointer (some p) := by simp [Array.getD_eq_getD_getElem?, ha.at_ ad _ hp]
    have hl : (loadVar T p).run c.P w = .ok v w := by
      rcases hv with ⟨hT, hc⟩ | ⟨us, rfl, hT, hc⟩
      · obtain ⟨_, _, _, _, h3⟩ := lk_one hT
        simp [loadVar, h3, hc w hw]
      · obtain ⟨i, h1, h2, h3⟩ := lk_many hT
        have hl : (loadCells p us.length).run c.P w = .ok us.toArray w := run_loadCells_list w p us (fun j v hj => hc j v hj w hw)
        simp [loadVar, h3, sizeOf, typeInfo, h1, h2, hl]
    simp only [resSem, e]
    exact hl
theorem results_run {w : World} {a : Act} (ha : Rep c a s) (hw : RepW c w s.H) : ∀ (rs : List ResultVar) (vs : List Value), ResAll c s rs vs → (rs.mapM (resSem a.tmps)).run c.P w = .ok vs w
  | [], [], _ => rfl
  | [], _ :: _, h => h.elim
  | _ :: _, [], h => h.elim
  | r :: rs, v :: vs, h => by
    simp only [List.mapM_cons, Sem.run_bind, resSem_run ha hw h.1, Result.andThen, results_run ha hw rs vs h.2]
    rfl
theorem results_eq (fn : Func) (tmps : Array Value) : results fn tmps = (do let vs ← fn.results.mapM (resSem tmps); pure (if h : vs.size = 1 then vs[0] else .tuple vs)) := by
  unfold results
  congr 1
/-- Where a function's body ends. -/
def Fin (c : Cx) (rs : List ResultVar) (R : Ending → List Chunk → Prop) (s : S) : Prop :=
  s.ds = [] ∧ ∃ vs L Z, ResAll c s rs vs ∧ Split s.H L Z ∧ R (.returned (packV vs)) L
def FinX (c : Cx) (rs : List ResultVar) (R : Ending → List Chunk → Prop) : Exit → S → Prop
  | .ret, s => Fin c rs R s
  | .panic ch, s => s.ds = [] ∧ ∃ L Z, Split s.H L Z ∧ R (.panicked ch) L
  | _, _ => False
def argEnv : Nat → List Value → Env
  | _, [] => []
  | i, v :: r => (i, v) :: argEnv (i + 1) r
theorem look_argEnv : ∀ (vs : List Value) (i j : Nat) (v : Value), look (argEnv i vs) j = some v → i ≤ j ∧ vs[j - i]? = some v
  | [], _, _, _, h => by cases h
  | u :: r, i, j, v, h => by
    simp only [argEnv, look] at h
    cases e : Nat.beq i j with
    | true =>
      rw [e] at h
      have := Nat.eq_of_beq_eq_true e
      subst this
      simp only [cond_true, Option.some.injEq] at h
      subst h
      exact ⟨Nat.le_refl _, by simp⟩
    | false =>
      rw [e] at h
      obtain ⟨h1, h2⟩ := look_argEnv r (i + 1) j v h
      refine ⟨by omega, ?_⟩
      rw [show j - i = (j - (i + 1)) + 1 by omega]
      simpa using h2
theorem trans_of_repW {P : Program} {N : Nat} {w0 w : World} {L L' Z : List Chunk} {ro : Option Nat} {H : List Chunk} (hw : RepW ⟨ro, P, N, w0, fun b => ∃ k ∈ L, k.fp b⟩ w H) (hs : Split H L' Z) : Trans w0 L w L' := by
  have hp := (hw.perm hs.perm).drop
  exact ⟨hp.os, hp.tape, hp.output, hp.size, fun b hb hk => hp.old b hb (fun ⟨k, h1, h2⟩ => hk k h1 h2), hp.ok, hp.apart, fun k hk b hb => hp.own k hk b hb⟩
theorem tr_of_v {P : Program} {f : FuncId} {fn : Func} {code : Code} {vs : List Value} {w : World} {L : List Chunk} {R : Ending → List Chunk → Prop} {N : Nat} {rs : List ResultVar}
    (hf : P.funcs[f]? = some fn) (hb : fn.body = some code) (hN : fn.ntmps = N) (hrs : fn.results.toList = rs) (hn : vs.length ≤ N) {ea : Env} (hea : argEnv 0 vs = ea)
    (h : V ⟨none, P, N, w, fun b => ∃ k ∈ L, k.fp b⟩ code (Fin ⟨none, P, N, w, fun b => ∃ k ∈ L, k.fp b⟩ rs R) (FinX ⟨none, P, N, w, fun b => ∃ k ∈ L, k.fp b⟩ rs R) ⟨ea, [], L⟩) : Tr P f ⟨vs⟩ w L R := fun hL => by
  subst hea
  subst hN
  subst hrs
  refine calls_of_callsIn (ro := none) (n := 0) (callsIn_of_wp hf hb trivial ?_)
  have hw : RepW ⟨none, P, fn.ntmps, w, fun b => ∃ k ∈ L, k.fp b⟩ w L := ⟨rfl, rfl, rfl, Nat.le_refl _, fun _ _ _ => rfl, hL.1, hL.2, fun k hk b hb => .inl ⟨k, hk, hb⟩⟩
  have hr : Rep ⟨none, P, fn.ntmps, w, fun b => ∃ k ∈ L, k.fp b⟩ { tmps := ⟨vs⟩ ++ Array.replicate (fn.ntmps - (⟨vs⟩ : Array Value).size) undef, defers := [] } ⟨argEnv 0 vs, [], L⟩ := by
    refine ⟨rfl, by simp; omega, fun i v hv => ?_⟩
    obtain ⟨_, h2⟩ := look_argEnv vs 0 i v hv
    have hi : i < vs.length := by
      rcases Nat.lt_or_ge i vs.length with hi | hi
      · exact hi
      · rw [List.getElem?_eq_none (by simpa using hi)] at h2; cases h2
    rw [Array.getElem?_append_left (by simpa using hi)]
    simpa using h2
  refine wpIn_mono (h _ w hr hw) fun e a w' ⟨s', h1, h2, h3⟩ => ?_
  have fin : Fin ⟨none, P, fn.ntmps, w, fun b => ∃ k ∈ L, k.fp b⟩ fn.results.toList R s' → a.defers = [] ∧ ∃ v, (results fn a.tmps).run P w' = .ok v w' ∧ ∃ L', R (.returned v) L' ∧ Trans w L w' L' := by
    rintro ⟨hds, us, L', Z, hres, hsp, hR⟩
    refine ⟨h1.ds.trans hds, packV us, ?_, L', hR, trans_of_repW h2 hsp⟩
    have h4 := results_run h1 h2 _ _ hres
    rw [results_eq, Array.mapM_eq_mapM_toList]
    simp only [Sem.run_bind, Sem.run_map, h4, Result.andThen]
    cases us with
    | nil => simp [packV]
    | cons u us =>
      cases us with
      | nil => simp [packV]
      | cons u' us => simp [packV]
  cases e with
  | normal => exact fin h3
  | ret => exact fin h3
  | panic ch =>
    obtain ⟨hds, L', Z, hsp, hR⟩ := h3
    exact ⟨h1.ds.trans hds, L', hR, trans_of_repW h2 hsp⟩
  | exit id => exact h3.elim
  | goto l => exact h3.elim
  | outgrown => exact h3.elim
end Eng
end Go.Proofs.YtnebonmppioooaaDoor
