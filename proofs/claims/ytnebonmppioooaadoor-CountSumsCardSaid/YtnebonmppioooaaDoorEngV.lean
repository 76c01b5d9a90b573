/- The walk's own words, third part: regions of open order. -/
import Derived.Test.YtnebonmppioooaaDoorEngU
set_option linter.unusedVariables false
set_option linter.unusedSimpArgs false
namespace Go.Proofs.YtnebonmppioooaaDoor
namespace Eng
open Go
variable {c : Cx} {K : S → Prop} {X : Exit → S → Prop} {s : S} {e0 : Env} {dd : List Deferred} {HH : List Chunk}

/-- Cells that hold what they hold, through a whole region. -/
def SM (M : List (Addr × Value)) (w : World) : Prop := ∀ p ∈ M, w.cell? p.1 = some p.2
def noDefer (ops : Array Oper) : Bool := ops.all fun o => match o.op with | .defer _ => false | _ => true
theorem noDefer_spec {ops : Array Oper} (h : noDefer ops = true) {j : Nat} {o : Oper} (ho : ops[j]? = some o) (q : Call) : o.op ≠ .defer q := by
  intro heq
  have := Array.all_eq_true_iff_forall_mem.1 h o (Array.mem_of_getElem? ho)
  simp [heq] at this
section
variable {ops : Array Oper} {Q : Exit → Act → World → Prop} {M : List (Addr × Value)} {ro : Option Nat} {P : Program}
/-- Is the one behind the other? -/
def reach (ops : Array Oper) : Nat → Nat → Nat → Bool
  | 0, _, _ => false
  | n + 1, j, k => match ops[j]? with
    | some o => o.after.toList.any fun e => Region.binds .any e && (e.on == k || reach ops n e.on k)
    | none => false
def closedL (ops : Array Oper) (listed : Array Bool) : Bool := (List.range ops.size).all fun k => !listed.getD k false || (match ops[k]? with | some o => o.after.toList.all fun e => !Region.binds .any e || listed.getD e.on false | none => true)
/-- An operation behind all that yield a value. -/
def late (ops : Array Oper) (j : Nat) : Bool := match ops[j]? with
  | some o => (List.range ops.size).all fun k => k == j || (match ops[k]? with | some p => p.dst.isNone | none => true) || reach ops 6 j k
  | none => false
def allLate (ops : Array Oper) (listed : Array Bool) : Bool := (List.range ops.size).all fun k => listed.getD k true || late ops k
def anyS (ro : Option Nat) (P : Program) (ops : Array Oper) (Q : Exit → Act → World → Prop) (M : List (Addr × Value)) : Nat → Array Bool → Act → World → Prop
  | 0, listed, a, w => Region.ready .any ops listed = [] ∧ Q .normal a w
  | n + 1, listed, a, w => (Region.ready .any ops listed = [] → Q .normal a w) ∧
    ∀ i ∈ Region.ready .any ops listed, wpOpIn (fence ro) 0 P ops Q i (fun a' w' => (late ops i = false → SM M w') ∧ anyS ro P ops Q M n (listed.setIfInBounds i true) a' w') a w
theorem anyS_any : ∀ (n : Nat) (listed : Array Bool) (a : Act) (w : World), anyS ro P ops Q M n listed a w → wpAnyIn (fence ro) 0 P .any ops Q n listed a w
  | 0, _, _, _, h => h
  | n + 1, _, _, _, h => ⟨h.1, fun i hi => wpOpIn_mono (fun a' w' h' => anyS_any n _ a' w' h'.2) (h.2 i hi)⟩
/-- What an operation yields, in this state, in each world where the cells M hold what they hold. -/
def YS (P : Program) (ops : Array Oper) (M : List (Addr × Value)) (o : Oper) (v : Value) (a : Act) : Prop :=
  (Region.wanted o (yielded ops a.tmps) = true ∧ ∀ w, SM M w → (execOp a.eval o).run P w = .ok (.value v) w) ∨ (Region.wanted o (yielded ops a.tmps) = false ∧ v = undef)
theorem YS.at_ {i : Nat} {o : Oper} {v : Value} {a : Act} (hi : ops[i]? = some o) (hnd : ∀ q, o.op ≠ .defer q) (hy : YS P ops M o v a) {Kk : Act → World → Prop} {w : World} (hm : SM M w) (h : Kk (a.put o.dst v) w) :
    wpOpIn (fence ro) 0 P ops Q i Kk a w := by
  unfold wpOpIn
  simp only [hi]
  rcases hy with ⟨hw, hv⟩ | ⟨hw, rfl⟩
  · simp only [hw, if_true, Oper.wpIn, Oper.semAt_eq _ _ _ hnd, hv w hm]
    exact ⟨fun _ _ => trivial, h⟩
  · simp only [hw, Bool.false_eq_true, if_false]
    exact ⟨fun _ _ => trivial, h⟩
theorem YS.same {o : Oper} {v : Value} {a a' : Act} (hy : YS P ops M o v a) (he : execOp a'.eval o = execOp a.eval o) (hw : Region.wanted o (yielded ops a'.tmps) = Region.wanted o (yielded ops a.tmps)) : YS P ops M o v a' := by
  unfold YS at *
  rw [he, hw]
  exact hy
/-- Another operation, apart from the first one: it is the same to it whether that one's value lies there already. -/
theorem ys_put {j : Nat} {oi oj : Oper} {v : Value} (hj : ops[j]? = some oj) (hap : oi.apart ops oj = true) (hsi : ∀ cs b, oi.op ≠ .select cs b) (hsj : ∀ cs b, oj.op ≠ .select cs b) (hnd : ∀ q, oj.op ≠ .defer q)
    (hQ : ∀ ch a w, Q (.panic ch) (a.put oi.dst v) w → Q (.panic ch) a w) {Kk : Act → World → Prop} {a : Act} {w : World} (hy : YS P ops M oi v a) (h : wpOpIn (fence ro) 0 P ops Q j Kk (a.put oi.dst v) w) :
    wpOpIn (fence ro) 0 P ops Q j (fun a' w' => YS P ops M oi v a' ∧ Kk (a'.put oi.dst v) w') a w := by
  obtain ⟨h1, h2, h3⟩ := Oper.apart_spec hap
  have keep : ∀ u, YS P ops M oi v (a.put oj.dst u) := fun u => hy.same (execOp_put oi hsi a oj.dst u h3) (wanted_put oi a oj.dst u h3)
  have comm : ∀ (u : Value) (w' : World), Kk ((a.put oi.dst v).put oj.dst u) w' → Kk ((a.put oj.dst u).put oi.dst v) w' := fun u w' hk => by rw [← Act.put_comm a v u h2]; exact hk
  unfold wpOpIn at *
  simp only [hj] at *
  rw [wanted_put oj a oi.dst v h1] at h
  by_cases hw : Region.wanted oj (yielded ops a.tmps) = true
  · simp only [hw, if_true, Oper.wpIn, Oper.semAt_eq _ _ _ hnd] at h ⊢
    refine ⟨fun _ _ => trivial, ?_⟩
    have h4 := h.2
    rw [execOp_put oj hsj a oi.dst v h1] at h4
    generalize (execOp a.eval oj).run P w = r at h4 ⊢
    cases r with
    | halt x w' =>
      cases x <;> simp only [Oper.uponIn] at h4 ⊢
      exact hQ _ _ _ h4
    | ok x w' =>
      cases x with
      | value u => exact ⟨keep u, comm u w' h4⟩
      | skip => exact ⟨keep _, comm _ w' h4⟩
      | enter f args =>
        refine ⟨h4.1, CallsIn.mono h4.2 fun e w'' he => ?_⟩
        cases e with
        | returned u => exact ⟨keep u, comm u w'' he⟩
        | panicked ch => exact hQ _ _ _ he
        | outgrown => exact he
      | row r args => exact ⟨h4.1, RowsIn.mono h4.2 fun u w'' he => ⟨keep u, comm u w'' he⟩⟩
      | round l f tmps assign body =>
        refine ⟨h4.1, RoundIn.mono h4.2 fun e w'' he => ?_⟩
        cases e with
        | returned u => exact ⟨keep u, comm u w'' he⟩
        | panicked ch => exact hQ _ _ _ he
        | outgrown => exact he
      | defer q =>
        have hd1 := h4
        refine ⟨(hy.same rfl rfl : YS P ops M oi v { a with defers := q :: a.defers }).same (execOp_put oi hsi _ oj.dst _ h3) (wanted_put oi _ oj.dst _ h3), ?_⟩
        rw [← Act.put_comm _ v undef h2, ← Act.put_defers]
        exact h4
      | _ => exact h4.elim
  · have hw' : Region.wanted oj (yielded ops a.tmps) = false := by simpa using hw
    simp only [hw', Bool.false_eq_true, if_false] at h ⊢
    exact ⟨fun _ _ => trivial, keep _, comm _ w h.2⟩
theorem closedL_spec {listed : Array Bool} (hc : closedL ops listed = true) {j : Nat} {o : Oper} (hj : ops[j]? = some o) (hl : listed.getD j false = true) : ∀ e ∈ o.after, Region.binds .any e = true → listed.getD e.on false = true := by
  intro e he hb
  unfold closedL at hc
  simp only [List.all_eq_true, List.mem_range] at hc
  have := hc j (Array.getElem?_eq_some_iff.1 hj).1
  rw [hl, hj] at this
  simp only [Bool.not_true, Bool.false_or, List.all_eq_true] at this
  have := this e (by simpa using he)
  rw [hb] at this
  simpa using this
theorem reach_spec {listed : Array Bool} (hc : closedL ops listed = true) : ∀ (n j k : Nat) (o : Oper), ops[j]? = some o → (∀ e ∈ o.after, Region.binds .any e = true → listed.getD e.on false = true) → reach ops n j k = true → listed.getD k false = true
  | 0, _, _, _, _, _, h => by cases h
  | n + 1, j, k, o, hj, ha, h => by
    simp only [reach, hj, List.any_eq_true, Bool.and_eq_true, Bool.or_eq_true, beq_iff_eq] at h
    obtain ⟨e, he, hb, h⟩ := h
    have he' : e ∈ o.after := by simpa using he
    rcases h with h | h
    · rw [← h]; exact ha e he' hb
    · cases hq : ops[e.on]? with
      | none => cases n <;> simp [reach, hq] at h
      | some q => exact reach_spec hc n e.on k q hq (closedL_spec hc hq (ha e he' hb)) h
theorem late_spec {listed : Array Bool} (hc : closedL ops listed = true) {j k : Nat} {oj ok : Oper} (h : late ops j = true) (hj : ops[j]? = some oj) (ha : ∀ e ∈ oj.after, Region.binds .any e = true → listed.getD e.on false = true) (hk : ops[k]? = some ok) (hd : ok.dst.isSome = true) (hne : j ≠ k) : listed.getD k false = true := by
  unfold late at h
  simp only [hj, List.all_eq_true, List.mem_range] at h
  have := h k (Array.getElem?_eq_some_iff.1 hk).1
  simp only [hk, Bool.or_eq_true, beq_iff_eq, Option.isNone_iff_eq_none] at this
  rcases this with (h1 | h1) | h1
  · exact absurd h1.symm hne
  · rw [h1] at hd; cases hd
  · exact reach_spec hc _ j k oj hj ha h1
theorem closedL_set {listed : Array Bool} (hc : closedL ops listed = true) {j : Nat} (hj : j ∈ Region.ready .any ops listed) : closedL ops (listed.setIfInBounds j true) = true := by
  obtain ⟨hun, o, ho, hall⟩ := mem_ready.1 hj
  have mono : ∀ k, listed.getD k false = true → (listed.setIfInBounds j true).getD k false = true := fun k hk => by
    by_cases e : j = k
    · subst e
      rcases Nat.lt_or_ge j listed.size with hh | hh
      · simp [hh]
      · simp [Array.getElem?_eq_none hh] at hk
    · rw [getD_set_ne false e]; exact hk
  unfold closedL
  simp only [List.all_eq_true, List.mem_range]
  intro k hk
  cases hl : (listed.setIfInBounds j true).getD k false with
  | false => rfl
  | true =>
    simp only [Bool.not_true, Bool.false_or]
    cases hq : ops[k]? with
    | none => rfl
    | some q =>
      simp only [List.all_eq_true, Bool.or_eq_true, Bool.not_eq_true']
      intro e he
      cases hb : Region.binds .any e with
      | false => exact .inl rfl
      | true =>
        right
        apply mono
        by_cases ek : j = k
        · subst ek
          rw [ho] at hq
          cases hq
          exact hall e (by simpa using he) hb
        · rw [getD_set_ne false ek] at hl
          exact closedL_spec hc hq hl e (by simpa using he) hb
theorem anyS_first {i : Nat} {oi : Oper} {v : Value} (hi : ops[i]? = some oi) (hds : oi.dst.isSome = true) (hsel : Region.noSelect ops = true) (hnd : noDefer ops = true) (hQ : ∀ ch a w, Q (.panic ch) (a.put oi.dst v) w → Q (.panic ch) a w) :
    ∀ (n : Nat) (listed : Array Bool) (a : Act) (w : World),
      (∀ j oj, ops[j]? = some oj → j ≠ i → listed.getD j true = false → (∀ e ∈ oj.after, Region.binds .any e = true → e.on ≠ i) → oi.apart ops oj = true) →
      closedL ops listed = true → i ∈ Region.ready .any ops listed → YS P ops M oi v a → SM M w → anyS ro P ops Q M n (listed.setIfInBounds i true) (a.put oi.dst v) w → anyS ro P ops Q M (n + 1) listed a w := by
  intro n
  induction n with
  | zero =>
    intro listed a w _ hcl hr hy hm H
    refine ⟨fun h => (by rw [h] at hr; cases hr), fun j hj => ?_⟩
    by_cases hji : j = i
    · subst hji; exact hy.at_ hi (noDefer_spec hnd hi) hm ⟨fun _ => hm, H⟩
    · have := ready_mono hj hji
      rw [H.1] at this
      cases this
  | succ n ih =>
    intro listed a w hfree hcl hr hy hm H
    refine ⟨fun h => (by rw [h] at hr; cases hr), fun j hj => ?_⟩
    by_cases hji : j = i
    · subst hji; exact hy.at_ hi (noDefer_spec hnd hi) hm ⟨fun _ => hm, H⟩
    · have h1 := H.2 j (ready_mono hj hji)
      obtain ⟨hjun, oj, hoj, hall⟩ := mem_ready.1 hj
      have hnot : ∀ e ∈ oj.after, Region.binds .any e = true → e.on ≠ i := fun e he hb heq => by
        have h1 := hall e he hb
        have h0 := (mem_ready.1 hr).1
        rw [heq] at h1
        rcases Nat.lt_or_ge i listed.size with h' | h'
        · simp [h'] at h0 h1; rw [h0] at h1; cases h1
        · simp [Array.getElem?_eq_none h'] at h1
      have h2 := ys_put hoj (hfree j oj hoj hji hjun hnot) (Region.noSelect_spec hsel i oi · · hi) (Region.noSelect_spec hsel j oj · · hoj) (noDefer_spec hnd hoj) hQ hy h1
      have hl : late ops j = false := by
        cases hl : late ops j with
        | false => rfl
        | true =>
          have h1 := late_spec hcl hl hoj hall hi hds hji
          have h0 := (mem_ready.1 hr).1
          rcases Nat.lt_or_ge i listed.size with h' | h'
          · simp [h'] at h0 h1; rw [h0] at h1; cases h1
          · simp [Array.getElem?_eq_none h'] at h1
      refine wpOpIn_mono (fun a' w' h3 => ⟨h3.2.1, ih (listed.setIfInBounds j true) a' w' (fun k ok hk hki hun hno => ?_) (closedL_set hcl hj) (ready_mono hr (Ne.symm hji)) h3.1 (h3.2.1 hl) ?_⟩) h2
      · refine hfree k ok hk hki ?_ hno
        by_cases hjk : j = k
        · subst hjk; exact hjun
        · rw [getD_set_ne true hjk] at hun; exact hun
      · rw [Array.setIfInBounds_comm _ _ hji]
        exact h3.2.2
end

/-- What a panic leaves does not hang on the frame. -/
class PX (X : Exit → S → Prop) : Prop where
  h : ∀ ch e ds H, X (.panic ch) ⟨e, ds, H⟩ → X (.panic ch) ⟨[], ds, H⟩
instance {id : Nat} {K : S → Prop} {X : Exit → S → Prop} [h : PX X] : PX (blkX id K X) := ⟨fun ch e ds H hx => h.h ch e ds H hx⟩
instance {X : Exit → S → Prop} [h : PX X] : PX (noGotoX X) := ⟨fun ch e ds H hx => h.h ch e ds H hx⟩
instance {c : Cx} {rs : List ResultVar} {R : Ending → List Chunk → Prop} : PX (FinX c rs R) := ⟨fun ch e ds H hx => hx⟩

def VD (c : Cx) (ops : Array Oper) (M : List (Addr × Value)) (K : S → Prop) (X : Exit → S → Prop) (n : Nat) (listed : Array Bool) (s : S) : Prop :=
  ∀ a w, Rep c a s → RepW c w s.H → SM M w → anyS c.ro c.P ops (post c K X) M n listed a w
def SMok (c : Cx) : List (Addr × Value) → List Chunk → Prop
  | [], _ => True
  | (ad, v) :: M, H => CellAt c H ad v ∧ SMok c M H
theorem SMok.sm {M : List (Addr × Value)} {H : List Chunk} (h : SMok c M H) {w : World} (hw : RepW c w H) : SM M w := by
  induction M with
  | nil => intro p hp; cases hp
  | cons q M ih =>
    intro p hp
    rcases List.mem_cons.1 hp with rfl | hp
    · exact h.1 w hw
    · exact ih h.2 p hp
theorem v_draw {id n : Nat} {ops : Array Oper} (M : List (Addr × Value)) (hm : c.P.follows .mixedOrders = true) (hn : ops.size = n) (hM : SMok c M s.H) (h : VD c ops M K X n (Array.replicate n false) s) : V c (.region id ops true) K X s := fun a w ha hw => by
  subst hn
  have hw' : RepW c { w with drawn := w.drawn + 1 } s.H := hw.perm (List.Perm.refl _) |> fun h => ⟨h.os, h.tape, h.output, h.size, h.old, fun k hk => k.loc w _ (fun _ _ => rfl) (h.ok k hk), h.apart, h.own⟩
  exact wpIn_region_any hm (anyS_any _ _ _ _ (h a _ ha hw' (hM.sm hw')))
section
variable {ops : Array Oper} {M : List (Addr × Value)} {n : Nat} {listed : Array Bool}
/-- What an operation yields, the world being what it is. -/
def PV (c : Cx) (M : List (Addr × Value)) (op : Op) (ty : TypeId) (s : S) (v : Value) : Prop :=
  ∀ a w dst pos af g, Rep c a s → SM M w → (execOp a.eval ⟨dst, op, ty, pos, af, g⟩).run c.P w = .ok (.value v) w
theorem hQ_of [hx : PX X] (d : Option Nat) (v : Value) (ch : List PanicEntry) (a : Act) (w : World) (h : post c K X (.panic ch) (a.put d v) w) : post c K X (.panic ch) a w := by
  obtain ⟨⟨e, ds, H⟩, h1, h2, h3⟩ := h
  refine ⟨⟨[], ds, H⟩, ⟨?_, ?_, fun i v h => by cases h⟩, h2, hx.h ch e ds H h3⟩
  · have := h1.ds; cases d <;> exact this
  · have := h1.size; cases d <;> simpa [Act.put] using this
theorem vd_take [PX X] {i d : Nat} {op : Op} {ty : TypeId} {pos : String} {af : Array Edge} {v : Value} (hi : ops[i]? = some ⟨some d, op, ty, pos, af, none⟩) (hs : (Region.noSelect ops && noDefer ops && Region.free .any ops listed i && closedL ops listed && (Region.ready .any ops listed).contains i) = true)
    (hp : PV c M op ty ⟨e0, dd, HH⟩ v) (hd : Nat.blt d c.N = true) (h : VD c ops M K X n (listed.setIfInBounds i true) ⟨(d, v) :: e0, dd, HH⟩) : VD c ops M K X (n + 1) listed ⟨e0, dd, HH⟩ := fun a w ha hw hm => by
  simp only [Bool.and_eq_true] at hs
  obtain ⟨⟨⟨⟨h1, h2⟩, h3⟩, hcl⟩, h4⟩ := hs
  exact anyS_first (v := v) hi rfl h1 h2 (fun ch a w => hQ_of _ _ ch a w) n listed a w (Region.free_spec hi h3) hcl (by simpa using h4) (.inl ⟨rfl, fun w hm => hp a w _ _ _ _ ha hm⟩) hm (h _ w (rep_put ha hd v) hw hm)
theorem vd_take_yes [PX X] {i d j t : Nat} {want : Bool} {op : Op} {ty : TypeId} {pos : String} {af : Array Edge} {v : Value} (hi : ops[i]? = some ⟨some d, op, ty, pos, af, some (j, want)⟩) (hs : (Region.noSelect ops && noDefer ops && Region.free .any ops listed i && closedL ops listed && (Region.ready .any ops listed).contains i) = true)
    (hj : ((ops[j]?).bind (·.dst)) = some t) (hv : look e0 t = some (.bool want)) (hp : PV c M op ty ⟨e0, dd, HH⟩ v) (hd : Nat.blt d c.N = true) (h : VD c ops M K X n (listed.setIfInBounds i true) ⟨(d, v) :: e0, dd, HH⟩) : VD c ops M K X (n + 1) listed ⟨e0, dd, HH⟩ := fun a w ha hw hm => by
  simp only [Bool.and_eq_true] at hs
  obtain ⟨⟨⟨⟨h1, h2⟩, h3⟩, hcl⟩, h4⟩ := hs
  have hy : yielded ops a.tmps j = some want := by simp [yielded, hj, ha.at_ t _ hv]
  exact anyS_first (v := v) hi rfl h1 h2 (fun ch a w => hQ_of _ _ ch a w) n listed a w (Region.free_spec hi h3) hcl (by simpa using h4) (.inl ⟨by simp [Region.wanted, hy], fun w hm => hp a w _ _ _ _ ha hm⟩) hm (h _ w (rep_put ha hd v) hw hm)
theorem vd_take_no [PX X] {i d j t : Nat} {want b : Bool} {op : Op} {ty : TypeId} {pos : String} {af : Array Edge} (hi : ops[i]? = some ⟨some d, op, ty, pos, af, some (j, want)⟩) (hs : (Region.noSelect ops && noDefer ops && Region.free .any ops listed i && closedL ops listed && (Region.ready .any ops listed).contains i) = true)
    (hj : ((ops[j]?).bind (·.dst)) = some t) (hv : look e0 t = some (.bool b)) (hb : b = !want) (hd : Nat.blt d c.N = true) (h : VD c ops M K X n (listed.setIfInBounds i true) ⟨(d, undef) :: e0, dd, HH⟩) : VD c ops M K X (n + 1) listed ⟨e0, dd, HH⟩ := fun a w ha hw hm => by
  simp only [Bool.and_eq_true] at hs
  obtain ⟨⟨⟨⟨h1, h2⟩, h3⟩, hcl⟩, h4⟩ := hs
  have hy : yielded ops a.tmps j = some b := by simp [yielded, hj, ha.at_ t _ hv]
  have hw' : (some b == some want) = false := by subst hb; cases want <;> rfl
  exact anyS_first (v := undef) hi rfl h1 h2 (fun ch a w => hQ_of _ _ ch a w) n listed a w (Region.free_spec hi h3) hcl (by simpa using h4) (.inr ⟨by simp [Region.wanted, hy, hw'], rfl⟩) hm (h _ w (rep_put ha hd undef) hw hm)
theorem wpOp_of_vo {i : Nat} {o : Oper} {K' : S → Prop} {n : Nat} {listed : Array Bool} (hi : ops[i]? = some o) (h : VO c ops [o] (fun s' => SMok c M s'.H ∧ VD c ops M K X n listed s') X s) {a : Act} {w : World} (ha : Rep c a s) (hw : RepW c w s.H) :
    wpOpIn (fence c.ro) 0 c.P ops (post c K X) i (fun a' w' => (late ops i = false → SM M w') ∧ anyS c.ro c.P ops (post c K X) M n listed a' w') a w := by
  have h1 := h a w ha hw
  unfold wpOpIn
  simp only [hi]
  simp only [wpListIn] at h1
  have hpost : ∀ e a w, post c (fun s' => SMok c M s'.H ∧ VD c ops M K X n listed s') X e a w → e ≠ .normal → post c K X e a w := by
    rintro e a w ⟨s', h2, h3, h4⟩ hne
    cases e with
    | normal => exact absurd rfl hne
    | exit id => exact ⟨s', h2, h3, h4⟩
    | goto l => exact ⟨s', h2, h3, h4⟩
    | ret => exact ⟨s', h2, h3, h4⟩
    | panic ch => exact ⟨s', h2, h3, h4⟩
    | outgrown => exact ⟨s', h2, h3, h4⟩
  have hnorm : ∀ a w, post c (fun s' => SMok c M s'.H ∧ VD c ops M K X n listed s') X .normal a w → (late ops i = false → SM M w) ∧ anyS c.ro c.P ops (post c K X) M n listed a w := by
    rintro a w ⟨s', h2, h3, h4, h5⟩
    exact ⟨fun _ => h4.sm h3, h5 a w h2 h3 (h4.sm h3)⟩
  split
  · rename_i hwt
    rw [if_pos hwt] at h1
    unfold Oper.wpIn at h1 ⊢
    refine ⟨fun _ _ => trivial, ?_⟩
    have h2 := h1.2
    generalize (o.semAt (fence c.ro).round a.eval).run c.P w = r at h2 ⊢
    cases r with
    | halt x w' =>
      cases x <;> simp only [Oper.uponIn] at h2 ⊢
      exact hpost _ _ _ h2 (by simp)
    | ok x w' =>
      cases x <;> simp only [Oper.uponIn] at h2 ⊢
      case value v => exact hnorm _ _ h2
      case skip => exact hnorm _ _ h2
      case defer q => exact hnorm _ _ h2
      case enter f args =>
        refine ⟨h2.1, CallsIn.mono h2.2 fun e w'' he => ?_⟩
        cases e with
        | returned v => exact hnorm _ _ he
        | panicked ch => exact hpost _ _ _ he (by simp)
        | outgrown => obtain ⟨a', w3, he⟩ := he; exact ⟨a', w3, hpost _ _ _ he (by simp)⟩
      case row r args => exact ⟨h2.1, RowsIn.mono h2.2 fun v w'' he => hnorm _ _ he⟩
      case round l f tmps assign body =>
        refine ⟨h2.1, RoundIn.mono h2.2 fun e w'' he => ?_⟩
        cases e with
        | returned v => exact hnorm _ _ he
        | panicked ch => exact hpost _ _ _ he (by simp)
        | outgrown => obtain ⟨a', w3, he⟩ := he; exact ⟨a', w3, hpost _ _ _ he (by simp)⟩
  · rename_i hwt
    rw [if_neg hwt] at h1
    exact ⟨fun _ _ => trivial, hnorm _ _ h1.2⟩
theorem anyS_late {ro : Option Nat} {P : Program} {Q : Exit → Act → World → Prop} : ∀ (n : Nat) (listed : Array Bool) (a : Act) (w : World), allLate ops listed = true → anyS ro P ops Q [] n listed a w → anyS ro P ops Q M n listed a w
  | 0, _, _, _, _, h => h
  | n + 1, listed, _, _, hl, h => ⟨h.1, fun i hi => wpOpIn_mono (fun a' w' h' => by
      have hl' := hl
      unfold allLate at hl'
      simp only [List.all_eq_true, List.mem_range, Bool.or_eq_true] at hl'
      refine ⟨fun hf => ?_, anyS_late n _ a' w' ?_ h'.2⟩
      · obtain ⟨hun, oi, hoi, _⟩ := mem_ready.1 hi
        rcases hl' i (Array.getElem?_eq_some_iff.1 hoi).1 with h1 | h1
        · rw [hun] at h1; cases h1
        · rw [hf] at h1; cases h1
      · unfold allLate
        simp only [List.all_eq_true, List.mem_range, Bool.or_eq_true]
        intro k hk
        rcases hl' k hk with h1 | h1
        · left
          by_cases e : i = k
          · subst e
            rcases Nat.lt_or_ge i listed.size with hh | hh
            · simp [hh]
            · simp [Array.getElem?_eq_none, hh]
          · rw [getD_set_ne true e]; exact h1
        · exact .inr h1) (h.2 i hi)⟩
theorem vd_forget (hl : allLate ops listed = true) (h : VD c ops [] K X n listed s) : VD c ops M K X n listed s := fun a w ha hw hm =>
  anyS_late n listed a w hl (h a w ha hw fun p hp => by cases hp)
/-- One operation alone may come up. -/
theorem vd_one {i : Nat} {o : Oper} (hi : ops[i]? = some o) (hr : Region.ready .any ops listed = [i]) (h : VO c ops [o] (fun s' => SMok c M s'.H ∧ VD c ops M K X n (listed.setIfInBounds i true) s') X s) : VD c ops M K X (n + 1) listed s := fun a w ha hw hm =>
  ⟨fun h => (by rw [hr] at h; cases h), fun j hj => by
    rw [hr] at hj
    cases List.mem_singleton.1 hj
    exact wpOp_of_vo (K' := K) hi h ha hw⟩
theorem vd_two {i j : Nat} {o o' : Oper} (hi : ops[i]? = some o) (hj : ops[j]? = some o') (hr : Region.ready .any ops listed = [i, j])
    (h : VO c ops [o] (fun s' => SMok c M s'.H ∧ VD c ops M K X n (listed.setIfInBounds i true) s') X s) (h' : VO c ops [o'] (fun s' => SMok c M s'.H ∧ VD c ops M K X n (listed.setIfInBounds j true) s') X s) : VD c ops M K X (n + 1) listed s := fun a w ha hw hm =>
  ⟨fun h => (by rw [hr] at h; cases h), fun q hq => by
    rw [hr] at hq
    rcases List.mem_cons.1 hq with rfl | hq
    · exact wpOp_of_vo (K' := K) hi h ha hw
    · cases List.mem_singleton.1 hq
      exact wpOp_of_vo (K' := K) hj h' ha hw⟩
theorem vd_done (hr : Region.ready .any ops listed = []) (h : K s) : VD c ops M K X n listed s := fun a w ha hw hm => by
  cases n with
  | zero => exact ⟨hr, s, ha, hw, h⟩
  | succ n => exact ⟨fun _ => ⟨s, ha, hw, h⟩, fun i hi => by rw [hr] at hi; cases hi⟩
end
section
variable {ty : TypeId} {x y : Operand} {k : IntKind} {a b r : Int} {T T2 : TypeId} {M : List (Addr × Value)}
theorem p_move {x : Operand} {v : Value} (hx : ev e0 x = some v) : PV c M (.move x) ty ⟨e0, dd, HH⟩ (v) := fun a w dst pos af g ha hm => by simp [execOp, look_eval ha hx]
theorem p_assign {x : Operand} {v : Value} (hx : ev e0 x = some v) : PV c M (.assign x) ty ⟨e0, dd, HH⟩ (v) := fun a w dst pos af g ha hm => by simp [execOp, look_eval ha hx]
theorem p_pick_yes {x y z : Operand} {v : Value} (hx : ev e0 x = some (.bool true)) (hy : ev e0 y = some v) : PV c M (.pick x y z) ty ⟨e0, dd, HH⟩ (v) := fun a w dst pos af g ha hm => by simp [execOp, look_eval ha hx, look_eval ha hy, asBool]
theorem p_pick_no {x y z : Operand} {v : Value} (hx : ev e0 x = some (.bool false)) (hz : ev e0 z = some v) : PV c M (.pick x y z) ty ⟨e0, dd, HH⟩ (v) := fun a w dst pos af g ha hm => by simp [execOp, look_eval ha hx, look_eval ha hz, asBool]
theorem p_nilCheck {x : Operand} {ad : Addr} (hx : ev e0 x = some (.pointer (some ad))) : PV c M (.nilCheck x) ty ⟨e0, dd, HH⟩ (.pointer (some ad)) := fun a w dst pos af g ha hm => by simp [execOp, look_eval ha hx]
theorem p_nilCheck_func {x : Operand} {f : FuncId} {fi ca : Array Value} (hx : ev e0 x = some (.func (.func f) fi ca)) : PV c M (.nilCheck x) ty ⟨e0, dd, HH⟩ (.func (.func f) fi ca) := fun a w dst pos af g ha hm => by simp [execOp, look_eval ha hx]
theorem p_fieldAddr {T f off b o : Nat} {x : Operand} [hf : TOff c.P T f off] (hx : ev e0 x = some (.pointer (some ⟨b, o, none⟩))) : PV c M (.fieldAddr T x f) ty ⟨e0, dd, HH⟩ (.pointer (some ⟨b, o + off, none⟩)) := fun a w dst pos af g ha hm => by
    have hf' := hf.h
    unfold fieldOff at hf'
    split at hf' <;> try cases hf'
    rename_i fs hu
    split at hf' <;> try cases hf'
    rename_i fd hfd
    split at hf' <;> try cases hf'
    rename_i i hi
    split at hf' <;> try cases hf'
    rename_i h0
    simp [execOp, look_eval ha hx, Instr.fieldAt, run_underlying hu, hfd, Instr.sureAddr, fieldPlace, sizeOf, typeInfo, hi, h0, add_off]
theorem p_fieldAddr' {T f off : Nat} {ad : Addr} {x : Operand} [hf : TOff c.P T f off] (hx : ev e0 x = some (.pointer (some ad))) : PV c M (.fieldAddr T x f) ty ⟨e0, dd, HH⟩ (.pointer (some (ad.add off))) := fun a w dst pos af g ha hm => by
    have hf' := hf.h
    unfold fieldOff at hf'
    split at hf' <;> try cases hf'
    rename_i fs hu
    split at hf' <;> try cases hf'
    rename_i fd hfd
    split at hf' <;> try cases hf'
    rename_i i hi
    split at hf' <;> try cases hf'
    rename_i h0
    simp [execOp, look_eval ha hx, Instr.fieldAt, run_underlying hu, hfd, Instr.sureAddr, fieldPlace, sizeOf, typeInfo, hi, h0]
theorem p_build {T : Nat} {ps : Array (Nat × Operand)} {pl : List (Nat × Nat)} {zs r : List Value} {vs : List (Nat × Value)} [hz : TZero c.P T zs] [hp : TPl c.P T pl]
    (hv : ps.toList.mapM (fun q => (ev e0 q.2).map fun v => (q.1, v)) = some vs) (hf : fillL (pl[·]?) zs vs = some r) : PV c M (.build T ps) ty ⟨e0, dd, HH⟩ (.agg ⟨r⟩) := fun a w dst pos af g ha hm => by
    obtain ⟨i, z, h1, h2, h3⟩ := zeroL_some hz.h
    have hzc : z.cells = ⟨zs⟩ := by rw [← h3]
    have hb : c.P.built T (ps.map fun (p : Nat × Operand) => (p.1, a.eval p.2)).toList = some ⟨r⟩ := by
      have hp' := hp.h
      unfold placesOf at hp'
      split at hp' <;> try cases hp'
      rename_i fs hu
      have hp' : fs.toList.mapM (fun f => (c.P.info? f.type).map fun i => (f.offset, i.size)) = some pl := by
        rw [← hp']; congr 1; funext f; simp [szOf]; cases c.P.info? f.type <;> rfl
      simp only [Program.built, h1, hu, h2, hp', hzc]
      rw [Array.toList_map, parts_eval ha _ _ hv]
      have e : (fun x : Nat => pl.toArray[x]?) = (fun x : Nat => pl[x]?) := by funext x; simp
      rw [e]
      exact fill_eq _ _ _ _ hf
    simp [execOp, run_build w T _ _ hb]
theorem p_add (hx : ev e0 x = some (.int k a)) (hy : ev e0 y = some (.int k b)) (hr : k.wrap (a + b) = r) : PV c M (.binOp .add T x y T2) ty ⟨e0, dd, HH⟩ (.int k r) := fun a w dst pos af g ha hm => by simp [execOp, look_eval ha hx, look_eval ha hy, guard_int, binOp, Op.intArith, hr]
theorem p_sub (hx : ev e0 x = some (.int k a)) (hy : ev e0 y = some (.int k b)) (hr : k.wrap (a - b) = r) : PV c M (.binOp .sub T x y T2) ty ⟨e0, dd, HH⟩ (.int k r) := fun a w dst pos af g ha hm => by simp [execOp, look_eval ha hx, look_eval ha hy, guard_int, binOp, Op.intArith, hr]
theorem p_mul (hx : ev e0 x = some (.int k a)) (hy : ev e0 y = some (.int k b)) (hr : k.wrap (a * b) = r) : PV c M (.binOp .mul T x y T2) ty ⟨e0, dd, HH⟩ (.int k r) := fun a w dst pos af g ha hm => by simp [execOp, look_eval ha hx, look_eval ha hy, guard_int, binOp, Op.intArith, hr]
theorem p_quo (hx : ev e0 x = some (.int k a)) (hy : ev e0 y = some (.int k b)) (h0 : b ≠ 0) (hr : k.wrap (a.tdiv b) = r) : PV c M (.binOp .quo T x y T2) ty ⟨e0, dd, HH⟩ (.int k r) := fun a w dst pos af g ha hm => by simp [execOp, look_eval ha hx, look_eval ha hy, guard_int, binOp, Op.intDiv, h0, hr]
theorem p_rem (hx : ev e0 x = some (.int k a)) (hy : ev e0 y = some (.int k b)) (h0 : b ≠ 0) (hr : a.tmod b = r) : PV c M (.binOp .rem T x y T2) ty ⟨e0, dd, HH⟩ (.int k r) := fun a w dst pos af g ha hm => by simp [execOp, look_eval ha hx, look_eval ha hy, guard_int, binOp, Op.intDiv, h0, hr]
theorem p_and (hx : ev e0 x = some (.int k a)) (hy : ev e0 y = some (.int k b)) (hr : bitI .and k a b = r) : PV c M (.binOp .and T x y T2) ty ⟨e0, dd, HH⟩ (.int k r) := fun a w dst pos af g ha hm => by subst hr; simp [execOp, look_eval ha hx, look_eval ha hy, guard_int, binOp, Op.intBits, bitI]
theorem p_or (hx : ev e0 x = some (.int k a)) (hy : ev e0 y = some (.int k b)) (hr : bitI .or k a b = r) : PV c M (.binOp .or T x y T2) ty ⟨e0, dd, HH⟩ (.int k r) := fun a w dst pos af g ha hm => by subst hr; simp [execOp, look_eval ha hx, look_eval ha hy, guard_int, binOp, Op.intBits, bitI]
theorem p_xor (hx : ev e0 x = some (.int k a)) (hy : ev e0 y = some (.int k b)) (hr : bitI .xor k a b = r) : PV c M (.binOp .xor T x y T2) ty ⟨e0, dd, HH⟩ (.int k r) := fun a w dst pos af g ha hm => by subst hr; simp [execOp, look_eval ha hx, look_eval ha hy, guard_int, binOp, Op.intBits, bitI]
theorem p_andNot (hx : ev e0 x = some (.int k a)) (hy : ev e0 y = some (.int k b)) (hr : bitI .andNot k a b = r) : PV c M (.binOp .andNot T x y T2) ty ⟨e0, dd, HH⟩ (.int k r) := fun a w dst pos af g ha hm => by subst hr; simp [execOp, look_eval ha hx, look_eval ha hy, guard_int, binOp, Op.intBits, bitI]
theorem p_shl {k2 : IntKind} (hx : ev e0 x = some (.int k a)) (hy : ev e0 y = some (.int k2 b)) (h0 : 0 ≤ b) (hr : k.wrap (a * 2 ^ (min b.toNat k.bits)) = r) : PV c M (.binOp .shl T x y T2) ty ⟨e0, dd, HH⟩ (.int k r) := fun a w dst pos af g ha hm => by subst hr; simp [execOp, look_eval ha hx, look_eval ha hy, guard_int, binOp, Op.shift, Int.not_lt.2 h0]
theorem p_shr {k2 : IntKind} (hx : ev e0 x = some (.int k a)) (hy : ev e0 y = some (.int k2 b)) (h0 : 0 ≤ b) (hr : a.fdiv (2 ^ (min b.toNat k.bits)) = r) : PV c M (.binOp .shr T x y T2) ty ⟨e0, dd, HH⟩ (.int k r) := fun a w dst pos af g ha hm => by subst hr; simp [execOp, look_eval ha hx, look_eval ha hy, guard_int, binOp, Op.shift, Int.not_lt.2 h0]
theorem p_eql (hx : ev e0 x = some (.int k a)) (hy : ev e0 y = some (.int k b)) : PV c M (.binOp .eql T x y T2) ty ⟨e0, dd, HH⟩ (.bool (decide (a = b))) := fun a w dst pos af g ha hm => by simp [execOp, look_eval ha hx, look_eval ha hy, guard_int, binOp, Op.intCmp, beq_dec]
theorem p_neq (hx : ev e0 x = some (.int k a)) (hy : ev e0 y = some (.int k b)) : PV c M (.binOp .neq T x y T2) ty ⟨e0, dd, HH⟩ (.bool (decide (a ≠ b))) := fun a w dst pos af g ha hm => by simp [execOp, look_eval ha hx, look_eval ha hy, guard_int, binOp, Op.intCmp, bne, beq_dec]
theorem p_lss (hx : ev e0 x = some (.int k a)) (hy : ev e0 y = some (.int k b)) : PV c M (.binOp .lss T x y T2) ty ⟨e0, dd, HH⟩ (.bool (decide (a < b))) := fun a w dst pos af g ha hm => by simp [execOp, look_eval ha hx, look_eval ha hy, guard_int, binOp, Op.intCmp]
theorem p_leq (hx : ev e0 x = some (.int k a)) (hy : ev e0 y = some (.int k b)) : PV c M (.binOp .leq T x y T2) ty ⟨e0, dd, HH⟩ (.bool (decide (a ≤ b))) := fun a w dst pos af g ha hm => by simp [execOp, look_eval ha hx, look_eval ha hy, guard_int, binOp, Op.intCmp]
theorem p_gtr (hx : ev e0 x = some (.int k a)) (hy : ev e0 y = some (.int k b)) : PV c M (.binOp .gtr T x y T2) ty ⟨e0, dd, HH⟩ (.bool (decide (b < a))) := fun a w dst pos af g ha hm => by simp [execOp, look_eval ha hx, look_eval ha hy, guard_int, binOp, Op.intCmp]
theorem p_geq (hx : ev e0 x = some (.int k a)) (hy : ev e0 y = some (.int k b)) : PV c M (.binOp .geq T x y T2) ty ⟨e0, dd, HH⟩ (.bool (decide (b ≤ a))) := fun a w dst pos af g ha hm => by simp [execOp, look_eval ha hx, look_eval ha hy, guard_int, binOp, Op.intCmp]
theorem p_not {t : Bool} (hx : ev e0 x = some (.bool t)) : PV c M (.unOp .not T x) ty ⟨e0, dd, HH⟩ (.bool (!t)) := fun a w dst pos af g ha hm => by simp [execOp, look_eval ha hx, Op.unary]
theorem p_neg (hx : ev e0 x = some (.int k a)) (hr : k.wrap (0 - a) = r) : PV c M (.unOp .neg T x) ty ⟨e0, dd, HH⟩ (.int k r) := fun a w dst pos af g ha hm => by subst hr; simp [execOp, look_eval ha hx, Op.unary, Op.intArith]
theorem p_convert {k2 : IntKind} [hs : TKind c.P T k] [ht : TKind c.P T2 k2] (hx : ev e0 x = some (.int k a)) (hr : k2.wrap a = r) : PV c M (.convert T T2 x) ty ⟨e0, dd, HH⟩ (.int k2 r) := fun a w dst pos af g ha hm => by subst hr; simp [execOp, look_eval ha hx, convert, run_underlying (kindOf_some hs.h), run_underlying (kindOf_some ht.h), Conv.intToInt]
theorem p_extract {vs : Array Value} {i : Nat} {v : Value} (hx : ev e0 x = some (.tuple vs)) (hi : vs[i]? = some v) : PV c M (.extract x i) ty ⟨e0, dd, HH⟩ (v) := fun a w dst pos af g ha hm => by simp [execOp, look_eval ha hx, Instr.extract, hi]
theorem p_makeFunc {fn : Fn} {fi ca : Array Operand} {vf vc : List Value} (hf : fi.toList.mapM (ev e0) = some vf) (hc : ca.toList.mapM (ev e0) = some vc) : PV c M (.makeFunc fn fi ca) ty ⟨e0, dd, HH⟩ (.func fn ⟨vf⟩ ⟨vc⟩) := fun a w dst pos af g ha hm => by simp [execOp, eval_arr ha hf, eval_arr ha hc, Instr.makeFunc]
theorem p_makeInterface {v : Value} [hT : TConc c.P T] (hx : ev e0 x = some v) : PV c M (.makeInterface T x) ty ⟨e0, dd, HH⟩ (.iface T v) := fun a w dst pos af g ha hm => by
    have : (Instr.makeInterface T v).run c.P w = .ok (.iface T v) w := by
      have hT' := hT.h
      unfold concr at hT'
      split at hT' <;> try cases hT'
      rename_i ds hds hu
      simp only [Instr.makeInterface, Sem.run_bind, run_underlying hu, Result.andThen]
      cases ds <;> first | rfl | exact absurd hu (hds _)
    simp [execOp, look_eval ha hx, this]
theorem p_len_str {u : List UInt8} {t : TypeId} [hT : TStr c.P t] (hx : ev e0 x = some (str u)) : PV c M (.call { callee := .builtin .len, args := #[x], argTypes := #[t] }) ty ⟨e0, dd, HH⟩ (.int .i64 u.length) := fun a w dst pos af g ha hm => by
    have hsz : (⟨⟨u⟩⟩ : ByteArray).size = u.length := rfl
    simp [execOp, resolve, look_eval ha hx, invoke, builtin, Builtin.len_, run_underlying (isStrT_some hT.h), goInt, hsz]
theorem p_len_slice {ad : Option Addr} {n cap : Nat} {t e : TypeId} [hT : TEl c.P t e] (hx : ev e0 x = some (.slice ad n cap)) : PV c M (.call { callee := .builtin .len, args := #[x], argTypes := #[t] }) ty ⟨e0, dd, HH⟩ (.int .i64 n) := fun a w dst pos af g ha hm => by
    simp [execOp, resolve, look_eval ha hx, invoke, builtin, Builtin.len_, run_underlying (elemT_some hT.h), goInt]
theorem p_concat {u v : List UInt8} (hx : ev e0 x = some (str u)) (hy : ev e0 y = some (str v)) (hl : u.length + v.length ≤ 9223372036854775807) : PV c M (.binOp .add T x y T2) ty ⟨e0, dd, HH⟩ (str (u ++ v)) := fun a w dst pos af g ha hm => by
    have h1 : ¬ ((((⟨⟨u⟩⟩ : ByteArray).size + (⟨⟨v⟩⟩ : ByteArray).size : Nat) : Int) > IntKind.i64.max) := by
      have : IntKind.i64.max = 9223372036854775807 := by decide
      rw [this]
      simp [ByteArray.size]
      omega
    have h2 : (⟨⟨u⟩⟩ : ByteArray) ++ ⟨⟨v⟩⟩ = ⟨⟨u ++ v⟩⟩ := by
      apply ByteArray.ext
      apply Array.ext'
      simp
    have h3 : (eqGuard .add T x y (str u) (str v)).run c.P w = .ok () w := rfl
    simp only [execOp, look_eval ha hx, look_eval ha hy, Sem.run_bind, h3, Result.andThen, binOp, Op.stringOp, h1, if_false, h2]
    rfl
theorem p_eql_str {u v : List UInt8} (hx : ev e0 x = some (str u)) (hy : ev e0 y = some (str v)) : PV c M (.binOp .eql T x y T2) ty ⟨e0, dd, HH⟩ (.bool (decide (u = v))) := fun a w dst pos af g ha hm => by
    have h3 : (eqGuard .eql T x y (str u) (str v)).run c.P w = .ok () w := rfl
    have h4 : (u == v) = decide (u = v) := by rw [Bool.eq_iff_iff]; simp
    simp only [execOp, look_eval ha hx, look_eval ha hy, Sem.run_bind, h3, Result.andThen, binOp, Op.stringOp, bytes_toList, h4]
    rfl
theorem p_neq_str {u v : List UInt8} (hx : ev e0 x = some (str u)) (hy : ev e0 y = some (str v)) : PV c M (.binOp .neq T x y T2) ty ⟨e0, dd, HH⟩ (.bool (decide (u ≠ v))) := fun a w dst pos af g ha hm => by
    have h3 : (eqGuard .neq T x y (str u) (str v)).run c.P w = .ok () w := rfl
    have h4 : (!(u == v)) = decide (u ≠ v) := by rw [Bool.eq_iff_iff]; simp
    simp only [execOp, look_eval ha hx, look_eval ha hy, Sem.run_bind, h3, Result.andThen, binOp, Op.stringOp, bytes_toList, h4]
    rfl
theorem p_index_str {u : List UInt8} {i : Int} {b : UInt8} [hT : TStr c.P T] (hx : ev e0 x = some (str u)) (hy : ev e0 y = some (.int k i)) (h0 : 0 ≤ i) (hb : u[i.toNat]? = some b) : PV c M (.index T x y) ty ⟨e0, dd, HH⟩ (.int .u8 b.toNat) := fun a w dst pos af g ha hm => by
    have h1 : (⟨⟨u⟩⟩ : ByteArray)[i.toNat]? = some b := by
      obtain ⟨hl, hv⟩ := List.getElem?_eq_some_iff.1 hb
      rw [getElem?_pos (⟨⟨u⟩⟩ : ByteArray) i.toNat (by simpa [ByteArray.size] using hl)]
      exact congrArg some hv
    simp [execOp, look_eval ha hx, look_eval ha hy, Instr.index, asIntOf, run_underlying (isStrT_some hT.h), h0, h1]
theorem p_slice_str {u : List UInt8} {lo hi : Int} {x1 x2 : Operand} {k1 k2 : IntKind} [hT : TStr c.P T] (hx : ev e0 x = some (str u)) (h1 : ev e0 x1 = some (.int k1 lo)) (h2 : ev e0 x2 = some (.int k2 hi))
    (h0 : 0 ≤ lo) (hlh : lo ≤ hi) (hh : hi ≤ u.length) : PV c M (.slice T x (some x1) (some x2) none) ty ⟨e0, dd, HH⟩ (str ((u.take hi.toNat).drop lo.toNat)) := fun a w dst pos af g ha hm => by
    have e : (⟨⟨u⟩⟩ : ByteArray).extract lo.toNat hi.toNat = ⟨⟨(u.take hi.toNat).drop lo.toNat⟩⟩ := by
      rw [Lib.extract_eq, List.drop_take]
    have e1 : (0 ≤ hi ∧ hi ≤ (((⟨⟨u⟩⟩ : ByteArray).size : Nat) : Int)) := ⟨by omega, by simpa [ByteArray.size] using hh⟩
    have e2 : (0 ≤ lo ∧ lo ≤ ((hi.toNat : Nat) : Int)) := ⟨h0, by omega⟩
    simp only [execOp, look_eval ha hx, Option.map_some, Option.map_none, look_eval ha h1, look_eval ha h2, Instr.sliceAt, Sem.run_bind, run_underlying (isStrT_some hT.h), Result.andThen, Instr.slice, Option.isSome_none, Bool.false_eq_true, if_false, Instr.sliceBounds, Instr.sliceBound, asIntOf, Sem.run_pure, e1, e2, if_true, and_self, e]
theorem p_slice_str_from {u : List UInt8} {lo : Int} {x1 : Operand} {k1 : IntKind} [hT : TStr c.P T] (hx : ev e0 x = some (str u)) (h1 : ev e0 x1 = some (.int k1 lo))
    (h0 : 0 ≤ lo) (hh : lo ≤ u.length) : PV c M (.slice T x (some x1) none none) ty ⟨e0, dd, HH⟩ (str (u.drop lo.toNat)) := fun a w dst pos af g ha hm => by
    have e : (⟨⟨u⟩⟩ : ByteArray).extract lo.toNat (⟨⟨u⟩⟩ : ByteArray).size = ⟨⟨u.drop lo.toNat⟩⟩ := by
      rw [Lib.extract_eq, List.take_of_length_le (by simp [ByteArray.size])]
    have e2 : (0 ≤ lo ∧ lo ≤ (((⟨⟨u⟩⟩ : ByteArray).size : Nat) : Int)) := ⟨h0, by simpa [ByteArray.size] using hh⟩
    simp only [execOp, look_eval ha hx, Option.map_some, Option.map_none, look_eval ha h1, Instr.sliceAt, Sem.run_bind, run_underlying (isStrT_some hT.h), Result.andThen, Instr.slice, Option.isSome_none, Bool.false_eq_true, if_false, Instr.sliceBounds, Instr.sliceBound, asIntOf, Sem.run_pure, e2, if_true, and_self, e]
theorem p_slice_str_to {u : List UInt8} {hi : Int} {x2 : Operand} {k2 : IntKind} [hT : TStr c.P T] (hx : ev e0 x = some (str u)) (h2 : ev e0 x2 = some (.int k2 hi))
    (h0 : 0 ≤ hi) (hh : hi ≤ u.length) : PV c M (.slice T x none (some x2) none) ty ⟨e0, dd, HH⟩ (str (u.take hi.toNat)) := fun a w dst pos af g ha hm => by
    have e : (⟨⟨u⟩⟩ : ByteArray).extract 0 hi.toNat = ⟨⟨u.take hi.toNat⟩⟩ := by
      rw [Lib.extract_eq]; simp
    have e1 : (0 ≤ hi ∧ hi ≤ (((⟨⟨u⟩⟩ : ByteArray).size : Nat) : Int)) := ⟨by omega, by simpa [ByteArray.size] using hh⟩
    simp only [execOp, look_eval ha hx, Option.map_some, Option.map_none, look_eval ha h2, Instr.sliceAt, Sem.run_bind, run_underlying (isStrT_some hT.h), Result.andThen, Instr.slice, Option.isSome_none, Bool.false_eq_true, if_false, Instr.sliceBounds, Instr.sliceBound, asIntOf, Sem.run_pure, e1, if_true, and_self, e]
theorem p_indexAddr {ad : Addr} {n cap sz : Nat} {i : Int} [hT : TElSz c.P T sz] (hx : ev e0 x = some (.slice (some ad) n cap)) (hy : ev e0 y = some (.int k i)) (h0 : 0 ≤ i) (h1 : i < n) : PV c M (.indexAddr T x y) ty ⟨e0, dd, HH⟩ (.pointer (some (ad.add (i.toNat * sz)))) := fun a w dst pos af g ha hm => by
    have hT' := hT.h
    unfold elemSz at hT'
    split at hT' <;> try cases hT'
    rename_i e hu
    obtain ⟨i', hi, hsz⟩ := szOf_some hT'
    simp [execOp, look_eval ha hx, look_eval ha hy, Instr.indexAt, asIntOf, run_underlying hu, h0, h1, sizeOf, typeInfo, hi, hsz]
theorem p_min {x y : Operand} {k : IntKind} {a b : Int} {ats : Array TypeId} (hx : ev e0 x = some (.int k a)) (hy : ev e0 y = some (.int k b)) : PV c M (.call { callee := .builtin .min, args := #[x, y], argTypes := ats }) ty ⟨e0, dd, HH⟩ (.int k (min a b)) := fun w' w dst pos af g ha hm => by
    have e : (if b < a then b else a) = min a b := by split <;> omega
    simp [execOp, resolve, look_eval ha hx, look_eval ha hy, invoke, builtin, Builtin.min_, Builtin.min2, e]

theorem p_load {T : Nat} {x : Operand} {ad : Addr} {v : Value} (hx : ev e0 x = some (.pointer (some ad))) [hT : TLk c.P T none] (hm : (ad, v) ∈ M) : PV c M (.load T x) ty ⟨e0, dd, HH⟩ v := fun a w dst pos af g ha hs => by
  obtain ⟨_, _, _, _, h3⟩ := lk_one hT.h
  simp [execOp, look_eval ha hx, Instr.loadAt, Instr.sureAddr, loadVar, h3, hs _ hm]
def MemAll (M : List (Addr × Value)) (ad : Addr) : Nat → List Value → Prop
  | _, [] => True
  | j, v :: vs => (ad.add j, v) ∈ M ∧ MemAll M ad (j + 1) vs
theorem MemAll.get {M : List (Addr × Value)} {ad : Addr} : ∀ {vs : List Value} {j : Nat}, MemAll M ad j vs → ∀ i v, vs[i]? = some v → (ad.add (j + i), v) ∈ M
  | [], _, _, i, v, h => by simp at h
  | u :: vs, j, hm, i, v, h => by
    cases i with
    | zero => simp at h; subst h; exact hm.1
    | succ i => have := hm.2.get i v (by simpa using h); rwa [show j + 1 + i = j + (i + 1) by omega] at this
theorem p_loadN {T n : Nat} {x : Operand} {ad : Addr} {vs : List Value} (hx : ev e0 x = some (.pointer (some ad))) [hT : TLk c.P T (some n)] (hn : vs.length = n) (hm : MemAll M ad 0 vs) : PV c M (.load T x) ty ⟨e0, dd, HH⟩ (.agg ⟨vs⟩) := fun a w dst pos af g ha hs => by
  obtain ⟨i, h1, h2, h3⟩ := lk_many hT.h
  have hl : (loadCells ad n).run c.P w = .ok vs.toArray w := by rw [← hn]; exact run_loadCells_list w ad vs (fun j v hj => hs _ (by have := hm.get j v hj; simpa using this))
  simp [execOp, look_eval ha hx, Instr.loadAt, Instr.sureAddr, loadVar, h3, sizeOf, typeInfo, h1, h2, hl]
end
end Eng
end Go.Proofs.YtnebonmppioooaaDoor
