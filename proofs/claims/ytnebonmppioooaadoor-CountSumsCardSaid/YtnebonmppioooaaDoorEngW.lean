/- The walk's own words, fourth part: loads in regions of open order; arrays, slices of slices, equality of structs, maps. -/
import Derived.Test.YtnebonmppioooaaDoorEngV
import Derived.Laws.StructEq
import Derived.Laws.MakeOwn
import Derived.Laws.Slices
import Derived.Laws.Pointers
import Derived.Laws.Entries
import Derived.ChangeKeysEq
set_option linter.unusedVariables false
set_option linter.unusedSimpArgs false
namespace Go.Proofs.YtnebonmppioooaaDoor
namespace Eng
open Go
variable {c : Cx} {K : S → Prop} {X : Exit → S → Prop} {s : S} {e0 : Env} {dd : List Deferred} {HH : List Chunk}

/-! ### Pure operations, in either region -/
def isDefer : Op → Bool
  | .defer _ => true
  | _ => false
section
variable {ops : Array Oper} {l : List Oper} {ty : TypeId} {pos : String} {af : Array Edge} {d : Nat}
theorem o_pure {op : Op} {v : Value} (hnd : isDefer op = false) (hp : PV c [] op ty ⟨e0, dd, HH⟩ v) (hd : Nat.blt d c.N = true)
    (h : VO c ops l K X ⟨(d, v) :: e0, dd, HH⟩) : VO c ops (⟨some d, op, ty, pos, af, none⟩ :: l) K X ⟨e0, dd, HH⟩ :=
  vo_val (fun q hq => by subst hq; cases hnd) hd (fun a w ha hw => hp a w _ _ _ _ ha (fun p hp => by cases hp)) h
end

/-! ### Loads in a region of open order -/
section
variable {ops : Array Oper} {Q : Exit → Act → World → Prop} {M M' : List (Addr × Value)} {ro : Option Nat} {P : Program} {n : Nat} {listed : Array Bool}
theorem anyS_sub (hs : ∀ w, SM M' w → SM M w) : ∀ (n : Nat) (listed : Array Bool) (a : Act) (w : World), anyS ro P ops Q M' n listed a w → anyS ro P ops Q M n listed a w
  | 0, _, _, _, h => h
  | n + 1, _, _, _, h => ⟨h.1, fun i hi => wpOpIn_mono (fun a' w' h' => ⟨fun hl => hs _ (h'.1 hl), anyS_sub hs n _ a' w' h'.2⟩) (h.2 i hi)⟩
theorem vd_add {ad : Addr} {v : Value} (hc : CellAt c s.H ad v) (h : VD c ops ((ad, v) :: M) K X n listed s) : VD c ops M K X n listed s := fun a w ha hw hm =>
  anyS_sub (fun w h p hp => h p (List.mem_cons_of_mem _ hp)) _ _ _ _ (h a w ha hw fun p hp => by
    rcases List.mem_cons.1 hp with rfl | hp
    · exact hc w hw
    · exact hm p hp)
def memL (ad : Addr) : Nat → List Value → List (Addr × Value)
  | _, [] => []
  | j, v :: vs => (ad.add j, v) :: memL ad (j + 1) vs
theorem memL_get {ad : Addr} : ∀ {vs : List Value} {j : Nat} {p : Addr × Value}, p ∈ memL ad j vs → ∃ i, p.1 = ad.add (j + i) ∧ vs[i]? = some p.2
  | [], _, _, h => by cases h
  | v :: vs, j, p, h => by
    rcases List.mem_cons.1 h with rfl | h
    · exact ⟨0, rfl, rfl⟩
    · obtain ⟨i, h1, h2⟩ := memL_get h
      exact ⟨i + 1, by rw [h1, show j + 1 + i = j + (i + 1) by omega], by simpa using h2⟩
theorem memAll_memL {ad : Addr} {N : List (Addr × Value)} : ∀ {vs : List Value} {j : Nat}, (∀ p ∈ memL ad j vs, p ∈ N) → MemAll N ad j vs
  | [], _, _ => trivial
  | v :: vs, j, h => ⟨h _ (List.mem_cons_self ..), memAll_memL fun p hp => h p (List.mem_cons_of_mem _ hp)⟩
theorem vd_addN {ad : Addr} {vs : List Value} (hc : CellsAt c s.H ad vs) (h : VD c ops (memL ad 0 vs ++ M) K X n listed s) : VD c ops M K X n listed s := fun a w ha hw hm =>
  anyS_sub (fun w h p hp => h p (List.mem_append_right _ hp)) _ _ _ _ (h a w ha hw fun p hp => by
    rcases List.mem_append.1 hp with hp | hp
    · obtain ⟨i, h1, h2⟩ := memL_get hp
      have := hc i _ h2 w hw
      rw [h1]; simpa using this
    · exact hm p hp)
theorem smok_nil {H : List Chunk} : SMok c [] H := trivial
theorem smok_cons {ad : Addr} {v : Value} {H : List Chunk} (hc : CellAt c H ad v) (h : SMok c M H) : SMok c ((ad, v) :: M) H := ⟨hc, h⟩
theorem smok_of {H : List Chunk} (h : ∀ p ∈ M, CellAt c H p.1 p.2) : SMok c M H := by
  induction M with
  | nil => trivial
  | cons p M ih => exact ⟨h p (List.mem_cons_self ..), ih fun q hq => h q (List.mem_cons_of_mem _ hq)⟩
theorem SMok.get {H : List Chunk} (h : SMok c M H) : ∀ p ∈ M, CellAt c H p.1 p.2 := by
  induction M with
  | nil => intro p hp; cases hp
  | cons q M ih =>
    intro p hp
    rcases List.mem_cons.1 hp with rfl | hp
    · exact h.1
    · exact ih h.2 p hp
theorem smok_app {ad : Addr} {vs : List Value} {H : List Chunk} (hc : CellsAt c H ad vs) (h : SMok c M H) : SMok c (memL ad 0 vs ++ M) H := smok_of fun p hp => by
  rcases List.mem_append.1 hp with hp | hp
  · obtain ⟨i, h1, h2⟩ := memL_get hp
    have := hc i _ h2
    rw [h1]; simpa using this
  · exact h.get p hp
section
variable {i d : Nat} {ty : TypeId} {pos : String} {af : Array Edge}
theorem vd_load [PX X] {T : TypeId} {x : Operand} {ad : Addr} {v : Value} (hi : ops[i]? = some ⟨some d, .load T x, ty, pos, af, none⟩) (hs : (Region.noSelect ops && noDefer ops && Region.free .any ops listed i && closedL ops listed && (Region.ready .any ops listed).contains i) = true)
    [hT : TLk c.P T none] (hx : ev e0 x = some (.pointer (some ad))) (hc : CellAt c HH ad v) (hd : Nat.blt d c.N = true)
    (h : VD c ops ((ad, v) :: M) K X n (listed.setIfInBounds i true) ⟨(d, v) :: e0, dd, HH⟩) : VD c ops M K X (n + 1) listed ⟨e0, dd, HH⟩ :=
  vd_add (s := ⟨e0, dd, HH⟩) hc (vd_take hi hs (p_load hx (List.mem_cons_self ..)) hd h)
theorem vd_loadN [PX X] {T m : TypeId} {x : Operand} {ad : Addr} {vs : List Value} (hi : ops[i]? = some ⟨some d, .load T x, ty, pos, af, none⟩) (hs : (Region.noSelect ops && noDefer ops && Region.free .any ops listed i && closedL ops listed && (Region.ready .any ops listed).contains i) = true)
    [hT : TLk c.P T (some m)] (hx : ev e0 x = some (.pointer (some ad))) (hn : vs.length = m) (hc : CellsAt c HH ad vs) (hd : Nat.blt d c.N = true)
    (h : VD c ops (memL ad 0 vs ++ M) K X n (listed.setIfInBounds i true) ⟨(d, .agg ⟨vs⟩) :: e0, dd, HH⟩) : VD c ops M K X (n + 1) listed ⟨e0, dd, HH⟩ :=
  vd_addN (s := ⟨e0, dd, HH⟩) hc (vd_take hi hs (p_loadN hx hn (memAll_memL fun p hp => List.mem_append_left _ hp)) hd h)
theorem vd_load_yes [PX X] {j t : Nat} {want : Bool} {T : TypeId} {x : Operand} {ad : Addr} {v : Value} (hi : ops[i]? = some ⟨some d, .load T x, ty, pos, af, some (j, want)⟩) (hs : (Region.noSelect ops && noDefer ops && Region.free .any ops listed i && closedL ops listed && (Region.ready .any ops listed).contains i) = true)
    (hj : ((ops[j]?).bind (·.dst)) = some t) (hv : look e0 t = some (.bool want))
    [hT : TLk c.P T none] (hx : ev e0 x = some (.pointer (some ad))) (hc : CellAt c HH ad v) (hd : Nat.blt d c.N = true)
    (h : VD c ops ((ad, v) :: M) K X n (listed.setIfInBounds i true) ⟨(d, v) :: e0, dd, HH⟩) : VD c ops M K X (n + 1) listed ⟨e0, dd, HH⟩ :=
  vd_add (s := ⟨e0, dd, HH⟩) hc (vd_take_yes hi hs hj hv (p_load hx (List.mem_cons_self ..)) hd h)
theorem vd_loadN_yes [PX X] {j t : Nat} {want : Bool} {T m : TypeId} {x : Operand} {ad : Addr} {vs : List Value} (hi : ops[i]? = some ⟨some d, .load T x, ty, pos, af, some (j, want)⟩) (hs : (Region.noSelect ops && noDefer ops && Region.free .any ops listed i && closedL ops listed && (Region.ready .any ops listed).contains i) = true)
    (hj : ((ops[j]?).bind (·.dst)) = some t) (hv : look e0 t = some (.bool want))
    [hT : TLk c.P T (some m)] (hx : ev e0 x = some (.pointer (some ad))) (hn : vs.length = m) (hc : CellsAt c HH ad vs) (hd : Nat.blt d c.N = true)
    (h : VD c ops (memL ad 0 vs ++ M) K X n (listed.setIfInBounds i true) ⟨(d, .agg ⟨vs⟩) :: e0, dd, HH⟩) : VD c ops M K X (n + 1) listed ⟨e0, dd, HH⟩ :=
  vd_addN (s := ⟨e0, dd, HH⟩) hc (vd_take_yes hi hs hj hv (p_loadN hx hn (memAll_memL fun p hp => List.mem_append_left _ hp)) hd h)
end
theorem vd_split {t : Nat} {b : Bool} (ht : look e0 t = some (.bool b)) (h1 : b = true → VD c ops M K X n listed ⟨(t, .bool true) :: e0, dd, HH⟩) (h2 : b = false → VD c ops M K X n listed ⟨(t, .bool false) :: e0, dd, HH⟩) : VD c ops M K X n listed ⟨e0, dd, HH⟩ := by
  have key : ∀ (a : Act) (u : Bool), b = u → Rep c a ⟨e0, dd, HH⟩ → Rep c a ⟨(t, .bool u) :: e0, dd, HH⟩ := fun a u hu ha => rep_env ha (fun i v hv => by
    simp only [look] at hv
    by_cases e : t = i
    · subst e
      simp only [Nat.beq_refl, cond_true] at hv
      rw [← hv, ← hu]; exact ht
    · have : Nat.beq t i = false := by
        cases hb : Nat.beq t i with
        | false => rfl
        | true => exact absurd (Nat.eq_of_beq_eq_true hb) e
      rw [this] at hv
      exact hv) rfl
  intro a w ha hw hm
  cases hb : b with
  | true => exact h1 hb a w (key a true hb ha) hw hm
  | false => exact h2 hb a w (key a false hb ha) hw hm
end

theorem vd_lit {ops : Array Oper} {M : List (Addr × Value)} {n : Nat} {listed : Array Bool} {t : Nat} {b : Bool} (ht : look e0 t = some (.bool b)) (h : VD c ops M K X n listed ⟨(t, .bool b) :: e0, dd, HH⟩) : VD c ops M K X n listed ⟨e0, dd, HH⟩ :=
  vd_split ht (fun hb => by subst hb; exact h) (fun hb => by subst hb; exact h)

/-! ### Arrays, structs as values -/
def arrOf (P : Program) (T : TypeId) : Option (Nat × TypeId) := match P.underlying T with | some (.array n e) => some (n, e) | _ => none
theorem arrOf_some {P : Program} {T n e : Nat} (h : arrOf P T = some (n, e)) : P.underlying T = some (.array n e) := by
  unfold arrOf at h
  split at h
  · rename_i m f hu; cases h; exact hu
  · cases h
class TArr (P : Program) (T : TypeId) (n e : outParam Nat) : Prop where
  h : arrOf P T = some (n, e)
def fldOf (P : Program) (T f : Nat) : Option (Nat × TypeId) := match P.underlying T with | some (.struct fs) => (fs[f]?).map fun x => (x.offset, x.type) | _ => none
class TFld (P : Program) (T f : Nat) (off e : outParam Nat) : Prop where
  h : fldOf P T f = some (off, e)
theorem fldOf_some {P : Program} {T f off e : Nat} (h : fldOf P T f = some (off, e)) : ∃ fs fd, P.underlying T = some (.struct fs) ∧ fs[f]? = some fd ∧ fd.offset = off ∧ fd.type = e := by
  unfold fldOf at h
  split at h
  · rename_i fs hu
    cases hf : fs[f]? with
    | none => simp [hf] at h
    | some fd => simp [hf] at h; exact ⟨fs, fd, hu, hf, h.1, h.2⟩
  · cases h
section
variable {P : Program} {w : World}
theorem run_part1 {e : TypeId} {cs : List Value} {o : Nat} {v : Value} (h : lk P e = some none) (hv : cs[o]? = some v) : (part e ⟨cs⟩ o).run P w = .ok v w := by
  obtain ⟨_, _, _, _, h3⟩ := lk_one h
  simp [part, h3, hv]
theorem run_partN {e n : TypeId} {cs : List Value} {o : Nat} (h : lk P e = some (some n)) : (part e ⟨cs⟩ o).run P w = .ok (.agg ⟨(cs.drop o).take n⟩) w := by
  obtain ⟨i, h1, h2, h3⟩ := lk_many h
  simp [part, h3, sizeOf, typeInfo, h1, h2]
end
section
variable {ty : TypeId} {x y : Operand} {k : IntKind} {i : Int} {T T2 : TypeId} {M : List (Addr × Value)} {pos : String}
theorem p_index {n e : TypeId} {cs : List Value} {v : Value} [hT : TArr c.P T n e] [he : TLk c.P e none] [hz : TSz c.P e 1] (hx : ev e0 x = some (.agg ⟨cs⟩)) (hy : ev e0 y = some (.int k i)) (h0 : 0 ≤ i) (h1 : i < n) (hv : cs[i.toNat]? = some v) :
    PV c M (.index T x y) ty ⟨e0, dd, HH⟩ v := fun a w dst pos af g ha hm => by
  obtain ⟨q, hq, hqs⟩ := szOf_some hz.h
  have hp := run_part1 (P := c.P) (w := w) he.h hv
  simp [execOp, look_eval ha hx, look_eval ha hy, Instr.index, asIntOf, run_underlying (arrOf_some hT.h), h0, h1, sizeOf, typeInfo, hq, hqs, hp]
theorem p_indexN {n e m : TypeId} {cs : List Value} [hT : TArr c.P T n e] [he : TLk c.P e (some m)] (hx : ev e0 x = some (.agg ⟨cs⟩)) (hy : ev e0 y = some (.int k i)) (h0 : 0 ≤ i) (h1 : i < n) :
    PV c M (.index T x y) ty ⟨e0, dd, HH⟩ (.agg ⟨(cs.drop (i.toNat * m)).take m⟩) := fun a w dst pos af g ha hm => by
  obtain ⟨q, hq, hqs, _⟩ := lk_many he.h
  have hp := run_partN (P := c.P) (w := w) (cs := cs) (o := i.toNat * m) he.h
  simp [execOp, look_eval ha hx, look_eval ha hy, Instr.index, asIntOf, run_underlying (arrOf_some hT.h), h0, h1, sizeOf, typeInfo, hq, hqs, hp]
theorem p_field {f off e : Nat} {cs : List Value} {v : Value} [hT : TFld c.P T f off e] [he : TLk c.P e none] (hx : ev e0 x = some (.agg ⟨cs⟩)) (hv : cs[off]? = some v) :
    PV c M (.field T x f) ty ⟨e0, dd, HH⟩ v := fun a w dst pos af g ha hm => by
  obtain ⟨fs, fd, h1, h2, h3, h4⟩ := fldOf_some hT.h
  have hp := run_part1 (P := c.P) (w := w) he.h hv
  rw [← h3, ← h4] at hp
  simp [execOp, look_eval ha hx, Instr.field, run_underlying h1, h2, asAgg, hp]
theorem p_fieldN {f off e n : Nat} {cs : List Value} [hT : TFld c.P T f off e] [he : TLk c.P e (some n)] (hx : ev e0 x = some (.agg ⟨cs⟩)) :
    PV c M (.field T x f) ty ⟨e0, dd, HH⟩ (.agg ⟨(cs.drop off).take n⟩) := fun a w dst pos af g ha hm => by
  obtain ⟨fs, fd, h1, h2, h3, h4⟩ := fldOf_some hT.h
  have hp := run_partN (P := c.P) (w := w) (cs := cs) (o := off) he.h
  rw [← h4] at hp
  simp [execOp, look_eval ha hx, Instr.field, run_underlying h1, h2, asAgg, hp, h3]
theorem p_cap {ad : Option Addr} {n cap : Nat} {t e : TypeId} [hT : TEl c.P t e] (hx : ev e0 x = some (.slice ad n cap)) :
    PV c M (.call { callee := .builtin .cap, args := #[x], argTypes := #[t] }) ty ⟨e0, dd, HH⟩ (.int .i64 cap) := fun a w dst pos af g ha hm => by
  simp [execOp, resolve, look_eval ha hx, invoke, builtin, Builtin.cap_, run_underlying (elemT_some hT.h), goInt]
theorem p_indexAddr_arr {ad : Addr} {n e sz : Nat} [hT : TArr c.P T n e] [hz : TSz c.P e sz] (hx : ev e0 x = some (.pointer (some ad))) (hy : ev e0 y = some (.int k i)) (h0 : 0 ≤ i) (h1 : i < n) :
    PV c M (.indexAddr T x y) ty ⟨e0, dd, HH⟩ (.pointer (some (ad.add (i.toNat * sz)))) := fun a w dst pos af g ha hm => by
  obtain ⟨q, hq, hqs⟩ := szOf_some hz.h
  simp [execOp, look_eval ha hx, look_eval ha hy, Instr.indexAt, Instr.sureAddr, asIntOf, run_underlying (arrOf_some hT.h), h0, h1, sizeOf, typeInfo, hq, hqs]
/-- An address in a block, of an array's cell. -/
theorem p_indexAddr_arr' {b o n e sz : Nat} [hT : TArr c.P T n e] [hz : TSz c.P e sz] (hx : ev e0 x = some (.pointer (some ⟨b, o, none⟩))) (hy : ev e0 y = some (.int k i)) (h0 : 0 ≤ i) (h1 : i < n) :
    PV c M (.indexAddr T x y) ty ⟨e0, dd, HH⟩ (.pointer (some ⟨b, o + i.toNat * sz, none⟩)) := by
  have := p_indexAddr_arr (c := c) (M := M) (ty := ty) (dd := dd) (HH := HH) hx hy h0 h1 (hT := hT) (hz := hz)
  rwa [add_off] at this
theorem p_sliceArr {b o n e sz : Nat} [hT : TArr c.P T n e] [hz : TSz c.P e sz] (hn : 0 < n) (hx : ev e0 x = some (.pointer (some ⟨b, o, none⟩))) :
    PV c M (.slice T x none none none) ty ⟨e0, dd, HH⟩ (.slice (some ⟨b, o, none⟩) n n) := fun a w dst pos af g ha hm => by
  obtain ⟨q, hq, hqs⟩ := szOf_some hz.h
  have hne : ¬ n = 0 := by omega
  simp [execOp, look_eval ha hx, Instr.sliceAt, Instr.sureAddr, run_underlying (arrOf_some hT.h), Instr.sliceBounds, sizeOf, typeInfo, hq, hne, add_off]
theorem p_slice_to {b o n cap e sz : Nat} [hT : TEl c.P T e] [hz : TSz c.P e sz] (hx : ev e0 x = some (.slice (some ⟨b, o, none⟩) n cap)) (hy : ev e0 y = some (.int k i)) (h0 : 0 ≤ i) (h1 : i ≤ cap) :
    PV c M (.slice T x none (some y) none) ty ⟨e0, dd, HH⟩ (.slice (some ⟨b, o, none⟩) i.toNat cap) := fun a w dst pos af g ha hm => by
  obtain ⟨q, hq, hqs⟩ := szOf_some hz.h
  simp [execOp, look_eval ha hx, look_eval ha hy, Instr.sliceAt, Instr.slice, run_underlying (elemT_some hT.h), Instr.sliceBounds, Instr.sliceBound, asIntOf, h0, h1, sizeOf, typeInfo, hq, add_off]
theorem p_slice_from {b o n cap e sz : Nat} [hT : TEl c.P T e] [hz : TSz c.P e sz] (hx : ev e0 x = some (.slice (some ⟨b, o, none⟩) n cap)) (hy : ev e0 y = some (.int k i)) (h0 : 0 ≤ i) (h1 : i ≤ n) (h2 : i < cap) :
    PV c M (.slice T x (some y) none none) ty ⟨e0, dd, HH⟩ (.slice (some ⟨b, o + i.toNat * sz, none⟩) (n - i.toNat) (cap - i.toNat)) := fun a w dst pos af g ha hm => by
  obtain ⟨q, hq, hqs⟩ := szOf_some hz.h
  have hne : ¬ cap = i.toNat := by omega
  simp [execOp, look_eval ha hx, look_eval ha hy, Instr.sliceAt, Instr.slice, run_underlying (elemT_some hT.h), Instr.sliceBounds, Instr.sliceBound, asIntOf, h0, h1, sizeOf, typeInfo, hq, hqs, add_off, hne]
def ptrT (P : Program) (T : TypeId) : Bool := match P.underlying T with | some (.pointer _) => true | _ => false
class TPtr (P : Program) (T : TypeId) : Prop where
  h : ptrT P T = true
theorem ptrT_some {P : Program} {T : TypeId} (h : ptrT P T = true) : P.underlying T = some (.pointer (P.pointee T)) := by
  unfold ptrT at h
  split at h
  · rename_i e hu; rw [hu]; simp [Program.pointee, hu]
  · cases h
theorem p_eql_nil {ad : Option Addr} [hT : TPtr c.P T] (hx : ev e0 x = some (.pointer ad)) (hy : ev e0 y = some (.pointer none)) : PV c M (.binOp .eql T x y T2) ty ⟨e0, dd, HH⟩ (.bool ad.isNone) := fun a w dst pos af g ha hm => by
  simp [execOp, look_eval ha hx, look_eval ha hy, eqGuard, run_eql_pointer_nil w T ad (ptrT_some hT.h)]
theorem p_neq_nil {ad : Option Addr} [hT : TPtr c.P T] (hx : ev e0 x = some (.pointer ad)) (hy : ev e0 y = some (.pointer none)) : PV c M (.binOp .neq T x y T2) ty ⟨e0, dd, HH⟩ (.bool (!ad.isNone)) := fun a w dst pos af g ha hm => by
  simp [execOp, look_eval ha hx, look_eval ha hy, eqGuard, run_neq_pointer_nil w T ad (ptrT_some hT.h)]
def boolT (P : Program) (T : TypeId) : Bool := match P.underlying T with | some .bool => true | _ => false
theorem boolT_some {P : Program} {T : TypeId} (h : boolT P T = true) : P.underlying T = some .bool := by
  unfold boolT at h
  split at h
  · assumption
  · cases h
class TBool (P : Program) (T : TypeId) : Prop where
  h : boolT P T = true
theorem p_eql_bool {p q : Bool} [hT : TBool c.P T] (hx : ev e0 x = some (.bool p)) (hy : ev e0 y = some (.bool q)) : PV c M (.binOp .eql T x y T2) ty ⟨e0, dd, HH⟩ (.bool (p == q)) := fun a w dst pos af g ha hm => by
  have := boolT_some hT.h
  simp [execOp, look_eval ha hx, look_eval ha hy, eqGuard, binOp, Op.equal, Op.maxDepth, run_equalIn_bool w 9999 T p q this]
theorem p_neq_bool {p q : Bool} [hT : TBool c.P T] (hx : ev e0 x = some (.bool p)) (hy : ev e0 y = some (.bool q)) : PV c M (.binOp .neq T x y T2) ty ⟨e0, dd, HH⟩ (.bool (p != q)) := fun a w dst pos af g ha hm => by
  have := boolT_some hT.h
  simp [execOp, look_eval ha hx, look_eval ha hy, eqGuard, binOp, Op.equal, Op.maxDepth, run_equalIn_bool w 9999 T p q this, bne]
end

/-! ### Rows of cells as functions of the place -/
def tab (n : Nat) (f : Nat → Value) : List Value := (List.range n).map f
def upd (f : Nat → Value) (o : Nat) (v : Value) : Nat → Value := fun j => if j = o then v else f j
theorem tab_length (n : Nat) (f : Nat → Value) : (tab n f).length = n := by simp [tab]
theorem tab_get {n j : Nat} {f : Nat → Value} (h : j < n) : (tab n f)[j]? = some (f j) := by simp [tab, h]
theorem tab_getI {n j : Nat} {f : Nat → Value} (h : j < n) : (tab n f)[((j : Nat) : Int).toNat]? = some (f j) := tab_get h
theorem tab_set {n o : Nat} {f : Nat → Value} {v : Value} : (tab n f).set o v = tab n (upd f o v) := by
  apply List.ext_getElem?
  intro j
  rcases Nat.lt_or_ge j n with hj | hj
  · rw [tab_get hj, List.getElem?_set]
    by_cases e : o = j
    · subst e; simp [upd, tab_length, hj]
    · have : ¬ j = o := fun h => e h.symm
      simp [e, tab_get hj, upd, this]
  · rw [List.getElem?_eq_none (by simp [tab_length]; omega), List.getElem?_eq_none (by simp [tab_length]; omega)]
theorem tab_seg {n o m : Nat} {f : Nat → Value} (h : o + m ≤ n) : ((tab n f).drop o).take m = tab m (fun j => f (o + j)) := by
  apply List.ext_getElem?
  intro j
  rw [List.getElem?_take]
  by_cases hj : j < m
  · rw [if_pos hj, List.getElem?_drop, tab_get (by omega), tab_get hj]
  · rw [if_neg hj, List.getElem?_eq_none (by simp [tab_length]; omega)]
theorem tab_congr {n : Nat} {f g : Nat → Value} (h : ∀ j, j < n → f j = g j) : tab n f = tab n g := by
  apply List.map_congr_left
  intro j hj
  exact h j (List.mem_range.1 hj)
theorem cell_tab {H : List Chunk} {b o n : Nat} {f : Nat → Value} {T : TypeId} {fr : Nat × Nat} (h : Has H b (.cells ⟨tab n f⟩ T fr)) (ho : o < n) : CellAt c H ⟨b, o, none⟩ (f o) := cell_blk h (tab_get ho)
theorem cells_tab {H : List Chunk} {b o n m : Nat} {f : Nat → Value} {T : TypeId} {fr : Nat × Nat} (h : Has H b (.cells ⟨tab n f⟩ T fr)) (ho : o + m ≤ n) : CellsAt c H ⟨b, o, none⟩ (tab m fun j => f (o + j)) :=
  cells_blk h (by rw [tab_length, tab_seg ho])
theorem cells_tab0 {H : List Chunk} {b n : Nat} {f : Nat → Value} {T : TypeId} {fr : Nat × Nat} (h : Has H b (.cells ⟨tab n f⟩ T fr)) : CellsAt c H ⟨b, 0, none⟩ (tab n f) :=
  cells_blk h (by rw [List.drop_zero, List.take_of_length_le (Nat.le_refl _)])
theorem idx_z1 (i : Nat) : 0 + ((i : Nat) : Int).toNat * 1 = i := by simp
theorem idx_1 (o i : Nat) : o + ((i : Nat) : Int).toNat * 1 = o + i := by simp
theorem idx_s (o i s : Nat) : o + ((i : Nat) : Int).toNat * s = o + i * s := by simp
section
variable {ty : TypeId} {x y : Operand} {k : IntKind} {i : Int} {T T2 : TypeId} {M : List (Addr × Value)} {pos : String}
theorem p_ixArr {b o n e sz r : Nat} [hT : TArr c.P T n e] [hz : TSz c.P e sz] (hx : ev e0 x = some (.pointer (some ⟨b, o, none⟩))) (hy : ev e0 y = some (.int k i)) (h0 : 0 ≤ i) (h1 : i < n) (hr : o + i.toNat * sz = r) :
    PV c M (.indexAddr T x y) ty ⟨e0, dd, HH⟩ (.pointer (some ⟨b, r, none⟩)) := by
  subst hr
  exact p_indexAddr_arr' hx hy h0 h1 (hT := hT) (hz := hz)
theorem p_ixSl {b o n cap sz r : Nat} [hT : TElSz c.P T sz] (hx : ev e0 x = some (.slice (some ⟨b, o, none⟩) n cap)) (hy : ev e0 y = some (.int k i)) (h0 : 0 ≤ i) (h1 : i < n) (hr : o + i.toNat * sz = r) :
    PV c M (.indexAddr T x y) ty ⟨e0, dd, HH⟩ (.pointer (some ⟨b, r, none⟩)) := by
  subst hr
  have := p_indexAddr (c := c) (M := M) (ty := ty) (dd := dd) (HH := HH) hx hy h0 h1 (hT := hT)
  rwa [add_off] at this
end
theorem cells_one {v : Value} (h : v.oneCell' = true) : v.cells.toList = [v] := by cases v <;> first | rfl | cases h
theorem wrL_eq : ∀ (vs cs : List Value) (o : Nat), o + vs.length ≤ cs.length → wrL cs o vs = cs.take o ++ vs ++ cs.drop (o + vs.length)
  | [], cs, o, _ => by simp [wrL]
  | v :: vs, cs, o, h => by
    simp only [List.length_cons] at h
    rw [wrL, wrL_eq vs (cs.set o v) (o + 1) (by simp; omega)]
    have := list_seg_step cs o v vs (by omega)
    rw [this]
    simp
theorem wrL_all {vs cs : List Value} (h : vs.length = cs.length) : wrL cs 0 vs = vs := by
  rw [wrL_eq vs cs 0 (by omega)]
  simp [← h]
theorem wrL_get {vs cs : List Value} {o j : Nat} (h : o + vs.length ≤ cs.length) : (wrL cs o vs)[j]? = if o ≤ j ∧ j < o + vs.length then vs[j - o]? else cs[j]? := by
  rw [wrL_eq vs cs o h]
  by_cases h1 : j < o
  · rw [if_neg (by omega), List.append_assoc, List.getElem?_append_left (by simp; omega), List.getElem?_take, if_pos h1]
  · by_cases h2 : j < o + vs.length
    · rw [if_pos (by omega), List.getElem?_append_left (by simp; omega), List.getElem?_append_right (by simp; omega)]
      simp; congr 1; omega
    · rw [if_neg (by omega), List.getElem?_append_right (by simp; omega), List.getElem?_drop]
      congr 1; simp; omega
theorem tab_of {l : List Value} {n : Nat} {f : Nat → Value} (hl : l.length = n) (h : ∀ j, j < n → l[j]? = some (f j)) : l = tab n f := by
  apply List.ext_getElem?
  intro j
  rcases Nat.lt_or_ge j n with hj | hj
  · rw [h j hj, tab_get hj]
  · rw [List.getElem?_eq_none (by omega), List.getElem?_eq_none (by simp [tab_length]; omega)]
theorem fillL_cons {pl : Nat → Option (Nat × Nat)} {cs : List Value} {i off sz : Nat} {v : Value} {r : List (Nat × Value)} (h1 : pl i = some (off, sz)) (h2 : v.cells.toList.length = sz) (h3 : off + sz ≤ cs.length) : fillL pl cs ((i, v) :: r) = fillL pl (wrL cs off v.cells.toList) r := by
  simp only [fillL, h1]
  rw [if_pos ⟨h2, h3⟩]
theorem tab_one {n : Nat} {f : Nat → Value} (h : ∀ j, j < n → (f j).oneCell' = true) : (tab n f).all Value.oneCell' = true := by
  simp only [tab, List.all_map, List.all_eq_true, List.mem_range, Function.comp]
  exact h
section
variable {ops : Array Oper} {l : List Oper} {ty : TypeId} {pos : String} {af : Array Edge} {d : Nat}
theorem o_storeT {T b o n : Nat} {x y : Operand} {v : Value} {f : Nat → Value} {T' : TypeId} {H' : List Chunk} (hx : ev e0 x = some (.pointer (some ⟨b, o, none⟩))) (hy : ev e0 y = some v)
    [hT : TSz c.P T 1] (h1 : v.oneCell' = true) (hu : Upd HH b (.cells ⟨tab n f⟩ T' (0, 0)) (.cells ⟨tab n (upd f o v)⟩ T' (0, 0)) H') (hb : o < n)
    (h : VO c ops l K X ⟨e0, dd, H'⟩) : VO c ops (⟨none, .store T x y, ty, pos, af, none⟩ :: l) K X ⟨e0, dd, HH⟩ := by
  have e := cells_one h1
  have e2 : wrL (tab n f) o v.cells.toList = tab n (upd f o v) := by rw [e, wrL, wrL, tab_set]
  exact o_store hx hy (hT := hT) (by rw [e]; rfl) (by rw [e2]; exact hu) (by rw [e, tab_length]; simp; omega) (by rw [e]; simp [h1]) h
theorem o_storeAll {T b n : Nat} {x y : Operand} {vs cs : List Value} {T' : TypeId} {H' : List Chunk} (hx : ev e0 x = some (.pointer (some ⟨b, 0, none⟩))) (hy : ev e0 y = some (.agg ⟨vs⟩))
    [hT : TSz c.P T n] (hn : vs.length = n) (hu : Upd HH b (.cells ⟨cs⟩ T' (0, 0)) (.cells ⟨vs⟩ T' (0, 0)) H') (hb : cs.length = n) (h1 : vs.all Value.oneCell' = true)
    (h : VO c ops l K X ⟨e0, dd, H'⟩) : VO c ops (⟨none, .store T x y, ty, pos, af, none⟩ :: l) K X ⟨e0, dd, HH⟩ := by
  have e2 : wrL cs 0 (Value.agg ⟨vs⟩).cells.toList = vs := wrL_all (by show vs.length = _; omega)
  exact o_store hx hy (hT := hT) (by show n = vs.length; omega) (by rw [e2]; exact hu) (by show 0 + vs.length ≤ _; omega) h1 h
end

section
variable {ops : Array Oper} {l : List Oper} {ty : TypeId} {pos : String} {af : Array Edge} {d : Nat} {M : List (Addr × Value)} {n : Nat} {listed : Array Bool} {i : Nat}
theorem o_loadT {T m : TypeId} {x : Operand} {ad : Addr} {g : Nat → Value} (hx : ev e0 x = some (.pointer (some ad))) [hT : TLk c.P T (some m)] (hc : CellsAt c HH ad (tab m g)) (hd : Nat.blt d c.N = true)
    (h : VO c ops l K X ⟨(d, .agg ⟨tab m g⟩) :: e0, dd, HH⟩) : VO c ops (⟨some d, .load T x, ty, pos, af, none⟩ :: l) K X ⟨e0, dd, HH⟩ := o_loadN hx (tab_length _ _) hc hd h
theorem vd_loadT [PX X] {T m : TypeId} {x : Operand} {ad : Addr} {g : Nat → Value} (hi : ops[i]? = some ⟨some d, .load T x, ty, pos, af, none⟩) (hs : (Region.noSelect ops && noDefer ops && Region.free .any ops listed i && closedL ops listed && (Region.ready .any ops listed).contains i) = true)
    [hT : TLk c.P T (some m)] (hx : ev e0 x = some (.pointer (some ad))) (hc : CellsAt c HH ad (tab m g)) (hd : Nat.blt d c.N = true)
    (h : VD c ops (memL ad 0 (tab m g) ++ M) K X n (listed.setIfInBounds i true) ⟨(d, .agg ⟨tab m g⟩) :: e0, dd, HH⟩) : VD c ops M K X (n + 1) listed ⟨e0, dd, HH⟩ := vd_loadN hi hs hx (tab_length _ _) hc hd h
end
theorem v_meet {code : Code} {α : Type} (St : α → S) (I : α → Prop) (h : V c code (fun s' => ∃ z, I z ∧ Ent s' (St z)) X s) (h' : ∀ z, I z → ∀ s', Ent s' (St z) → K s') : V c code K X s :=
  v_mono (fun s ⟨z, h1, h2⟩ => h' z h1 s h2) (fun _ _ h => h) h

/-! ### Loops, round by round -/
def VR (c : Cx) (code : Code) (K : S → Prop) (X : Exit → S → Prop) : Nat → S → Prop
  | 0, _ => False
  | m + 1, s => V c code (fun s' => VR c code K X m s') X s
theorem v_rounds {code : Code} (m : Nat) (h : VR c code K X m s) : V c (.loop code) K X s := by
  have key : ∀ m s, VR c code K X m s → ∀ a w, Rep c a s → RepW c w s.H → Code.roundsIn (fence c.ro) 0 c.P code (post c K X) m a w := by
    intro m
    induction m with
    | zero => intro s h; exact h.elim
    | succ m ih =>
      intro s h a w ha hw
      refine wpIn_mono (h a w ha hw) fun e a w ⟨s', h1, h2, h3⟩ => ?_
      cases e with
      | normal => exact ih s' h3 a w h1 h2
      | exit id => exact ⟨s', h1, h2, h3⟩
      | goto l => exact ⟨s', h1, h2, h3⟩
      | ret => exact ⟨s', h1, h2, h3⟩
      | panic ch => exact ⟨s', h1, h2, h3⟩
      | outgrown => exact ⟨s', h1, h2, h3⟩
  exact fun a w ha hw => wpIn_loop_rounds m (key m s h a w ha hw)
theorem vr_step {code : Code} {m : Nat} (h : V c code (fun s' => VR c code K X m s') X s) : VR c code K X (m + 1) s := h
theorem cells_all {H : List Chunk} {b : Nat} {cs : List Value} {T : TypeId} {fr : Nat × Nat} (h : Has H b (.cells ⟨cs⟩ T fr)) : CellsAt c H ⟨b, 0, none⟩ cs :=
  cells_blk h (by rw [List.drop_zero, List.take_of_length_le (Nat.le_refl _)])
section
variable {ops : Array Oper} {l : List Oper} {ty : TypeId} {pos : String} {af : Array Edge} {d : Nat} {M : List (Addr × Value)} {n : Nat} {listed : Array Bool} {i : Nat}
/-- A whole block is loaded. -/
theorem o_loadA {T m b : TypeId} {x : Operand} {cs : List Value} {T' : TypeId} {fr : Nat × Nat} (hx : ev e0 x = some (.pointer (some ⟨b, 0, none⟩))) [hT : TLk c.P T (some m)] (hc : Has HH b (.cells ⟨cs⟩ T' fr)) (hn : cs.length = m) (hd : Nat.blt d c.N = true)
    (h : VO c ops l K X ⟨(d, .agg ⟨cs⟩) :: e0, dd, HH⟩) : VO c ops (⟨some d, .load T x, ty, pos, af, none⟩ :: l) K X ⟨e0, dd, HH⟩ := o_loadN hx hn (cells_all hc) hd h
theorem vd_loadA [PX X] {T m b : TypeId} {x : Operand} {cs : List Value} {T' : TypeId} {fr : Nat × Nat} (hi : ops[i]? = some ⟨some d, .load T x, ty, pos, af, none⟩) (hs : (Region.noSelect ops && noDefer ops && Region.free .any ops listed i && closedL ops listed && (Region.ready .any ops listed).contains i) = true)
    [hT : TLk c.P T (some m)] (hx : ev e0 x = some (.pointer (some ⟨b, 0, none⟩))) (hc : Has HH b (.cells ⟨cs⟩ T' fr)) (hn : cs.length = m) (hd : Nat.blt d c.N = true)
    (h : VD c ops (memL ⟨b, 0, none⟩ 0 cs ++ M) K X n (listed.setIfInBounds i true) ⟨(d, .agg ⟨cs⟩) :: e0, dd, HH⟩) : VD c ops M K X (n + 1) listed ⟨e0, dd, HH⟩ := vd_loadN hi hs hx hn (cells_all hc) hd h
end
theorem cells_seg {H : List Chunk} {b o n : Nat} {E : List Value} (h : ∀ j v, E[j]? = some v → c.w0.cell? ⟨b, j, none⟩ = some v) (hA : ¬ c.A b) : CellsAt c H ⟨b, o, none⟩ ((E.drop o).take n) :=
  cells_old (fun j v hj => by
    rw [List.getElem?_take] at hj
    split at hj
    · rw [List.getElem?_drop] at hj
      rw [add_off]
      exact h _ _ hj
    · cases hj) hA

/-! ### make -/
section
variable {ops : Array Oper} {l : List Oper} {ty : TypeId} {pos : String} {af : Array Edge} {d : Nat}
theorem o_makeSlice1 {t e n bytes : Nat} {x y : Operand} {k k2 : IntKind} {z0 : Value} [hT : TEl c.P t e] [hz : TZero c.P e [z0]] [hr : TRow c.P e 1 bytes] (hx : ev e0 x = some (.int k (n : Nat))) (hy : ev e0 y = some (.int k2 (n : Nat)))
    (hb : bytes * n ≤ 281474976710656) (h63 : n ≤ 9223372036854775807) (hd : Nat.blt d c.N = true)
    (h : ∀ b, c.w0.heap.size ≤ b → VO c ops l K X ⟨(d, .slice (some ⟨b, 0, none⟩) n n) :: e0, dd, Blk b (.cells ⟨tab n fun _ => z0⟩ e (0, 0)) :: HH⟩) : VO c ops (⟨some d, .makeSlice t x y, ty, pos, af, none⟩ :: l) K X ⟨e0, dd, HH⟩ :=
  vo_gen (by simp) hd fun a w ha hw => by
    obtain ⟨i, z, h1, h2, h3, h4, h5, h6⟩ := rowInfo_some hr.h
    obtain ⟨i', z', g1, g2, g3⟩ := zeroL_some hz.h
    rw [h1] at g1; cases g1
    rw [h2] at g2; cases g2
    have hzc : z.cells = #[z0] := by rw [← Array.toArray_toList (xs := z.cells), g3]
    have hm : madeCells z.cells (n * i.size) = ⟨tab n fun _ => z0⟩ := by
      rw [h3, Nat.mul_one, hzc]
      apply Array.ext'
      simp [madeCells, tab, Nat.mod_one]
    have hb' : (i.bytes : Int) * (n : Int) ≤ 281474976710656 := by
      rw [h4]
      have h7 : ((bytes * n : Nat) : Int) ≤ 281474976710656 := by omega
      rwa [Int.natCast_mul] at h7
    have hrun := run_make (P := c.P) w t e i z (elemT_some hT.h) h1 h2 k k2 n n (by omega) (Int.le_refl _) hb' (by omega)
    simp only [Int.toNat_natCast, hm] at hrun
    refine ⟨_, w.alloc (.cells ⟨tab n fun _ => z0⟩ e), _, ?_, hw.push (Blk w.heap.size (.cells ⟨tab n fun _ => z0⟩ e (0, 0))) rfl rfl rfl (by show w.heap.size ≤ (w.heap.push _).size; simp) (by show (w.heap.push _)[w.heap.size]? = _; exact Array.getElem?_push_size) (fun b hb => by cases hb; exact Nat.le_refl _) (fun i hi => heap_push_old w _ i hi), h _ hw.size⟩
    simp [execOp, look_eval ha hx, look_eval ha hy, hrun]
end

/-! ### Calls, old memory -/
section
variable {ops : Array Oper} {l : List Oper} {ty : TypeId} {pos : String} {af : Array Edge} {dst : Option Nat}
theorem o_callL {fv : Operand} {as : Array Operand} {ats : Array TypeId} {f : FuncId} {fi ca vs us : List Value} {L R : List Chunk} {Q : Ending → List Chunk → Prop}
    (hf : ev e0 fv = some (.func (.func f) ⟨fi⟩ ⟨ca⟩)) (ha : as.toList.mapM (ev e0) = some vs) [he : TEnt c.P f] (hd : inN c dst = true) (hu : fi ++ vs ++ ca = us)
    (hs : Split HH L R) (hc : ∀ w, RepW c w HH → Tr c.P f ⟨us⟩ w L Q)
    (h : ∀ e L', Q e L' → match e with
      | .returned v => VO c ops l K X ⟨putO dst v e0, dd, L' ++ R⟩
      | .panicked ch => X (.panic ch) ⟨e0, dd, L' ++ R⟩
      | .outgrown => False) :
    VO c ops (⟨dst, .call { callee := .value fv, args := as, argTypes := ats }, ty, pos, af, none⟩ :: l) K X ⟨e0, dd, HH⟩ :=
  o_call hf ha hd hs (fun w hw => by
    have e : (⟨fi⟩ ++ ⟨vs⟩ ++ ⟨ca⟩ : Array Value) = ⟨us⟩ := by rw [← hu]; simp
    rw [e]
    exact hc w hw) h
end
section
variable {ops : Array Oper} {l : List Oper} {ty : TypeId} {pos : String} {af : Array Edge} {d : Nat}
/-- A call that returns one value, and turns the pieces L into L'. -/
theorem o_call1 {fv : Operand} {as : Array Operand} {ats : Array TypeId} {f : FuncId} {fi ca vs us : List Value} {v : Value} {L L' R H1 : List Chunk}
    (hf : ev e0 fv = some (.func (.func f) ⟨fi⟩ ⟨ca⟩)) (ha : as.toList.mapM (ev e0) = some vs) [he : TEnt c.P f] (hd : Nat.blt d c.N = true) (hu : fi ++ vs ++ ca = us)
    (hc : ∀ w, RepW c w HH → Tr c.P f ⟨us⟩ w L (fun r L1 => r = .returned v ∧ L1 = L')) (hs : Split HH L R) (hR : L' ++ R = H1)
    (h : VO c ops l K X ⟨(d, v) :: e0, dd, H1⟩) : VO c ops (⟨some d, .call { callee := .value fv, args := as, argTypes := ats }, ty, pos, af, none⟩ :: l) K X ⟨e0, dd, HH⟩ :=
  o_callL (dst := some d) hf ha hd hu hs hc fun e L1 h1 => by
    obtain ⟨rfl, rfl⟩ := h1
    subst hR
    exact h
theorem o_call0 {fv : Operand} {as : Array Operand} {ats : Array TypeId} {f : FuncId} {fi ca vs us : List Value} {v : Value} {L L' R H1 : List Chunk}
    (hf : ev e0 fv = some (.func (.func f) ⟨fi⟩ ⟨ca⟩)) (ha : as.toList.mapM (ev e0) = some vs) [he : TEnt c.P f] (hu : fi ++ vs ++ ca = us)
    (hc : ∀ w, RepW c w HH → Tr c.P f ⟨us⟩ w L (fun r L1 => r = .returned v ∧ L1 = L')) (hs : Split HH L R) (hR : L' ++ R = H1)
    (h : VO c ops l K X ⟨e0, dd, H1⟩) : VO c ops (⟨none, .call { callee := .value fv, args := as, argTypes := ats }, ty, pos, af, none⟩ :: l) K X ⟨e0, dd, HH⟩ :=
  o_callL (dst := none) hf ha rfl hu hs hc fun e L1 h1 => by
    obtain ⟨rfl, rfl⟩ := h1
    subst hR
    exact h
end
theorem cells_oldT {H : List Chunk} {b o n : Nat} {f : Nat → Value} (h : ∀ j, j < n → c.w0.cell? ⟨b, o + j, none⟩ = some (f j)) (hA : ¬ c.A b) : CellsAt c H ⟨b, o, none⟩ (tab n f) :=
  cells_old (fun j v hj => by
    rcases Nat.lt_or_ge j n with hn | hn
    · rw [tab_get hn] at hj
      cases hj
      rw [add_off]
      exact h j hn
    · rw [List.getElem?_eq_none (by simp [tab_length]; omega)] at hj; cases hj) hA

/-! ### Equality of structs and arrays whose cells are numbers, truth values, texts -/
inductive Kd where
  | b | i | s
def veq : Value → Value → Bool
  | .bool a, .bool b => a == b
  | .int _ a, .int _ b => a == b
  | .string a, .string b => a == b
  | _, _ => false
def fit : Kd → Value → Value → Bool
  | .b, .bool _, .bool _ => true
  | .i, .int k _, .int k' _ => k == k'
  | .s, .string _, .string _ => true
  | _, _, _ => false
def fitP : List Kd → List Value → List Value → Bool
  | [], _, _ => true
  | k :: ks, x :: xs, y :: ys => fit k x y && fitP ks xs ys
  | _, _, _ => false
def eqP : List Kd → List Value → List Value → Bool
  | [], _, _ => true
  | _ :: ks, x :: xs, y :: ys => veq x y && eqP ks xs ys
  | _, _, _ => false
theorem fitP_append : ∀ (a b : List Kd) (xs ys : List Value), fitP (a ++ b) xs ys = (fitP a xs ys && fitP b (xs.drop a.length) (ys.drop a.length))
  | [], b, xs, ys => by simp [fitP]
  | k :: a, b, [], ys => by simp [fitP]
  | k :: a, b, x :: xs, [] => by simp [fitP]
  | k :: a, b, x :: xs, y :: ys => by simp [fitP, fitP_append a b xs ys, Bool.and_assoc]
theorem eqP_append : ∀ (a b : List Kd) (xs ys : List Value), fitP a xs ys = true → eqP (a ++ b) xs ys = (eqP a xs ys && eqP b (xs.drop a.length) (ys.drop a.length))
  | [], b, xs, ys, _ => by simp [eqP]
  | k :: a, b, [], ys, h => by simp [fitP] at h
  | k :: a, b, x :: xs, [], h => by simp [fitP] at h
  | k :: a, b, x :: xs, y :: ys, h => by
    simp only [fitP, Bool.and_eq_true] at h
    simp [eqP, eqP_append a b xs ys h.2, Bool.and_assoc]
theorem fitP_take : ∀ (a : List Kd) (xs ys : List Value) (m : Nat), a.length ≤ m → fitP a (xs.take m) (ys.take m) = fitP a xs ys
  | [], xs, ys, m, _ => by simp [fitP]
  | k :: a, [], ys, m, _ => by simp [fitP]
  | k :: a, x :: xs, [], m, _ => by cases m <;> simp [fitP]
  | k :: a, x :: xs, y :: ys, 0, h => by simp at h
  | k :: a, x :: xs, y :: ys, m + 1, h => by simp [fitP, fitP_take a xs ys m (by simpa using h)]
theorem eqP_take : ∀ (a : List Kd) (xs ys : List Value) (m : Nat), a.length ≤ m → eqP a (xs.take m) (ys.take m) = eqP a xs ys
  | [], xs, ys, m, _ => by simp [eqP]
  | k :: a, [], ys, m, _ => by simp [eqP]
  | k :: a, x :: xs, [], m, _ => by cases m <;> simp [eqP]
  | k :: a, x :: xs, y :: ys, 0, h => by simp at h
  | k :: a, x :: xs, y :: ys, m + 1, h => by simp [eqP, eqP_take a xs ys m (by simpa using h)]
theorem tab_succ (n : Nat) (f : Nat → Value) : tab (n + 1) f = f 0 :: tab n (fun j => f (j + 1)) := by simp [tab, List.range_succ_eq_map, Function.comp]
theorem eqP_ints {q : IntKind} : ∀ (n : Nat) (F G : Nat → Int), eqP (List.replicate n .i) (tab n fun j => .int q (F j)) (tab n fun j => .int q (G j)) = true ↔ ∀ j, j < n → F j = G j
  | 0, _, _ => by simp [eqP]
  | n + 1, F, G => by
    rw [tab_succ, tab_succ, List.replicate_succ]
    simp only [eqP, veq, Bool.and_eq_true, beq_iff_eq]
    rw [eqP_ints n (fun j => F (j + 1)) (fun j => G (j + 1))]
    constructor
    · rintro ⟨h0, h⟩ j hj
      cases j with
      | zero => exact h0
      | succ j => exact h j (by omega)
    · intro h
      exact ⟨h 0 (by omega), fun j hj => h (j + 1) (by omega)⟩
theorem fitP_ints {q : IntKind} : ∀ (n : Nat) (F G : Nat → Int), fitP (List.replicate n .i) (tab n fun j => .int q (F j)) (tab n fun j => .int q (G j)) = true
  | 0, _, _ => by simp [fitP]
  | n + 1, F, G => by
    rw [tab_succ, tab_succ, List.replicate_succ]
    simp only [fitP, fit, beq_self_eq_true, Bool.true_and]
    exact fitP_ints n (fun j => F (j + 1)) (fun j => G (j + 1))
def flatFs (P : Program) (g : TypeId → Option (List Kd)) : Nat → List Field → Option (List Kd)
  | _, [] => some []
  | o, f :: fs => if f.name = "_" || f.offset != o then none else
    match g f.type with
    | some m => (flatFs P g (o + m.length) fs).map (m ++ ·)
    | none => none
/-- Which kinds of cells such a type has. -/
def flatK (P : Program) : Nat → TypeId → Option (List Kd)
  | 0, _ => none
  | d + 1, t => match P.underlying t with
    | some .bool => some [.b]
    | some .string => some [.s]
    | some (.int _) => some [.i]
    | some (.struct fs) => if P.stoodInHeld t then none else
      match flatFs P (flatK P d) 0 fs.toList with
      | some ks => if szOf P t = some ks.length then some ks else none
      | none => none
    | some (.array n e) => match flatK P d e with
      | some m => if P.cellsOf e = m.length && (P.info? e).isSome && szOf P t = some (n * m.length) then some (List.replicate n m).flatten else none
      | none => none
    | _ => none
def flatC (P : Program) (T : TypeId) : Option (List Kd) := if P.eqGuardType P.depth T then none else match P.underlying T with
  | some (.struct _) | some (.array _ _) => flatK P 6 T
  | _ => none
class TFlat (P : Program) (T : TypeId) (ks : outParam (List Kd)) : Prop where
  h : flatC P T = some ks
section
variable {P : Program}
/-- Of two values that lie in rows of cells, at one place. -/
def EqAt (P : Program) (D : Nat) (t : TypeId) (ks : List Kd) : Prop :=
  ∀ (xs ys : List Value) (o : Nat) (w : World), fitP ks (xs.drop o) (ys.drop o) = true →
    ∃ a b, (part t ⟨xs⟩ o).run P w = .ok a w ∧ (part t ⟨ys⟩ o).run P w = .ok b w ∧ (Op.equalIn D t a b).run P w = .ok (eqP ks (xs.drop o) (ys.drop o)) w
theorem part_scalar {t : TypeId} {k : Kd} {D : Nat} (hl : ∀ w, (isAgg t).run P w = .ok false w) (h : ∀ x y w, fit k x y = true → (Op.equalIn D t x y).run P w = .ok (veq x y) w) : EqAt P D t [k] := by
  intro xs ys o w hf
  cases hx : xs.drop o with
  | nil => rw [hx] at hf; simp [fitP] at hf
  | cons x xs' =>
    cases hy : ys.drop o with
    | nil => rw [hx, hy] at hf; simp [fitP] at hf
    | cons y ys' =>
      rw [hx, hy] at hf
      simp only [fitP, Bool.and_true] at hf
      have ex : xs[o]? = some x := by rw [← List.head?_drop, hx]; rfl
      have ey : ys[o]? = some y := by rw [← List.head?_drop, hy]; rfl
      exact ⟨x, y, by simp [part, hl, ex], by simp [part, hl, ey], by simp [eqP, h x y w hf]⟩
theorem eqFs_run {d : Nat} {g : TypeId → Option (List Kd)} (hg : ∀ t ks, g t = some ks → EqAt P d t ks) (xs ys : List Value) : ∀ (fs : List Field) (o : Nat) (ks : List Kd) (w : World), flatFs P g o fs = some ks → fitP ks (xs.drop o) (ys.drop o) = true →
    (Op.eqFields d ⟨xs⟩ ⟨ys⟩ fs).run P w = .ok (eqP ks (xs.drop o) (ys.drop o)) w
  | [], o, ks, w, h, _ => by
    simp only [flatFs, Option.some.injEq] at h
    subst h
    simp [Op.eqFields, eqP]
  | f :: fs, o, ks, w, h, hf => by
    simp only [flatFs] at h
    split at h
    · cases h
    · rename_i hn
      simp only [Bool.or_eq_true, decide_eq_true_eq, bne_iff_ne, ne_eq, not_or, Decidable.not_not] at hn
      split at h
      · rename_i m hm
        obtain ⟨ks', hk, rfl⟩ := Option.map_eq_some_iff.1 h
        rw [fitP_append] at hf
        simp only [Bool.and_eq_true, List.drop_drop] at hf
        obtain ⟨a, b, h1, h2, h3⟩ := hg _ _ hm xs ys o w hf.1
        have ih := eqFs_run hg xs ys fs (o + m.length) ks' w hk hf.2
        rw [eqP_append _ _ _ _ hf.1, List.drop_drop, List.drop_drop]
        simp only [Op.eqFields, ne_eq, hn.1, not_false_eq_true, if_true, Sem.run_bind, hn.2, h1, h2, h3, Result.andThen_ok]
        cases eqP m (xs.drop o) (ys.drop o) with
        | false => simp
        | true => simp [ih]
      · cases h
theorem eqIs_run {d e : Nat} {m : List Kd} (hg : EqAt P d e m) (xs ys : List Value) : ∀ (n o : Nat) (w : World), fitP (List.replicate n m).flatten (xs.drop (o * m.length)) (ys.drop (o * m.length)) = true →
    (Op.eqItems d e m.length ⟨xs⟩ ⟨ys⟩ (List.range' o n)).run P w = .ok (eqP (List.replicate n m).flatten (xs.drop (o * m.length)) (ys.drop (o * m.length))) w
  | 0, o, w, _ => by simp [Op.eqItems, eqP]
  | n + 1, o, w, hf => by
    simp only [List.replicate_succ, List.flatten_cons] at hf ⊢
    rw [fitP_append] at hf
    simp only [Bool.and_eq_true, List.drop_drop] at hf
    obtain ⟨a, b, h1, h2, h3⟩ := hg xs ys (o * m.length) w hf.1
    have e1 : o * m.length + m.length = (o + 1) * m.length := by rw [Nat.add_mul, Nat.one_mul]
    rw [e1] at hf
    have ih := eqIs_run hg xs ys n (o + 1) w hf.2
    rw [eqP_append _ _ _ _ hf.1, List.drop_drop, List.drop_drop, e1]
    simp only [List.range'_succ, Op.eqItems, Sem.run_bind, h1, h2, h3, Result.andThen_ok]
    cases eqP m (xs.drop (o * m.length)) (ys.drop (o * m.length)) with
    | false => simp
    | true => simp [ih]
theorem part_agg {t n : Nat} (hl : ∀ w, (isAgg t).run P w = .ok true w) (hs : szOf P t = some n) (xs : List Value) (o : Nat) (w : World) : (part t ⟨xs⟩ o).run P w = .ok (.agg ⟨(xs.drop o).take n⟩) w := by
  obtain ⟨i, h1, h2⟩ := szOf_some hs
  simp [part, hl, sizeOf, typeInfo, h1, h2]
theorem flat_eq : ∀ (d : Nat) (t : TypeId) (ks : List Kd), flatK P d t = some ks → ∀ D, d ≤ D → EqAt P D t ks
  | 0, t, ks, h, D, _ => by cases h
  | d + 1, t, ks, h, 0, hD => by omega
  | d + 1, t, ks, h, D + 1, hD => by
    have ih := fun t ks h => flat_eq d t ks h D (by omega)
    simp only [flatK] at h
    split at h
    · rename_i hu
      cases h
      refine part_scalar (fun w => by simp [isAgg, run_underlying hu]) fun x y w hf => ?_
      cases x <;> cases y <;> simp only [fit, Bool.false_eq_true] at hf
      simp [Op.equalIn, run_underlying hu, veq]
    · rename_i hu
      cases h
      refine part_scalar (fun w => by simp [isAgg, run_underlying hu]) fun x y w hf => ?_
      cases x <;> cases y <;> simp only [fit, Bool.false_eq_true] at hf
      simp [Op.equalIn, run_underlying hu, veq]
    · rename_i q hu
      cases h
      refine part_scalar (fun w => by simp [isAgg, run_underlying hu]) fun x y w hf => ?_
      cases x <;> cases y <;> simp only [fit, Bool.false_eq_true] at hf
      rename_i k1 n1 k2 n2
      have : k1 = k2 := by simpa using hf
      subst this
      simp [Op.equalIn, run_underlying hu, veq]
    · rename_i fs hu
      split at h
      · cases h
      · rename_i hst
        split at h
        · rename_i ks' hk
          split at h
          · rename_i hsz
            cases h
            intro xs ys o w hf
            have hu' : P.underlying t = some (.struct (P.fieldsOf t)) := by rw [hu]; simp [Program.fieldsOf, hu]
            have hfs : (P.fieldsOf t).toList = fs.toList := by simp [Program.fieldsOf, hu]
            refine ⟨_, _, part_agg (fun w => by simp [isAgg, run_underlying hu]) hsz xs o w, part_agg (fun w => by simp [isAgg, run_underlying hu]) hsz ys o w, ?_⟩
            rw [run_equalIn_struct w D t _ _ hu' (by simpa using hst), hfs]
            rw [eqFs_run ih _ _ fs.toList 0 ks w hk (by simpa [fitP_take] using hf)]
            simp [eqP_take]
          · cases h
        · cases h
    · rename_i n e hu
      split at h
      · rename_i m hm
        split at h
        · rename_i hc
          simp only [Bool.and_eq_true, beq_iff_eq, decide_eq_true_eq] at hc
          cases h
          intro xs ys o w hf
          obtain ⟨i, hi⟩ := Option.isSome_iff_exists.1 hc.1.2
          have hlen : (List.replicate n m).flatten.length = n * m.length := by simp
          refine ⟨_, _, part_agg (fun w => by simp [isAgg, run_underlying hu]) hc.2 xs o w, part_agg (fun w => by simp [isAgg, run_underlying hu]) hc.2 ys o w, ?_⟩
          rw [run_equalIn_array w D _ _ hu hi, hc.1.1, List.range_eq_range']
          have := eqIs_run (ih e m hm) ((xs.drop o).take (n * m.length)) ((ys.drop o).take (n * m.length)) n 0 w (by simpa [fitP_take, hlen] using hf)
          rw [this]
          simp [eqP_take, hlen]
        · cases h
      · cases h
    · cases h
end
section
variable {ty : TypeId} {x y : Operand} {T T2 : TypeId} {M : List (Addr × Value)}
theorem flat_run {P : Program} {T : TypeId} {ks : List Kd} (h : flatC P T = some ks) {xs ys : List Value} (hl : xs.length = ks.length) (hl' : ys.length = ks.length) (hf : fitP ks xs ys = true) (w : World) :
    P.eqGuardType P.depth T = false ∧ (Op.equalIn 10000 T (.agg ⟨xs⟩) (.agg ⟨ys⟩)).run P w = .ok (eqP ks xs ys) w := by
  unfold flatC at h
  split at h
  · cases h
  · rename_i hg
    refine ⟨by simpa using hg, ?_⟩
    have hT : flatK P 6 T = some ks ∧ (∀ w, (isAgg T).run P w = .ok true w) := by
      split at h
      · rename_i fs hu; exact ⟨h, fun w => by simp [isAgg, run_underlying hu]⟩
      · rename_i n e hu; exact ⟨h, fun w => by simp [isAgg, run_underlying hu]⟩
      · cases h
    have hsz : szOf P T = some ks.length := by
      have h1 := hT.1
      simp only [flatK] at h1
      split at h1
      · rename_i hu; have := hT.2 w; simp [isAgg, run_underlying hu] at this
      · rename_i hu; have := hT.2 w; simp [isAgg, run_underlying hu] at this
      · rename_i hu; have := hT.2 w; simp [isAgg, run_underlying hu] at this
      · split at h1
        · cases h1
        · split at h1
          · split at h1
            · rename_i hs; cases h1; exact hs
            · cases h1
          · cases h1
      · split at h1
        · split at h1
          · rename_i hs
            simp only [Bool.and_eq_true, beq_iff_eq, decide_eq_true_eq] at hs
            cases h1
            rw [hs.2]; simp
          · cases h1
        · cases h1
      · cases h1
    obtain ⟨a, b, h1, h2, h3⟩ := flat_eq 6 T ks hT.1 10000 (by omega) xs ys 0 w (by simpa using hf)
    rw [part_agg hT.2 hsz] at h1 h2
    have e1 : (xs.drop 0).take ks.length = xs := by simp [← hl]
    have e2 : (ys.drop 0).take ks.length = ys := by simp [← hl']
    rw [e1] at h1
    rw [e2] at h2
    cases h1
    cases h2
    simpa using h3
theorem p_eql_agg {ks : List Kd} {xs ys : List Value} [hT : TFlat c.P T ks] (hx : ev e0 x = some (.agg ⟨xs⟩)) (hy : ev e0 y = some (.agg ⟨ys⟩)) (hl : xs.length = ks.length) (hl' : ys.length = ks.length) (hf : fitP ks xs ys = true) :
    PV c M (.binOp .eql T x y T2) ty ⟨e0, dd, HH⟩ (.bool (eqP ks xs ys)) := fun a w dst pos af g ha hm => by
  obtain ⟨h1, h2⟩ := flat_run hT.h hl hl' hf w
  simp [execOp, look_eval ha hx, look_eval ha hy, run_eqGuard_agg w .eql T x y ⟨xs⟩ ⟨ys⟩ h1, run_eql_struct w T ⟨xs⟩ ⟨ys⟩, h2]
theorem p_neq_agg {ks : List Kd} {xs ys : List Value} [hT : TFlat c.P T ks] (hx : ev e0 x = some (.agg ⟨xs⟩)) (hy : ev e0 y = some (.agg ⟨ys⟩)) (hl : xs.length = ks.length) (hl' : ys.length = ks.length) (hf : fitP ks xs ys = true) :
    PV c M (.binOp .neq T x y T2) ty ⟨e0, dd, HH⟩ (.bool (!eqP ks xs ys)) := fun a w dst pos af g ha hm => by
  obtain ⟨h1, h2⟩ := flat_run hT.h hl hl' hf w
  simp [execOp, look_eval ha hx, look_eval ha hy, run_eqGuard_agg w .neq T x y ⟨xs⟩ ⟨ys⟩ h1, run_neq_struct w T ⟨xs⟩ ⟨ys⟩, h2]
end
/-! ### The same laws, in order -/
section
variable {ops : Array Oper} {l : List Oper} {ty : TypeId} {x y : Operand} {k : IntKind} {i : Int} {T T2 : TypeId} {pos : String} {af : Array Edge} {d : Nat}
theorem o_index {n e : TypeId} {cs : List Value} {v : Value} [hT : TArr c.P T n e] [he : TLk c.P e none] [hz : TSz c.P e 1] (hx : ev e0 x = some (.agg ⟨cs⟩)) (hy : ev e0 y = some (.int k i)) (h0 : 0 ≤ i) (h1 : i < n) (hv : cs[i.toNat]? = some v) (hd : Nat.blt d c.N = true)
    (h : VO c ops l K X ⟨(d, v) :: e0, dd, HH⟩) : VO c ops (⟨some d, .index T x y, ty, pos, af, none⟩ :: l) K X ⟨e0, dd, HH⟩ := o_pure rfl (p_index hx hy h0 h1 hv) hd h
theorem o_indexN {n e m : TypeId} {cs : List Value} [hT : TArr c.P T n e] [he : TLk c.P e (some m)] (hx : ev e0 x = some (.agg ⟨cs⟩)) (hy : ev e0 y = some (.int k i)) (h0 : 0 ≤ i) (h1 : i < n) (hd : Nat.blt d c.N = true)
    (h : VO c ops l K X ⟨(d, (.agg ⟨(cs.drop (i.toNat * m)).take m⟩)) :: e0, dd, HH⟩) : VO c ops (⟨some d, .index T x y, ty, pos, af, none⟩ :: l) K X ⟨e0, dd, HH⟩ := o_pure rfl (p_indexN hx hy h0 h1) hd h
theorem o_field {f off e : Nat} {cs : List Value} {v : Value} [hT : TFld c.P T f off e] [he : TLk c.P e none] (hx : ev e0 x = some (.agg ⟨cs⟩)) (hv : cs[off]? = some v) (hd : Nat.blt d c.N = true)
    (h : VO c ops l K X ⟨(d, v) :: e0, dd, HH⟩) : VO c ops (⟨some d, .field T x f, ty, pos, af, none⟩ :: l) K X ⟨e0, dd, HH⟩ := o_pure rfl (p_field hx hv) hd h
theorem o_fieldN {f off e n : Nat} {cs : List Value} [hT : TFld c.P T f off e] [he : TLk c.P e (some n)] (hx : ev e0 x = some (.agg ⟨cs⟩)) (hd : Nat.blt d c.N = true)
    (h : VO c ops l K X ⟨(d, (.agg ⟨(cs.drop off).take n⟩)) :: e0, dd, HH⟩) : VO c ops (⟨some d, .field T x f, ty, pos, af, none⟩ :: l) K X ⟨e0, dd, HH⟩ := o_pure rfl (p_fieldN hx) hd h
theorem o_cap {ad : Option Addr} {n cap : Nat} {t e : TypeId} [hT : TEl c.P t e] (hx : ev e0 x = some (.slice ad n cap)) (hd : Nat.blt d c.N = true)
    (h : VO c ops l K X ⟨(d, (.int .i64 cap)) :: e0, dd, HH⟩) : VO c ops (⟨some d, .call { callee := .builtin .cap, args := #[x], argTypes := #[t] }, ty, pos, af, none⟩ :: l) K X ⟨e0, dd, HH⟩ := o_pure rfl (p_cap hx) hd h
theorem o_indexAddr_arr {ad : Addr} {n e sz : Nat} [hT : TArr c.P T n e] [hz : TSz c.P e sz] (hx : ev e0 x = some (.pointer (some ad))) (hy : ev e0 y = some (.int k i)) (h0 : 0 ≤ i) (h1 : i < n) (hd : Nat.blt d c.N = true)
    (h : VO c ops l K X ⟨(d, (.pointer (some (ad.add (i.toNat * sz))))) :: e0, dd, HH⟩) : VO c ops (⟨some d, .indexAddr T x y, ty, pos, af, none⟩ :: l) K X ⟨e0, dd, HH⟩ := o_pure rfl (p_indexAddr_arr hx hy h0 h1) hd h
theorem o_indexAddr_arr' {b o n e sz : Nat} [hT : TArr c.P T n e] [hz : TSz c.P e sz] (hx : ev e0 x = some (.pointer (some ⟨b, o, none⟩))) (hy : ev e0 y = some (.int k i)) (h0 : 0 ≤ i) (h1 : i < n) (hd : Nat.blt d c.N = true)
    (h : VO c ops l K X ⟨(d, (.pointer (some ⟨b, o + i.toNat * sz, none⟩))) :: e0, dd, HH⟩) : VO c ops (⟨some d, .indexAddr T x y, ty, pos, af, none⟩ :: l) K X ⟨e0, dd, HH⟩ := o_pure rfl (p_indexAddr_arr' hx hy h0 h1) hd h
theorem o_sliceArr {b o n e sz : Nat} [hT : TArr c.P T n e] [hz : TSz c.P e sz] (hn : 0 < n) (hx : ev e0 x = some (.pointer (some ⟨b, o, none⟩))) (hd : Nat.blt d c.N = true)
    (h : VO c ops l K X ⟨(d, (.slice (some ⟨b, o, none⟩) n n)) :: e0, dd, HH⟩) : VO c ops (⟨some d, .slice T x none none none, ty, pos, af, none⟩ :: l) K X ⟨e0, dd, HH⟩ := o_pure rfl (p_sliceArr hn hx) hd h
theorem o_slice_to {b o n cap e sz : Nat} [hT : TEl c.P T e] [hz : TSz c.P e sz] (hx : ev e0 x = some (.slice (some ⟨b, o, none⟩) n cap)) (hy : ev e0 y = some (.int k i)) (h0 : 0 ≤ i) (h1 : i ≤ cap) (hd : Nat.blt d c.N = true)
    (h : VO c ops l K X ⟨(d, (.slice (some ⟨b, o, none⟩) i.toNat cap)) :: e0, dd, HH⟩) : VO c ops (⟨some d, .slice T x none (some y) none, ty, pos, af, none⟩ :: l) K X ⟨e0, dd, HH⟩ := o_pure rfl (p_slice_to hx hy h0 h1) hd h
theorem o_slice_from {b o n cap e sz : Nat} [hT : TEl c.P T e] [hz : TSz c.P e sz] (hx : ev e0 x = some (.slice (some ⟨b, o, none⟩) n cap)) (hy : ev e0 y = some (.int k i)) (h0 : 0 ≤ i) (h1 : i ≤ n) (h2 : i < cap) (hd : Nat.blt d c.N = true)
    (h : VO c ops l K X ⟨(d, (.slice (some ⟨b, o + i.toNat * sz, none⟩) (n - i.toNat) (cap - i.toNat))) :: e0, dd, HH⟩) : VO c ops (⟨some d, .slice T x (some y) none none, ty, pos, af, none⟩ :: l) K X ⟨e0, dd, HH⟩ := o_pure rfl (p_slice_from hx hy h0 h1 h2) hd h
theorem o_eql_nil {ad : Option Addr} [hT : TPtr c.P T] (hx : ev e0 x = some (.pointer ad)) (hy : ev e0 y = some (.pointer none)) (hd : Nat.blt d c.N = true)
    (h : VO c ops l K X ⟨(d, (.bool ad.isNone)) :: e0, dd, HH⟩) : VO c ops (⟨some d, .binOp .eql T x y T2, ty, pos, af, none⟩ :: l) K X ⟨e0, dd, HH⟩ := o_pure rfl (p_eql_nil hx hy) hd h
theorem o_neq_nil {ad : Option Addr} [hT : TPtr c.P T] (hx : ev e0 x = some (.pointer ad)) (hy : ev e0 y = some (.pointer none)) (hd : Nat.blt d c.N = true)
    (h : VO c ops l K X ⟨(d, (.bool (!ad.isNone))) :: e0, dd, HH⟩) : VO c ops (⟨some d, .binOp .neq T x y T2, ty, pos, af, none⟩ :: l) K X ⟨e0, dd, HH⟩ := o_pure rfl (p_neq_nil hx hy) hd h
theorem o_eql_bool {p q : Bool} [hT : TBool c.P T] (hx : ev e0 x = some (.bool p)) (hy : ev e0 y = some (.bool q)) (hd : Nat.blt d c.N = true)
    (h : VO c ops l K X ⟨(d, (.bool (p == q))) :: e0, dd, HH⟩) : VO c ops (⟨some d, .binOp .eql T x y T2, ty, pos, af, none⟩ :: l) K X ⟨e0, dd, HH⟩ := o_pure rfl (p_eql_bool hx hy) hd h
theorem o_neq_bool {p q : Bool} [hT : TBool c.P T] (hx : ev e0 x = some (.bool p)) (hy : ev e0 y = some (.bool q)) (hd : Nat.blt d c.N = true)
    (h : VO c ops l K X ⟨(d, (.bool (p != q))) :: e0, dd, HH⟩) : VO c ops (⟨some d, .binOp .neq T x y T2, ty, pos, af, none⟩ :: l) K X ⟨e0, dd, HH⟩ := o_pure rfl (p_neq_bool hx hy) hd h
theorem o_ixArr {b o n e sz r : Nat} [hT : TArr c.P T n e] [hz : TSz c.P e sz] (hx : ev e0 x = some (.pointer (some ⟨b, o, none⟩))) (hy : ev e0 y = some (.int k i)) (h0 : 0 ≤ i) (h1 : i < n) (hr : o + i.toNat * sz = r) (hd : Nat.blt d c.N = true)
    (h : VO c ops l K X ⟨(d, (.pointer (some ⟨b, r, none⟩))) :: e0, dd, HH⟩) : VO c ops (⟨some d, .indexAddr T x y, ty, pos, af, none⟩ :: l) K X ⟨e0, dd, HH⟩ := o_pure rfl (p_ixArr hx hy h0 h1 hr) hd h
theorem o_ixSl {b o n cap sz r : Nat} [hT : TElSz c.P T sz] (hx : ev e0 x = some (.slice (some ⟨b, o, none⟩) n cap)) (hy : ev e0 y = some (.int k i)) (h0 : 0 ≤ i) (h1 : i < n) (hr : o + i.toNat * sz = r) (hd : Nat.blt d c.N = true)
    (h : VO c ops l K X ⟨(d, (.pointer (some ⟨b, r, none⟩))) :: e0, dd, HH⟩) : VO c ops (⟨some d, .indexAddr T x y, ty, pos, af, none⟩ :: l) K X ⟨e0, dd, HH⟩ := o_pure rfl (p_ixSl hx hy h0 h1 hr) hd h
theorem o_eql_agg {ks : List Kd} {xs ys : List Value} [hT : TFlat c.P T ks] (hx : ev e0 x = some (.agg ⟨xs⟩)) (hy : ev e0 y = some (.agg ⟨ys⟩)) (hl : xs.length = ks.length) (hl' : ys.length = ks.length) (hf : fitP ks xs ys = true) (hd : Nat.blt d c.N = true)
    (h : VO c ops l K X ⟨(d, (.bool (eqP ks xs ys))) :: e0, dd, HH⟩) : VO c ops (⟨some d, .binOp .eql T x y T2, ty, pos, af, none⟩ :: l) K X ⟨e0, dd, HH⟩ := o_pure rfl (p_eql_agg hx hy hl hl' hf) hd h
theorem o_neq_agg {ks : List Kd} {xs ys : List Value} [hT : TFlat c.P T ks] (hx : ev e0 x = some (.agg ⟨xs⟩)) (hy : ev e0 y = some (.agg ⟨ys⟩)) (hl : xs.length = ks.length) (hl' : ys.length = ks.length) (hf : fitP ks xs ys = true) (hd : Nat.blt d c.N = true)
    (h : VO c ops l K X ⟨(d, (.bool (!eqP ks xs ys))) :: e0, dd, HH⟩) : VO c ops (⟨some d, .binOp .neq T x y T2, ty, pos, af, none⟩ :: l) K X ⟨e0, dd, HH⟩ := o_pure rfl (p_neq_agg hx hy hl hl' hf) hd h
end
end Eng
end Go.Proofs.YtnebonmppioooaaDoor
