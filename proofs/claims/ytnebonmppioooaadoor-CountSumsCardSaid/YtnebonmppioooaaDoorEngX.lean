/- The walk's own words, fifth part: loops by what varies; ranges over functions. -/
import Derived.Test.YtnebonmppioooaaDoorEngW
import Derived.RangeFuncLeaves
import Derived.RecoverIn
set_option linter.unusedVariables false
set_option linter.unusedSimpArgs false
namespace Go.Proofs.YtnebonmppioooaaDoor
namespace Eng
open Go
variable {c : Cx} {K : S → Prop} {X : Exit → S → Prop} {s : S} {e0 : Env} {dd : List Deferred} {HH : List Chunk}

/-! ### Loops, by what varies -/
inductive Keep (e : Env) : List Nat → Env → Prop
  | nil : Keep e [] []
  | cons {k : Nat} {v : Value} {ks : List Nat} {r : Env} (h : look e k = some v) (t : Keep e ks r) : Keep e (k :: ks) ((k, v) :: r)
def mergeC : List Chunk → List (Option Chunk) → List Chunk
  | _ :: H, some k :: u => k :: mergeC H u
  | h :: H, none :: u => h :: mergeC H u
  | H, _ => H
theorem v_loop_k {code : Code} {α : Type} (ks : List Nat) {e1 : Env} (_ : Keep e0 ks e1) (F : α → Env) (D : α → List Deferred) (G : α → List (Option Chunk)) (I : α → Prop) (μ : α → Nat) (x0 : α) (hI : I x0)
    (h0 : Ent ⟨e0, dd, HH⟩ ⟨F x0 ++ e1, D x0, mergeC HH (G x0)⟩)
    (h : ∀ x, I x → V c code (fun s' => ∃ y, I y ∧ Ent s' ⟨F y ++ e1, D y, mergeC HH (G y)⟩ ∧ μ y < μ x) X ⟨F x ++ e1, D x, mergeC HH (G x)⟩) : V c (.loop code) K X ⟨e0, dd, HH⟩ :=
  v_loop_st (fun x => ⟨F x ++ e1, D x, mergeC HH (G x)⟩) I μ x0 hI h0 h
theorem v_meet_k {code : Code} {α : Type} (ks : List Nat) {e1 : Env} (_ : Keep e0 ks e1) (F : α → Env) (G : α → List (Option Chunk)) (I : α → Prop)
    (h : V c code (fun s' => ∃ z, I z ∧ Ent s' ⟨F z ++ e1, dd, mergeC HH (G z)⟩) X ⟨e0, dd, HH⟩) (h' : ∀ z, I z → ∀ s', Ent s' ⟨F z ++ e1, dd, mergeC HH (G z)⟩ → K s') : V c code K X ⟨e0, dd, HH⟩ :=
  v_meet (fun z => ⟨F z ++ e1, dd, mergeC HH (G z)⟩) I h h'

/-! ### The record of a range over a function, and the marks of such -/
def LoopOk (l N : Nat) (env : Env) (ps : List Nat) (assign body : Code) (st : LoopState) (pend : Option Code) (w : World) : Prop :=
  ∃ r : Loop, w.heap[l]? = some (.loop r) ∧ r.state = st ∧ r.pending = pend ∧ r.params = ⟨ps⟩ ∧ r.assign = assign ∧ r.body = body ∧ r.tmps.size = N ∧ ∀ i v, look env i = some v → r.tmps[i]? = some v
def loopPiece (l N : Nat) (env : Env) (ps : List Nat) (assign body : Code) (st : LoopState) (pend : Option Code) : Piece :=
  ⟨(· = l), LoopOk l N env ps assign body st pend, fun w ⟨r, h, _⟩ b hb => by cases hb; exact (Array.getElem?_eq_some_iff.1 h).1, fun w w' hs ⟨r, h, t⟩ => ⟨r, (hs l rfl).trans h, t⟩⟩
abbrev LoopP (l N : Nat) (env : Env) (ps : List Nat) (assign body : Code) (st : LoopState) (pend : Option Code) : Chunk := .abs (loopPiece l N env ps assign body st pend)
def MarksOk (rs : List Nat) (w : World) : Prop := rs.Nodup ∧ ∀ r ∈ rs, w.heap[r]? = some (.deferred (some []))
def marksPiece (rs : List Nat) : Piece :=
  ⟨(· ∈ rs), MarksOk rs, fun w h b hb => (Array.getElem?_eq_some_iff.1 (h.2 b hb)).1, fun w w' hs h => ⟨h.1, fun r hr => (hs r hr).trans (h.2 r hr)⟩⟩
abbrev MarksP (rs : List Nat) : Chunk := .abs (marksPiece rs)
def marks (rs : List Nat) : List Deferred := rs.map fun r => { target := .collected r, args := #[] }
theorem marks_cons (r : Nat) (rs : List Nat) : marks (r :: rs) = { target := .collected r, args := #[] } :: marks rs := rfl
theorem Split.one {H R : List Chunk} {k : Chunk} (h : Rem H k R) : Split H [k] R := .cons h .nil
/-- One object of a piece is turned into another one. -/
theorem RepW.turn {w : World} {H R : List Chunk} {k k' : Chunk} {l : Nat} {o : Obj} (hw : RepW c w H) (hr : Rem H k R) (hk : ∀ b, k.fp b ↔ b = l) (hk' : ∀ b, k'.fp b ↔ b = l) (hok : k'.ok { w with heap := w.heap.setIfInBounds l o }) : RepW c { w with heap := w.heap.setIfInBounds l o } (k' :: R) := by
  refine hw.exch (L' := [k']) (.one hr) ⟨rfl, rfl, rfl, by simp, fun b hb hn => ?_, fun j hj => ?_, List.pairwise_singleton _ _, fun j hj b hb => ?_⟩
  · have : b ≠ l := fun e => hn k (List.mem_singleton.2 rfl) ((hk b).2 e)
    simp [Ne.symm this]
  · cases List.mem_singleton.1 hj; exact hok
  · cases List.mem_singleton.1 hj
    exact .inl ⟨k, List.mem_singleton.2 rfl, (hk b).2 ((hk' b).1 hb)⟩
theorem RepW.marks_more {w : World} {H H1 : List Chunk} {r : Nat} {rs : List Nat} (hw : RepW c w (Blk r (.deferred (some [])) :: H)) (hm : Rem H (MarksP rs) H1) : RepW c w (MarksP (r :: rs) :: H1) := by
  have hs : Split (Blk r (.deferred (some [])) :: H) [Blk r (.deferred (some [])), MarksP rs] H1 := .cons .here (.cons hm .nil)
  have hh := hw.hold hs
  have h1 : w.heap[r]? = some (.deferred (some [])) := hh.1 _ (List.mem_cons_self ..)
  have h2 : MarksOk rs w := hh.1 (MarksP rs) (by simp)
  have h3 : r ∉ rs := by
    have := (List.pairwise_cons.1 hh.2).1 (MarksP rs) (List.mem_singleton.2 rfl) r rfl
    exact this
  refine hw.exch (L' := [MarksP (r :: rs)]) hs ⟨rfl, rfl, rfl, Nat.le_refl _, fun _ _ _ => rfl, fun j hj => ?_, List.pairwise_singleton _ _, fun j hj b hb => ?_⟩
  · cases List.mem_singleton.1 hj
    exact (⟨List.nodup_cons.2 ⟨h3, h2.1⟩, fun q hq => by
      rcases List.mem_cons.1 hq with rfl | hq
      · exact h1
      · exact h2.2 q hq⟩ : MarksOk (r :: rs) w)
  · cases List.mem_singleton.1 hj
    left
    rcases List.mem_cons.1 (show b ∈ r :: rs from hb) with rfl | hb
    · exact ⟨Blk b (.deferred (some [])), by simp, rfl⟩
    · exact ⟨MarksP rs, by simp, hb⟩
theorem MarksOk_nil (w : World) : MarksOk [] w := ⟨List.nodup_nil, fun r hr => by cases hr⟩
theorem RepW.marks_nil {w : World} {H : List Chunk} (hw : RepW c w H) : RepW c w (MarksP [] :: H) :=
  hw.push (MarksP []) rfl rfl rfl (Nat.le_refl _) (MarksOk_nil w) (fun b hb => by cases hb) (fun _ _ => rfl)

/-! ### A round -/
/-- What a call of yield does with the pieces L. -/
def YTr (P : Program) (l : Nat) (args : Array Value) (w : World) (L : List Chunk) (R : Value → List Chunk → Prop) : Prop :=
  Hold w L → ∃ f tmps assign body, (Instr.yield l args).run P w = .ok (.round l f tmps assign body) w ∧
    RoundIn (fence none) 0 P l f tmps assign body w fun e w' => ∃ v L', e = .returned v ∧ R v L' ∧ Trans w L w' L'
section
variable {ops : Array Oper} {l : List Oper} {ty : TypeId} {pos : String} {af : Array Edge} {dst : Option Nat}
theorem o_yield {fv : Operand} {as : Array Operand} {ats : Array TypeId} {l' : Nat} {vs : List Value} {L R : List Chunk} {Q : Value → List Chunk → Prop}
    (hf : ev e0 fv = some (.func (.yield l') #[] #[])) (ha : as.toList.mapM (ev e0) = some vs) (hd : inN c dst = true)
    (hs : Split HH L R) (hc : ∀ w, RepW c w HH → YTr c.P l' ⟨vs⟩ w L Q)
    (h : ∀ v L', Q v L' → VO c ops l K X ⟨putO dst v e0, dd, L' ++ R⟩) :
    VO c ops (⟨dst, .call { callee := .value fv, args := as, argTypes := ats }, ty, pos, af, none⟩ :: l) K X ⟨e0, dd, HH⟩ :=
  vo_op (by simp) fun a w hr hw => by
    obtain ⟨f, tmps, assign, body, h1, h2⟩ := hc w hw (hw.hold hs)
    have hrun : (execOp a.eval ⟨dst, .call { callee := .value fv, args := as, argTypes := ats }, ty, pos, af, none⟩).run c.P w = .ok (.round l' f tmps assign body) w := by
      simp [execOp, resolve, look_eval hr hf, eval_arr hr ha, Deferred.ofValue, invoke, h1]
    rw [hrun]
    refine ⟨fun hd => (by cases hd), RoundIn.mono (show RoundIn (fence c.ro) 0 c.P l' f tmps assign body w _ from h2) fun e w' ⟨v, L', he, hq, ht⟩ => ?_⟩
    subst he
    exact h v L' hq _ w' (rep_heap (rep_putO hr hd v) (L' ++ R)) (hw.exch hs ht)
/-- A yield that answers what is known. -/
theorem o_yield1 {fv : Operand} {as : Array Operand} {ats : Array TypeId} {l' d : Nat} {vs : List Value} {L L' R H1 : List Chunk} {v : Value}
    (hf : ev e0 fv = some (.func (.yield l') #[] #[])) (ha : as.toList.mapM (ev e0) = some vs) (hd : Nat.blt d c.N = true)
    (hc : ∀ w, RepW c w HH → YTr c.P l' ⟨vs⟩ w L (fun r L1 => r = v ∧ L1 = L')) (hs : Split HH L R) (hR : L' ++ R = H1)
    (h : VO c ops l K X ⟨(d, v) :: e0, dd, H1⟩) :
    VO c ops (⟨some d, .call { callee := .value fv, args := as, argTypes := ats }, ty, pos, af, none⟩ :: l) K X ⟨e0, dd, HH⟩ :=
  o_yield (dst := some d) hf ha hd hs hc fun v' L1 h1 => by
    obtain ⟨rfl, rfl⟩ := h1
    subst hR
    exact h
end
def pushP : List Nat → List Value → Env → Env
  | p :: ps, v :: vs, e => pushP ps vs ((p, v) :: e)
  | _, _, e => e
def roundK (l N : Nat) (env : Env) (ps : List Nat) (assign body : Code) (R : Value → List Chunk → Prop) (j : Option Code) (s : S) : Prop :=
  ∃ pend H0 L Z, Rem s.H (LoopP l N env ps assign body .busy pend) H0 ∧ Split (LoopP l N env ps assign body (if j.isNone then .ready else .done) j :: H0) L Z ∧ R (.bool j.isNone) L
def roundX (l N : Nat) (env : Env) (ps : List Nat) (assign body : Code) (R : Value → List Chunk → Prop) : Exit → S → Prop
  | .ret, s => roundK l N env ps assign body R (some .ret) s
  | .exit id, s => roundK l N env ps assign body R (some (.exit id)) s
  | _, _ => False
theorem z_ret {l N : Nat} {env : Env} {ps : List Nat} {assign body : Code} {R : Value → List Chunk → Prop} (h : roundK l N env ps assign body R (some .ret) s) : roundX l N env ps assign body R .ret s := h
theorem z_exit {l N id : Nat} {env : Env} {ps : List Nat} {assign body : Code} {R : Value → List Chunk → Prop} (h : roundK l N env ps assign body R (some (.exit id)) s) : roundX l N env ps assign body R (.exit id) s := h
instance {l N : Nat} {env : Env} {ps : List Nat} {assign body : Code} {R : Value → List Chunk → Prop} : PX (roundX l N env ps assign body R) := ⟨fun _ _ _ _ h => h.elim⟩
instance : PX (fun _ _ => False) := ⟨fun _ _ _ _ h => h⟩
def beginK (c : Cx) (l N : Nat) (env : Env) (ps : List Nat) (assign body : Code) (R : Value → List Chunk → Prop) (s : S) : Prop :=
  ∃ pend H0, Rem s.H (LoopP l N env ps assign body .ready pend) H0 ∧ V c body (roundK l N env ps assign body R none) (roundX l N env ps assign body R) ⟨s.env, s.ds, LoopP l N env ps assign body .busy pend :: H0⟩
theorem beginK_of {l N : Nat} {env : Env} {ps : List Nat} {assign body : Code} {R : Value → List Chunk → Prop} {pend : Option Code} {H0 : List Chunk} (h1 : Rem HH (LoopP l N env ps assign body .ready pend) H0)
    (h2 : V c body (roundK l N env ps assign body R none) (roundX l N env ps assign body R) ⟨e0, dd, LoopP l N env ps assign body .busy pend :: H0⟩) : beginK c l N env ps assign body R ⟨e0, dd, HH⟩ := ⟨pend, H0, h1, h2⟩
theorem loop_fp {l N : Nat} {env : Env} {ps : List Nat} {assign body : Code} {st : LoopState} {pend : Option Code} (b : Nat) : (LoopP l N env ps assign body st pend).fp b ↔ b = l := Iff.rfl
theorem run_setLoop {P : Program} {w : World} {l : Nat} {r : Loop} (o' : Obj) (h : w.heap[l]? = some (.loop r)) : (setObj l o').run P w = .ok () { w with heap := w.heap.setIfInBounds l o' } := by
  simp only [setObj, Sem.run, h]
theorem run_setDef {P : Program} {w : World} {l : Nat} {r : Option (List Deferred)} (o' : Obj) (h : w.heap[l]? = some (.deferred r)) : (setObj l o').run P w = .ok () { w with heap := w.heap.setIfInBounds l o' } := by
  simp only [setObj, Sem.run, h]
theorem loopOk_set {l N : Nat} {env : Env} {ps : List Nat} {assign body : Code} {st0 : LoopState} {p0 : Option Code} {w : World} (h : LoopOk l N env ps assign body st0 p0 w) (st : LoopState) :
    ∃ r : Loop, w.heap[l]? = some (.loop r) ∧ r.state = st0 ∧ r.pending = p0 ∧ (∀ p, LoopOk l N env ps assign body st p { w with heap := w.heap.setIfInBounds l (.loop { r with state := st, pending := p }) }) := by
  obtain ⟨r, h1, h2, h3, h4, h5, h6, h7, h8⟩ := h
  have hl := (Array.getElem?_eq_some_iff.1 h1).1
  exact ⟨r, h1, h2, h3, fun p => ⟨{ r with state := st, pending := p }, by simp [hl], rfl, rfl, h4, h5, h6, h7, h8⟩⟩
theorem run_getLoop {P : Program} {w : World} {l : Nat} {r : Loop} (h : w.heap[l]? = some (.loop r)) : (Instr.getLoop l).run P w = .ok r w := by
  simp [Instr.getLoop, getObj, Sem.run, h]
theorem pushP_fold {N : Nat} : ∀ (ps : List Nat) (vs : List Value) (env : Env) (tmps : Array Value), vs.length = ps.length → ps.all (Nat.blt · N) = true → tmps.size = N → (∀ i v, look env i = some v → tmps[i]? = some v) →
    ((ps.zip vs).foldl (fun (t : Array Value) (q : Nat × Value) => t.setIfInBounds q.1 q.2) tmps).size = N ∧ ∀ i v, look (pushP ps vs env) i = some v → ((ps.zip vs).foldl (fun (t : Array Value) (q : Nat × Value) => t.setIfInBounds q.1 q.2) tmps)[i]? = some v
  | [], [], env, tmps, _, _, hN, h => ⟨hN, h⟩
  | [], _ :: _, _, _, hl, _, _, _ => by simp at hl
  | _ :: _, [], _, _, hl, _, _, _ => by simp at hl
  | p :: ps, v :: vs, env, tmps, hl, hp, hN, h => by
    simp only [List.all_cons, Bool.and_eq_true] at hp
    have hpN : p < tmps.size := by rw [hN]; exact Nat.le_of_ble_eq_true hp.1
    refine pushP_fold ps vs ((p, v) :: env) (tmps.setIfInBounds p v) (by simpa using hl) hp.2 (by simp [hN]) fun i u hu => ?_
    simp only [look] at hu
    by_cases e : p = i
    · subst e
      simp only [Nat.beq_refl, cond_true, Option.some.injEq] at hu
      subst hu
      simp [hpN]
    · have : Nat.beq p i = false := by
        cases hb : Nat.beq p i with
        | false => rfl
        | true => exact absurd (Nat.eq_of_beq_eq_true hb) e
      rw [this] at hu
      rw [Array.getElem?_setIfInBounds_ne e]
      exact h i u hu
/-- A round's contract out of its body's walk. -/
theorem ytr_of_v {P : Program} {l N : Nat} {env : Env} {ps : List Nat} {vs : List Value} {assign body : Code} {w : World} {L L0 : List Chunk} {pend : Option Code} {R : Value → List Chunk → Prop}
    (hr : Rem L (LoopP l N env ps assign body .ready pend) L0) (hps : ps.all (Nat.blt · N) = true) (hlen : vs.length = ps.length) {ea : Env} (hea : pushP ps vs env = ea)
    (h : V ⟨some l, P, N, w, fun b => ∃ k ∈ L, k.fp b⟩ assign (beginK ⟨some l, P, N, w, fun b => ∃ k ∈ L, k.fp b⟩ l N env ps assign body R) (fun _ _ => False) ⟨ea, [], L⟩) : YTr P l ⟨vs⟩ w L R := fun hL => by
  subst hea
  have hm : (LoopP l N env ps assign body .ready pend) ∈ L := hr.perm.mem_iff.2 (List.mem_cons_self ..)
  obtain ⟨r, h1, h2, h3, h4, h5, h6, h7, h8⟩ := (show LoopOk l N env ps assign body .ready pend w from hL.1 _ hm)
  obtain ⟨g1, g2⟩ := pushP_fold (N := N) ps vs env r.tmps hlen hps h7 h8
  refine ⟨r.fn, (ps.zip vs).foldl (fun (t : Array Value) (q : Nat × Value) => t.setIfInBounds q.1 q.2) r.tmps, r.assign, r.body, ?_, ?_⟩
  · have e1 : (r.params.zip (⟨vs⟩ : Array Value)).foldl (fun (t : Array Value) (q : Nat × Value) => t.setIfInBounds q.1 q.2) r.tmps = (ps.zip vs).foldl (fun (t : Array Value) (q : Nat × Value) => t.setIfInBounds q.1 q.2) r.tmps := by
      rw [h4, ← Array.foldl_toList]; simp
    have e2 : (⟨vs⟩ : Array Value).size = r.params.size := by rw [h4]; simpa using hlen
    simp only [Instr.yield, Sem.run_bind, run_getLoop h1, Result.andThen, e2, ne_eq, not_true_eq_false, if_false, Sem.run_pure]
    exact congrArg (fun t => Result.ok (Next.round l r.fn t r.assign r.body) w) e1
  · rw [h5, h6]
    have hw : RepW ⟨some l, P, N, w, fun b => ∃ k ∈ L, k.fp b⟩ w L := ⟨rfl, rfl, rfl, Nat.le_refl _, fun _ _ _ => rfl, hL.1, hL.2, fun k hk b hb => .inl ⟨k, hk, hb⟩⟩
    refine roundIn_of_wpIn (F := fence none) trivial ?_
    show assign.wpIn (fence (some l)) 0 P _ _ _
    refine wpIn_mono (h ⟨(ps.zip vs).foldl (fun (t : Array Value) (q : Nat × Value) => t.setIfInBounds q.1 q.2) r.tmps, []⟩ w ⟨rfl, g1, g2⟩ hw) fun e a1 w1 ⟨s', k1, k2, k3⟩ => ?_
    have ending : ∀ (j : Option Code) (a3 : Act) (w3 : World) (s3 : S), Rep ⟨some l, P, N, w, fun b => ∃ k ∈ L, k.fp b⟩ a3 s3 → RepW ⟨some l, P, N, w, fun b => ∃ k ∈ L, k.fp b⟩ w3 s3.H → roundK l N env ps assign body R j s3 →
        ∃ v w', (Instr.endRound l j).run P w3 = .ok v w' ∧ ∃ v' L', Ending.returned v = Ending.returned v' ∧ R v' L' ∧ Trans w L w' L' := by
      rintro j a3 w3 s3 q1 q2 ⟨pend, H0, L', Z, q3, q4, q5⟩
      obtain ⟨r3, m1, m2, m3, m4⟩ := loopOk_set (show LoopOk l N env ps assign body .busy pend w3 from (q2.hold (.one q3)).1 _ (List.mem_singleton.2 rfl)) (if j.isNone then .ready else .done)
      have q6 := q2.turn (k' := LoopP l N env ps assign body (if j.isNone then .ready else .done) j) (o := .loop { r3 with state := if j.isNone then .ready else .done, pending := j }) q3 loop_fp loop_fp (m4 j)
      refine ⟨.bool j.isNone, _, ?_, .bool j.isNone, L', rfl, q5, trans_of_repW q6 q4⟩
      simp only [Instr.endRound, Sem.run_bind, run_getLoop m1, Result.andThen, run_setLoop _ m1, Sem.run_pure]
    cases e with
    | normal =>
      obtain ⟨pend1, H0, k4, k5⟩ := k3
      obtain ⟨r1, m1, m2, m3, m4⟩ := loopOk_set (show LoopOk l N env ps assign body .ready pend1 w1 from (k2.hold (.one k4)).1 _ (List.mem_singleton.2 rfl)) .busy
      have k6 := k2.turn (k' := LoopP l N env ps assign body .busy pend1) (o := .loop { r1 with state := .busy }) k4 loop_fp loop_fp (by have := m4 pend1; rw [← m3] at this ⊢; exact this)
      refine ⟨_, (by simp only [Instr.beginRound, Sem.run_bind, run_getLoop m1, Result.andThen, run_setLoop _ m1, m2]; rfl), ?_⟩
      show body.wpIn (fence (some l)) 0 P _ _ _
      refine wpIn_mono (k5 a1 _ (rep_heap k1 _) k6) fun e a3 w3 ⟨s3, n1, n2, n3⟩ => ?_
      cases e with
      | normal => exact ending none a3 w3 s3 n1 n2 n3
      | ret => exact ending (some .ret) a3 w3 s3 n1 n2 n3
      | exit id => exact ending (some (.exit id)) a3 w3 s3 n1 n2 n3
      | goto t => exact n3.elim
      | panic ch => exact n3.elim
      | outgrown => exact n3.elim
    | exit id => exact k3.elim
    | goto t => exact k3.elim
    | ret => exact k3.elim
    | panic ch => exact k3.elim
    | outgrown => exact k3.elim

/-! ### The statement -/
/-- What is asked where the function that was ranged over has ended. -/
def afterX (c : Cx) (K : S → Prop) (X : Exit → S → Prop) (l r N : Nat) (e0 : Env) (dd : List Deferred) (ps : List Nat) (assign body : Code) (H : List Chunk) : Prop :=
  ∃ st pend H0, Rem H (LoopP l N e0 ps assign body st pend) H0 ∧ (st == .busy) = false ∧ (match pend with
    | none => K ⟨e0, { target := .collected r, args := #[] } :: dd, H0⟩
    | some .ret => X .ret ⟨e0, { target := .collected r, args := #[] } :: dd, H0⟩
    | some (.exit id) => X (.exit id) ⟨e0, { target := .collected r, args := #[] } :: dd, H0⟩
    | _ => False)
theorem v_rangeFunc {g : Operand} {ps : List Nat} {assign body : Code} {f : FuncId} {fi ca : List Value} {rs : List Nat} {H1 : List Chunk} (hro : c.ro = none) (hg : ev e0 g = some (.func (.func f) ⟨fi⟩ ⟨ca⟩)) [he : TEnt c.P f]
    (hm : Rem HH (MarksP rs) H1)
    (h : ∀ r l, ∃ L R Q, Split (LoopP l c.N e0 ps assign body .ready none :: MarksP (r :: rs) :: H1) L R ∧
      (∀ w, RepW c w (LoopP l c.N e0 ps assign body .ready none :: MarksP (r :: rs) :: H1) → Tr c.P f ⟨fi ++ [.func (.yield l) #[] #[]] ++ ca⟩ w L Q) ∧
      ∀ e L', Q e L' → match e with
        | .returned _ => afterX c K X l r c.N e0 dd ps assign body (L' ++ R)
        | .panicked ch => X (.panic ch) ⟨e0, { target := .collected r, args := #[] } :: dd, L' ++ R⟩
        | .outgrown => False) : V c (.rangeFunc g ⟨ps⟩ assign body) K X ⟨e0, dd, HH⟩ := fun a w ha hw => by
  refine wpIn_rangeFunc fun fn _ => ?_
  obtain ⟨L, R, Q, h1, h2, h3⟩ := h w.heap.size (w.heap.size + 1)
  let w1 : World := { w with heap := w.heap.push (.deferred (some [])) }
  let w2 : World := { w1 with heap := w1.heap.push (.loop { state := .ready, pending := none, fn, tmps := a.tmps, params := ⟨ps⟩, assign, body, defers := w.heap.size }) }
  have hr1 : RepW c w1 (Blk w.heap.size (.deferred (some [])) :: HH) := hw.push (Blk w.heap.size (.deferred (some []))) rfl rfl rfl (by simp [w1]) (by show (w.heap.push _)[w.heap.size]? = _; exact Array.getElem?_push_size) (fun b hb => by cases hb; exact Nat.le_refl _) (fun i hi => heap_push_old w _ i hi)
  have hr2 : RepW c w1 (MarksP (w.heap.size :: rs) :: H1) := hr1.marks_more hm
  have hs1 : w1.heap.size = w.heap.size + 1 := by simp [w1]
  have hlo : LoopOk (w.heap.size + 1) c.N e0 ps assign body .ready none w2 :=
    ⟨{ state := .ready, pending := none, fn, tmps := a.tmps, params := ⟨ps⟩, assign, body, defers := w.heap.size }, by rw [← hs1]; exact Array.getElem?_push_size, rfl, rfl, rfl, rfl, rfl, ha.size, ha.at_⟩
  have hr3 : RepW c w2 (LoopP (w.heap.size + 1) c.N e0 ps assign body .ready none :: MarksP (w.heap.size :: rs) :: H1) :=
    hr2.push (LoopP (w.heap.size + 1) c.N e0 ps assign body .ready none) rfl rfl rfl (by simp [w2])
      hlo (fun b hb => by cases hb; omega) (fun i hi => heap_push_old w1 _ i hi)
  refine ⟨w.heap.size + 1, [{ target := .collected w.heap.size, args := #[] }], w2, { target := .fn (.func f) ⟨ca⟩, args := ⟨fi ++ [.func (.yield (w.heap.size + 1)) #[] #[]]⟩ }, w2, f, ⟨fi ++ [.func (.yield (w.heap.size + 1)) #[] #[]] ++ ca⟩, w2, ?_, ?_, fun _ _ => trivial, ?_, fun hd => (by cases hd), ?_⟩
  · have e : (fence c.ro).round = none := hro
    rw [e, ← hs1]
    rfl
  · have hgv := look_eval ha hg
    have hcv : a.eval (.const (.func (.yield (w.heap.size + 1)) #[] #[])) = .func (.yield (w.heap.size + 1)) #[] #[] := rfl
    simp [resolve, rangeCall, hgv, hcv, Deferred.ofValue]
  · have := enters_run he.h (⟨fi ++ [.func (.yield (w.heap.size + 1)) #[] #[]] ++ ca⟩ : Array Value) w2
    simpa [invoke] using this
  · refine callsIn_of_calls (Calls.mono (h2 w2 hr3 (hr3.hold h1)) ?_)
    rintro e w3 ⟨L', hq, ht⟩
    have hw3 := hr3.exch h1 ht
    have h4 := h3 e L' hq
    have hact : Rep c { a with defers := [{ target := .collected w.heap.size, args := #[] }] ++ a.defers } ⟨e0, { target := .collected w.heap.size, args := #[] } :: dd, L' ++ R⟩ := ⟨by show _ :: a.defers = _; rw [ha.ds], ha.size, ha.at_⟩
    cases e with
    | returned v =>
      obtain ⟨st, pend, H0, m1, m2, m3⟩ := h4
      obtain ⟨r3, n1, n2, n3, n4⟩ := loopOk_set (show LoopOk (w.heap.size + 1) c.N e0 ps assign body st pend w3 from (hw3.hold (.one m1)).1 _ (List.mem_singleton.2 rfl)) .exhausted
      have hw4 : RepW c { w3 with heap := w3.heap.setIfInBounds (w.heap.size + 1) (.loop { r3 with state := .exhausted }) } H0 :=
        (hw3.turn (k' := LoopP (w.heap.size + 1) c.N e0 ps assign body .exhausted pend) (o := .loop { r3 with state := .exhausted }) m1 loop_fp loop_fp (by have := n4 pend; rw [← n3] at this ⊢; exact this)) |> fun h => RepW.drop (L := H0) (R := [LoopP (w.heap.size + 1) c.N e0 ps assign body .exhausted pend]) (h.perm (List.perm_append_comm (l₁ := [_]) (l₂ := H0)))
      refine ⟨pend, { w3 with heap := w3.heap.setIfInBounds (w.heap.size + 1) (.loop { r3 with state := .exhausted }) }, ?_, ?_⟩
      · have : (r3.state == LoopState.busy) = false := by rw [n2]; exact m2
        simp only [Instr.endLoop, Sem.run_bind, run_getLoop n1, Result.andThen, this, Bool.false_eq_true, if_false, run_setLoop _ n1, Sem.run_pure, n3]
      · cases pend with
        | none => exact ⟨_, rep_heap hact H0, hw4, m3⟩
        | some j =>
          cases j with
          | ret => exact v_ret (K := K) (X := X) m3 _ _ (rep_heap hact H0) hw4
          | exit id => exact v_exit (K := K) (X := X) m3 _ _ (rep_heap hact H0) hw4
          | _ => exact m3.elim
    | panicked ch => exact ⟨_, hact, hw3, h4⟩
    | outgrown => exact h4.elim

/-! ### The end of a function with marks -/
def FinM (c : Cx) (rs : List ResultVar) (R : Ending → List Chunk → Prop) (s : S) : Prop :=
  ∃ ms H0, s.ds = marks ms ∧ Rem s.H (MarksP ms) H0 ∧ ∃ vs L Z, ResAll c ⟨s.env, s.ds, H0⟩ rs vs ∧ Split H0 L Z ∧ R (.returned (packV vs)) L
def FinXM (c : Cx) (rs : List ResultVar) (R : Ending → List Chunk → Prop) : Exit → S → Prop
  | .ret, s => FinM c rs R s
  | _, _ => False
instance {c : Cx} {rs : List ResultVar} {R : Ending → List Chunk → Prop} : PX (FinXM c rs R) := ⟨fun _ _ _ _ h => h.elim⟩
theorem m_ret {rs : List ResultVar} {R : Ending → List Chunk → Prop} (h : FinM c rs R s) : FinXM c rs R .ret s := h
theorem leavesM {P : Program} {N : Nat} {w0 : World} {A : Nat → Prop} {fn : Func} {ro : Option Nat} {a : Act} {env : Env} {ds0 : List Deferred} {H0 : List Chunk} {vs : List Value} {L Z L0 : List Chunk} {R : Ending → List Chunk → Prop} (hA : A = fun b => ∃ k ∈ L0, k.fp b)
    (hres : ResAll ⟨ro, P, N, w0, A⟩ ⟨env, ds0, H0⟩ fn.results.toList vs) (hsp : Split H0 L Z) (hR : R (.returned (packV vs)) L) (hat : ∀ i v, look env i = some v → a.tmps[i]? = some v) (hsz : a.tmps.size = N) :
    ∀ (ms : List Nat) (w : World) (H : List Chunk), RepW ⟨ro, P, N, w0, A⟩ w H → Rem H (MarksP ms) H0 →
      LeavesInM (fence none) 0 P fn a.tmps (fun e w' => ∃ L', R e L' ∧ Trans w0 L0 w' L') (marks ms) .returning w
  | [], w, H, hw, hr => by
    have hw0 : RepW ⟨ro, P, N, w0, A⟩ w H0 := RepW.drop (R := [MarksP []]) ((hw.perm hr.perm).perm (List.perm_append_comm (l₁ := [_]) (l₂ := H0)))
    have hrep : Rep ⟨ro, P, N, w0, A⟩ { a with defers := ds0 } ⟨env, ds0, H0⟩ := ⟨rfl, hsz, hat⟩
    refine ⟨packV vs, ?_, L, hR, ?_⟩
    · have h4 := results_run hrep hw0 _ _ hres
      rw [results_eq, Array.mapM_eq_mapM_toList]
      simp only [Sem.run_bind, Sem.run_map, h4, Result.andThen]
      cases vs with
      | nil => simp [packV]
      | cons u us =>
        cases us with
        | nil => simp [packV]
        | cons u' us => simp [packV]
    · subst hA
      exact trans_of_repW hw0 hsp
  | m :: ms, w, H, hw, hr => by
    have hh : MarksOk (m :: ms) w := (hw.hold (.one hr)).1 _ (List.mem_singleton.2 rfl)
    have hm : w.heap[m]? = some (.deferred (some [])) := hh.2 m (List.mem_cons_self ..)
    have hlt := (Array.getElem?_eq_some_iff.1 hm).1
    have hnd := List.nodup_cons.1 hh.1
    have hw' : RepW ⟨ro, P, N, w0, A⟩ { w with heap := w.heap.setIfInBounds m (.deferred none) } (MarksP ms :: H0) := by
      refine hw.exch (L' := [MarksP ms]) (.one hr) ⟨rfl, rfl, rfl, by simp, fun b hb hn => ?_, fun j hj => ?_, List.pairwise_singleton _ _, fun j hj b hb => ?_⟩
      · have : b ≠ m := fun e => hn _ (List.mem_singleton.2 rfl) (by subst e; exact List.mem_cons_self ..)
        simp [Ne.symm this]
      · cases List.mem_singleton.1 hj
        refine (⟨hnd.2, fun q hq => ?_⟩ : MarksOk ms _)
        have : q ≠ m := fun e => hnd.1 (e ▸ hq)
        simp [Ne.symm this, hh.2 q (List.mem_cons_of_mem _ hq)]
      · cases List.mem_singleton.1 hj
        exact .inl ⟨_, List.mem_singleton.2 rfl, List.mem_cons_of_mem _ hb⟩
    refine ⟨by simp, .inl ⟨m, { w with heap := w.heap.setIfInBounds m (.deferred none) }, rfl, ?_, leavesM hA hres hsp hR hat hsz ms _ _ hw' .here⟩⟩
    have hg : (getObj m).run P w = .ok (.deferred (some [])) w := by simp [getObj, Sem.run, hm]
    simp only [Instr.takeDeferred, Sem.run_bind, hg, Result.andThen, run_setDef _ hm, Sem.run_pure]
theorem tr_of_vM {P : Program} {f : FuncId} {fn : Func} {code : Code} {vs : List Value} {w : World} {L : List Chunk} {R : Ending → List Chunk → Prop} {N : Nat} {rs : List ResultVar}
    (hf : P.funcs[f]? = some fn) (hb : fn.body = some code) (hN : fn.ntmps = N) (hrs : fn.results.toList = rs) (hn : vs.length ≤ N) {ea : Env} (hea : argEnv 0 vs = ea)
    (h : V ⟨none, P, N, w, fun b => ∃ k ∈ L, k.fp b⟩ code (FinM ⟨none, P, N, w, fun b => ∃ k ∈ L, k.fp b⟩ rs R) (FinXM ⟨none, P, N, w, fun b => ∃ k ∈ L, k.fp b⟩ rs R) ⟨ea, [], MarksP [] :: L⟩) : Tr P f ⟨vs⟩ w L R := fun hL => by
  subst hea
  subst hN
  subst hrs
  refine calls_of_callsIn (ro := none) (n := 0) (callsIn_of_wp_marks hf hb trivial ?_)
  have hw : RepW ⟨none, P, fn.ntmps, w, fun b => ∃ k ∈ L, k.fp b⟩ w L := ⟨rfl, rfl, rfl, Nat.le_refl _, fun _ _ _ => rfl, hL.1, hL.2, fun k hk b hb => .inl ⟨k, hk, hb⟩⟩
  have hr : Rep ⟨none, P, fn.ntmps, w, fun b => ∃ k ∈ L, k.fp b⟩ { tmps := ⟨vs⟩ ++ Array.replicate (fn.ntmps - (⟨vs⟩ : Array Value).size) undef, defers := [] } ⟨argEnv 0 vs, [], MarksP [] :: L⟩ := by
    refine ⟨rfl, by simp; omega, fun i v hv => ?_⟩
    obtain ⟨_, h2⟩ := look_argEnv vs 0 i v hv
    have hi : i < vs.length := by
      rcases Nat.lt_or_ge i vs.length with hi | hi
      · exact hi
      · rw [List.getElem?_eq_none (by simpa using hi)] at h2; cases h2
    rw [Array.getElem?_append_left (by simpa using hi)]
    simpa using h2
  refine wpIn_mono (h _ w hr hw.marks_nil) fun e a w' ⟨s', h1, h2, h3⟩ => ?_
  have fin : FinM ⟨none, P, fn.ntmps, w, fun b => ∃ k ∈ L, k.fp b⟩ fn.results.toList R s' → LeavesInM (fence none) 0 P fn a.tmps (fun e w' => ∃ L', R e L' ∧ Trans w L w' L') a.defers .returning w' := by
    rintro ⟨ms, H0, m1, m2, us, L', Z, m3, m4, m5⟩
    rw [h1.ds, m1]
    exact leavesM rfl m3 m4 m5 h1.at_ h1.size ms w' _ h2 m2
  cases e with
  | normal => exact fin h3
  | ret => exact fin h3
  | panic ch => exact h3.elim
  | exit id => exact h3.elim
  | goto l => exact h3.elim
  | outgrown => exact h3.elim
/-! ### Values in a plain form: each list written out by its parts -/
inductive EvAll (e : Env) : List Operand → List Value → Prop
  | nil : EvAll e [] []
  | cons {x : Operand} {v : Value} {xs : List Operand} {vs : List Value} (h : ev e x = some v) (t : EvAll e xs vs) : EvAll e (x :: xs) (v :: vs)
theorem EvAll.mapM {e : Env} {xs : List Operand} {vs : List Value} (h : EvAll e xs vs) : xs.mapM (ev e) = some vs := by
  induction h with
  | nil => rfl
  | cons h _ ih => simp [List.mapM_cons, h, ih]
inductive EvPairs (e : Env) : List (Nat × Operand) → List (Nat × Value) → Prop
  | nil : EvPairs e [] []
  | cons {i : Nat} {x : Operand} {v : Value} {xs : List (Nat × Operand)} {vs : List (Nat × Value)} (h : ev e x = some v) (t : EvPairs e xs vs) : EvPairs e ((i, x) :: xs) ((i, v) :: vs)
theorem EvPairs.mapM {e : Env} {xs : List (Nat × Operand)} {vs : List (Nat × Value)} (h : EvPairs e xs vs) : xs.mapM (fun q => (ev e q.2).map fun v => (q.1, v)) = some vs := by
  induction h with
  | nil => rfl
  | cons h _ ih => simp [List.mapM_cons, h, ih]
/-- The i-th of a row. -/
inductive NthR : List Value → Nat → Value → Prop
  | here {v : Value} {r : List Value} : NthR (v :: r) 0 v
  | there {u v : Value} {r : List Value} {i : Nat} (h : NthR r i v) : NthR (u :: r) (i + 1) v
theorem NthR.get {l : List Value} {i : Nat} {v : Value} (h : NthR l i v) : l[i]? = some v := by
  induction h with
  | here => rfl
  | there _ ih => simpa using ih
/-- A value's cells. -/
inductive CellsR : Value → List Value → Nat → Prop
  | one {v : Value} (h : v.oneCell' = true) : CellsR v [v] 1
  | agg {us : List Value} {n : Nat} (h1 : us.length = n) (h2 : us.all Value.oneCell' = true) : CellsR (.agg ⟨us⟩) us n
theorem CellsR.cells {v : Value} {us : List Value} {n : Nat} (h : CellsR v us n) : v.cells.toList = us ∧ us.length = n ∧ us.all Value.oneCell' = true := by
  cases h with
  | one h => exact ⟨cells_one h, rfl, by simp [h]⟩
  | agg h1 h2 => exact ⟨rfl, h1, h2⟩
/-- Cells that are written over. -/
inductive SetR : List Value → Nat → List Value → List Value → Prop
  | nil {cs : List Value} : SetR cs 0 [] cs
  | put {c u : Value} {cs us r : List Value} (t : SetR cs 0 us r) : SetR (c :: cs) 0 (u :: us) (u :: r)
  | skip {c : Value} {o : Nat} {cs us r : List Value} (t : SetR cs o us r) : SetR (c :: cs) (o + 1) us (c :: r)
theorem SetR.wr {cs us r : List Value} {o : Nat} (h : SetR cs o us r) : wrL cs o us = r ∧ o + us.length ≤ cs.length := by
  have key : ∀ (us cs : List Value) (c : Value) (o : Nat), wrL (c :: cs) (o + 1) us = c :: wrL cs o us := by
    intro us
    induction us with
    | nil => intro cs c o; rfl
    | cons u us ih => intro cs c o; simp [wrL, ih]
  induction h with
  | nil => exact ⟨rfl, by simp⟩
  | @put c u cs us r _ ih => exact ⟨by simp [wrL, key, ih.1], by simp only [List.length_cons]; omega⟩
  | skip _ ih => exact ⟨by rw [key, ih.1], by simp only [List.length_cons]; omega⟩
/-- A struct out of its fields, in order. -/
inductive BuildR : List (Nat × Nat) → Nat → Nat → List Value → List (Nat × Value) → List Value → Prop
  | nil {i o : Nat} : BuildR [] i o [] [] []
  | put1 {i o : Nat} {pl : List (Nat × Nat)} {z v : Value} {zs r : List Value} {ps : List (Nat × Value)} (h : v.oneCell' = true) (t : BuildR pl (i + 1) (o + 1) zs ps r) : BuildR ((o, 1) :: pl) i o (z :: zs) ((i, v) :: ps) (v :: r)
  | putN {i o n : Nat} {pl : List (Nat × Nat)} {us zs r : List Value} {ps : List (Nat × Value)} (h1 : us.length = n) (h2 : us.all Value.oneCell' = true) (hn : n ≤ zs.length) (t : BuildR pl (i + 1) (o + n) (zs.drop n) ps r) : BuildR ((o, n) :: pl) i o zs ((i, .agg ⟨us⟩) :: ps) (us ++ r)
  | skip1 {i o : Nat} {pl : List (Nat × Nat)} {z : Value} {zs r : List Value} {ps : List (Nat × Value)} (t : BuildR pl (i + 1) (o + 1) zs ps r) : BuildR ((o, 1) :: pl) i o (z :: zs) ps (z :: r)
  | skipN {i o n : Nat} {pl : List (Nat × Nat)} {zs r : List Value} {ps : List (Nat × Value)} (hn : n ≤ zs.length) (t : BuildR pl (i + 1) (o + n) (zs.drop n) ps r) : BuildR ((o, n) :: pl) i o zs ps (zs.take n ++ r)
theorem BuildR.fill {plA : List (Nat × Nat)} {pl : List (Nat × Nat)} {i o : Nat} {zs r : List Value} {ps : List (Nat × Value)} (h : BuildR pl i o zs ps r) :
    ∀ pre : List Value, pre.length = o → (∀ k, plA[i + k]? = pl[k]?) → fillL (plA[·]?) (pre ++ zs) ps = some (pre ++ r) := by
  induction h with
  | nil => intro pre _ _; simp [fillL]
  | @put1 i o pl z v zs r ps h _ ih =>
    intro pre hp hk
    have h0 : plA[i]? = some (o, 1) := by simpa using hk 0
    have hc := cells_one h
    rw [fillL_cons (off := o) (sz := 1) h0 (by rw [hc]; rfl) (by simp; omega), hc, wrL_eq _ _ _ (by simp; omega)]
    have e : (pre ++ z :: zs).take o ++ [v] ++ (pre ++ z :: zs).drop (o + [v].length) = (pre ++ [v]) ++ zs := by
      subst hp
      simp
    rw [e, ih (pre ++ [v]) (by simp [hp]) (fun k => by have := hk (k + 1); simpa [Nat.add_assoc, Nat.add_comm 1] using this)]
    simp
  | @putN i o n pl us zs r ps h1 h2 hn _ ih =>
    intro pre hp hk
    have h0 : plA[i]? = some (o, n) := by simpa using hk 0
    rw [fillL_cons (v := .agg ⟨us⟩) (off := o) (sz := n) h0 h1 (by simp; omega), wrL_eq _ _ _ (by show o + us.length ≤ _; simp; omega)]
    have e : (pre ++ zs).take o ++ (Value.agg ⟨us⟩).cells.toList ++ (pre ++ zs).drop (o + (Value.agg ⟨us⟩).cells.toList.length) = (pre ++ us) ++ zs.drop n := by
      show (pre ++ zs).take o ++ us ++ (pre ++ zs).drop (o + us.length) = _
      subst hp h1
      simp [List.drop_append]
    rw [e, ih (pre ++ us) (by simp [hp, h1]) (fun k => by have := hk (k + 1); simpa [Nat.add_assoc, Nat.add_comm 1] using this)]
    simp
  | @skip1 i o pl z zs r ps _ ih =>
    intro pre hp hk
    have := ih (pre ++ [z]) (by simp [hp]) (fun k => by have := hk (k + 1); simpa [Nat.add_assoc, Nat.add_comm 1] using this)
    simpa using this
  | @skipN i o n pl zs r ps hn _ ih =>
    intro pre hp hk
    have := ih (pre ++ zs.take n) (by simp [hp]; omega) (fun k => by have := hk (k + 1); simpa [Nat.add_assoc, Nat.add_comm 1] using this)
    simpa [List.append_assoc] using this
section
variable {ty : TypeId} {x y : Operand} {T T2 : TypeId} {M : List (Addr × Value)} {pos : String}
theorem p_extractR {vs : List Value} {i : Nat} {v : Value} (hx : ev e0 x = some (.tuple ⟨vs⟩)) (hi : NthR vs i v) : PV c M (.extract x i) ty ⟨e0, dd, HH⟩ v := p_extract hx (by simpa using hi.get)
theorem p_buildR {ps : Array (Nat × Operand)} {pl : List (Nat × Nat)} {zs r : List Value} {vs : List (Nat × Value)} [hz : TZero c.P T zs] [hp : TPl c.P T pl]
    (hv : EvPairs e0 ps.toList vs) (hf : BuildR pl 0 0 zs vs r) : PV c M (.build T ps) ty ⟨e0, dd, HH⟩ (.agg ⟨r⟩) := p_build hv.mapM (by simpa using hf.fill (plA := pl) [] rfl (fun k => by simp))
end
section
variable {ops : Array Oper} {l : List Oper} {ty : TypeId} {pos : String} {af : Array Edge} {d : Nat}
theorem o_extractR {x : Operand} {vs : List Value} {i : Nat} {v : Value} (hx : ev e0 x = some (.tuple ⟨vs⟩)) (hi : NthR vs i v) (hd : Nat.blt d c.N = true) (h : VO c ops l K X ⟨(d, v) :: e0, dd, HH⟩) : VO c ops (⟨some d, .extract x i, ty, pos, af, none⟩ :: l) K X ⟨e0, dd, HH⟩ := o_pure rfl (p_extractR hx hi) hd h
theorem o_buildR {T : Nat} {ps : Array (Nat × Operand)} {pl : List (Nat × Nat)} {zs r : List Value} {vs : List (Nat × Value)} [hz : TZero c.P T zs] [hp : TPl c.P T pl]
    (hv : EvPairs e0 ps.toList vs) (hf : BuildR pl 0 0 zs vs r) (hd : Nat.blt d c.N = true)
    (h : VO c ops l K X ⟨(d, .agg ⟨r⟩) :: e0, dd, HH⟩) : VO c ops (⟨some d, .build T ps, ty, pos, af, none⟩ :: l) K X ⟨e0, dd, HH⟩ := o_pure rfl (p_buildR hv hf) hd h
theorem o_storeR {T b o : Nat} {x y : Operand} {v : Value} {cs us r : List Value} {T' : TypeId} {H' : List Chunk} (hx : ev e0 x = some (.pointer (some ⟨b, o, none⟩))) (hy : ev e0 y = some v)
    {n : Nat} [hT : TSz c.P T n] (hv : CellsR v us n) (hu : Upd HH b (.cells ⟨cs⟩ T' (0, 0)) (.cells ⟨r⟩ T' (0, 0)) H') (hs : SetR cs o us r)
    (h : VO c ops l K X ⟨e0, dd, H'⟩) : VO c ops (⟨none, .store T x y, ty, pos, af, none⟩ :: l) K X ⟨e0, dd, HH⟩ := by
  obtain ⟨h1, h2, h3⟩ := hv.cells
  obtain ⟨h4, h5⟩ := hs.wr
  refine o_store (T' := T') (H' := H') hx hy (by rw [h1]; exact h2.symm) ?_ (by rw [h1]; exact h5) (by rw [h1]; exact h3) h
  rw [h1, h4]
  exact hu
theorem o_boxR {T n : Nat} {x : Operand} {v : Value} {us : List Value} (hx : ev e0 x = some v) (hv : CellsR v us n) (hd : Nat.blt d c.N = true)
    (h : ∀ b, c.w0.heap.size ≤ b → VO c ops l K X ⟨(d, .pointer (some ⟨b, 0, none⟩)) :: e0, dd, Blk b (.cells ⟨us⟩ T (0, 0)) :: HH⟩) : VO c ops (⟨some d, .box T x, ty, pos, af, none⟩ :: l) K X ⟨e0, dd, HH⟩ :=
  o_box hx hd (by rw [hv.cells.1]; exact h)
/-- A call that returns one value, and turns the pieces L into L'. -/
theorem o_callR {fv : Operand} {as : Array Operand} {ats : Array TypeId} {f : FuncId} {fi ca vs us : List Value} {v : Value} {L L' R H1 : List Chunk}
    (hf : ev e0 fv = some (.func (.func f) ⟨fi⟩ ⟨ca⟩)) (ha : EvAll e0 as.toList vs) [he : TEnt c.P f] (hd : Nat.blt d c.N = true) (hu : fi ++ vs ++ ca = us)
    (hc : ∀ w, RepW c w HH → Tr c.P f ⟨us⟩ w L (fun r L1 => r = .returned v ∧ L1 = L')) (hs : Split HH L R) (hR : L' ++ R = H1)
    (h : VO c ops l K X ⟨(d, v) :: e0, dd, H1⟩) : VO c ops (⟨some d, .call { callee := .value fv, args := as, argTypes := ats }, ty, pos, af, none⟩ :: l) K X ⟨e0, dd, HH⟩ :=
  o_call1 hf ha.mapM hd hu hc hs hR h
theorem o_yieldR {fv : Operand} {as : Array Operand} {ats : Array TypeId} {l' : Nat} {vs : List Value} {L L' R H1 : List Chunk} {v : Value}
    (hf : ev e0 fv = some (.func (.yield l') #[] #[])) (ha : EvAll e0 as.toList vs) (hd : Nat.blt d c.N = true)
    (hc : ∀ w, RepW c w HH → YTr c.P l' ⟨vs⟩ w L (fun r L1 => r = v ∧ L1 = L')) (hs : Split HH L R) (hR : L' ++ R = H1)
    (h : VO c ops l K X ⟨(d, v) :: e0, dd, H1⟩) :
    VO c ops (⟨some d, .call { callee := .value fv, args := as, argTypes := ats }, ty, pos, af, none⟩ :: l) K X ⟨e0, dd, HH⟩ := o_yield1 hf ha.mapM hd hc hs hR h
theorem o_makeFuncR {fn : Fn} {fi ca : Array Operand} {vf vc : List Value} (hf : EvAll e0 fi.toList vf) (hc : EvAll e0 ca.toList vc) (hd : Nat.blt d c.N = true)
    (h : VO c ops l K X ⟨(d, .func fn ⟨vf⟩ ⟨vc⟩) :: e0, dd, HH⟩) : VO c ops (⟨some d, .makeFunc fn fi ca, ty, pos, af, none⟩ :: l) K X ⟨e0, dd, HH⟩ := o_makeFunc hf.mapM hc.mapM hd h
theorem p_makeFuncR {M : List (Addr × Value)} {fn : Fn} {fi ca : Array Operand} {vf vc : List Value} (hf : EvAll e0 fi.toList vf) (hc : EvAll e0 ca.toList vc) : PV c M (.makeFunc fn fi ca) ty ⟨e0, dd, HH⟩ (.func fn ⟨vf⟩ ⟨vc⟩) := p_makeFunc hf.mapM hc.mapM
end
end Eng
end Go.Proofs.YtnebonmppioooaaDoor
