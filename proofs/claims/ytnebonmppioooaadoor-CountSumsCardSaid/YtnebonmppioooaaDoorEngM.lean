/- The walk's own words, sixth part: maps from whole numbers. -/
import Derived.Test.YtnebonmppioooaaDoorEngX
import Derived.MapKept
set_option linter.unusedVariables false
set_option linter.unusedSimpArgs false
namespace Go.Proofs.YtnebonmppioooaaDoor
namespace Eng
open Go
variable {c : Cx} {K : S → Prop} {X : Exit → S → Prop} {e0 : Env} {dd : List Deferred} {HH : List Chunk}
def mapOf (P : Program) (T : TypeId) : Option (TypeId × TypeId) := match P.underlying T with
  | some (.map k e) => some (k, e)
  | _ => none
class TMap (P : Program) (T : TypeId) (k e : outParam TypeId) : Prop where
  h : mapOf P T = some (k, e)
theorem mapOf_some {P : Program} {T kt et : TypeId} (h : mapOf P T = some (kt, et)) : P.underlying T = some (.map kt et) := by
  unfold mapOf at h
  split at h
  · rename_i k e hu
    simp only [Option.some.injEq, Prod.mk.injEq] at h
    obtain ⟨rfl, rfl⟩ := h
    exact hu
  · cases h
def zeroV (P : Program) (T : TypeId) : Option Value := (P.info? T).bind (·.zero)
class TZeroV (P : Program) (T : TypeId) (v : outParam Value) : Prop where
  h : zeroV P T = some v
theorem run_zeroV {P : Program} {T : TypeId} {v : Value} (h : zeroV P T = some v) (w : World) : (zeroValue T).run P w = .ok v w := by
  unfold zeroV at h
  obtain ⟨i, h1, h2⟩ := Option.bind_eq_some_iff.1 h
  simp [zeroValue, typeInfo, h1, h2]
theorem run_getMap {P : Program} {w : World} {b : Nat} {es : Array MapEntry} {cl : Nat} (h : w.heap[b]? = some (.map es cl)) : (getObj b).run P w = .ok (.map es cl) w := by
  simp [getObj, Sem.run, h]
/-- Where a number is found among a map's keys. -/
inductive FindI (kk : IntKind) (a : Int) : List MapEntry → Nat → Option (Nat × Value) → Prop
  | nil {i : Nat} : FindI kk a [] i none
  | here {v : Value} {b i : Nat} {r : List MapEntry} : FindI kk a (⟨.int kk a, v, b⟩ :: r) i (some (i, v))
  | there {m : Int} {v : Value} {b i : Nat} {r : List MapEntry} {q : Option (Nat × Value)} (h : (a == m) = false) (t : FindI kk a r (i + 1) q) : FindI kk a (⟨.int kk m, v, b⟩ :: r) i q
theorem FindI.find {kk : IntKind} {a : Int} {l : List MapEntry} {i : Nat} {q : Option (Nat × Value)} (h : FindI kk a l i q) : Instr.findNow (.int kk) (.int kk a) l i = some q := by
  induction h with
  | nil => rfl
  | here => simp [Instr.findNow, Instr.sameNow]
  | there h _ ih => simp only [Instr.findNow, Instr.sameNow, h]; exact ih
inductive SnocR (e : MapEntry) : List MapEntry → List MapEntry → Prop
  | nil : SnocR e [] [e]
  | cons {u : MapEntry} {r r' : List MapEntry} (t : SnocR e r r') : SnocR e (u :: r) (u :: r')
theorem SnocR.eq {e : MapEntry} {l l' : List MapEntry} (h : SnocR e l l') : l' = l ++ [e] := by
  induction h with
  | nil => rfl
  | cons _ ih => simp [ih]
inductive DelR : List MapEntry → Option (Nat × Value) → List MapEntry → Prop
  | none {l : List MapEntry} : DelR l none l
  | here {u : MapEntry} {r : List MapEntry} {v : Value} : DelR (u :: r) (some (0, v)) r
  | there {u : MapEntry} {r r' : List MapEntry} {i : Nat} {v : Value} (t : DelR r (some (i, v)) r') : DelR (u :: r) (some (i + 1, v)) (u :: r')
def dropQ (l : List MapEntry) : Option (Nat × Value) → List MapEntry
  | some p => l.eraseIdx p.1
  | none => l
theorem DelR.eq {l l' : List MapEntry} {q : Option (Nat × Value)} (h : DelR l q l') : l' = dropQ l q := by
  induction h with
  | none => rfl
  | here => rfl
  | there _ ih => simp only [dropQ, List.eraseIdx_cons_succ] at ih ⊢; rw [ih]
theorem isKey_int {kk : IntKind} {a : Int} : MapKept.IsKey (.int kk) (.int kk a) := by simp [MapKept.IsKey]
theorem chkI {P : Program} {w : World} {kt : TypeId} {kk : IntKind} {a : Int} (h : kindOf P kt = some kk) (e : Bool) : (Instr.checkKey e 10000 kt (.int kk a)).run P w = .ok () w := MapKept.run_checkKey (kindOf_some h) isKey_int e 9999
section
variable {ops : Array Oper} {l : List Oper} {ty : TypeId} {pos : String} {af : Array Edge} {d : Nat} {x : Operand}
theorem o_makeMap {T : TypeId} (hd : Nat.blt d c.N = true)
    (h : ∀ b, c.w0.heap.size ≤ b → VO c ops l K X ⟨(d, .map (some b)) :: e0, dd, Blk b (.map ⟨[]⟩ 0) :: HH⟩) : VO c ops (⟨some d, .makeMap T none, ty, pos, af, none⟩ :: l) K X ⟨e0, dd, HH⟩ :=
  vo_gen (by simp) hd fun a w ha hw => by
    refine ⟨_, { w with heap := w.heap.push (.map #[] 0) }, _, ?_, hw.push (Blk w.heap.size (.map #[] 0)) rfl rfl rfl (by simp) (by show (w.heap.push _)[w.heap.size]? = _; exact Array.getElem?_push_size) (fun b hb => by cases hb; exact Nat.le_refl _) (fun i hi => heap_push_old w _ i hi), h _ hw.size⟩
    simp [execOp, Instr.makeMap, newObj]
    rfl
variable {T kt et b : Nat} {kk : IntKind} {y z : Operand} {a : Int} {es : List MapEntry} {cl i : Nat} {v : Value}
theorem o_lookup_yes [hT : TMap c.P T kt et] [hkd : TKind c.P kt kk] (hx : ev e0 x = some (.map (some b))) (hy : ev e0 y = some (.int kk a))
    (hh : Has HH b (.map ⟨es⟩ cl)) (hf : FindI kk a es 0 (some (i, v))) (hd : Nat.blt d c.N = true)
    (h : VO c ops l K X ⟨(d, .tuple ⟨[v, .bool true]⟩) :: e0, dd, HH⟩) : VO c ops (⟨some d, .lookup T x y true, ty, pos, af, none⟩ :: l) K X ⟨e0, dd, HH⟩ :=
  vo_val (by simp) hd (fun a w ha hw => by
    have hb := hh.blk hw
    simp [execOp, look_eval ha hx, look_eval ha hy, Instr.lookup, run_underlying (mapOf_some hT.h), run_getMap hb, chkI hkd.h, MapKept.run_findKey (kindOf_some hkd.h) hf.find]) h
theorem o_lookup_no [hT : TMap c.P T kt et] [hkd : TKind c.P kt kk] [hz : TZeroV c.P et v] (hx : ev e0 x = some (.map (some b))) (hy : ev e0 y = some (.int kk a))
    (hh : Has HH b (.map ⟨es⟩ cl)) (hf : FindI kk a es 0 none) (hd : Nat.blt d c.N = true)
    (h : VO c ops l K X ⟨(d, .tuple ⟨[v, .bool false]⟩) :: e0, dd, HH⟩) : VO c ops (⟨some d, .lookup T x y true, ty, pos, af, none⟩ :: l) K X ⟨e0, dd, HH⟩ :=
  vo_val (by simp) hd (fun a w ha hw => by
    have hb := hh.blk hw
    simp [execOp, look_eval ha hx, look_eval ha hy, Instr.lookup, run_underlying (mapOf_some hT.h), run_getMap hb, chkI hkd.h, MapKept.run_findKey (kindOf_some hkd.h) hf.find, run_zeroV hz.h]) h
theorem o_lookup1_yes [hT : TMap c.P T kt et] [hkd : TKind c.P kt kk] (hx : ev e0 x = some (.map (some b))) (hy : ev e0 y = some (.int kk a))
    (hh : Has HH b (.map ⟨es⟩ cl)) (hf : FindI kk a es 0 (some (i, v))) (hd : Nat.blt d c.N = true)
    (h : VO c ops l K X ⟨(d, v) :: e0, dd, HH⟩) : VO c ops (⟨some d, .lookup T x y false, ty, pos, af, none⟩ :: l) K X ⟨e0, dd, HH⟩ :=
  vo_val (by simp) hd (fun a w ha hw => by
    have hb := hh.blk hw
    simp [execOp, look_eval ha hx, look_eval ha hy, Instr.lookup, run_underlying (mapOf_some hT.h), run_getMap hb, chkI hkd.h, MapKept.run_findKey (kindOf_some hkd.h) hf.find]) h
theorem o_lookup1_no [hT : TMap c.P T kt et] [hkd : TKind c.P kt kk] [hz : TZeroV c.P et v] (hx : ev e0 x = some (.map (some b))) (hy : ev e0 y = some (.int kk a))
    (hh : Has HH b (.map ⟨es⟩ cl)) (hf : FindI kk a es 0 none) (hd : Nat.blt d c.N = true)
    (h : VO c ops l K X ⟨(d, v) :: e0, dd, HH⟩) : VO c ops (⟨some d, .lookup T x y false, ty, pos, af, none⟩ :: l) K X ⟨e0, dd, HH⟩ :=
  vo_val (by simp) hd (fun a w ha hw => by
    have hb := hh.blk hw
    simp [execOp, look_eval ha hx, look_eval ha hy, Instr.lookup, run_underlying (mapOf_some hT.h), run_getMap hb, chkI hkd.h, MapKept.run_findKey (kindOf_some hkd.h) hf.find, run_zeroV hz.h]) h
theorem o_delete {es' : List MapEntry} {q : Option (Nat × Value)} {H' : List Chunk} [hT : TMap c.P T kt et] [hkd : TKind c.P kt kk] (hx : ev e0 x = some (.map (some b))) (hy : ev e0 y = some (.int kk a))
    (hu : Upd HH b (.map ⟨es⟩ cl) (.map ⟨es'⟩ cl) H') (hf : FindI kk a es 0 q) (he : DelR es q es')
    (h : VO c ops l K X ⟨e0, dd, H'⟩) : VO c ops (⟨none, .call { callee := .builtin .delete, args := #[x, y], argTypes := #[T, kt] }, ty, pos, af, none⟩ :: l) K X ⟨e0, dd, HH⟩ :=
  vo_op (by simp) fun a' w ha hw => by
    have hb := hu.has.blk hw
    have hlt : b < w.heap.size := (Array.getElem?_eq_some_iff.1 hb).1
    have e1 : (Builtin.delete_ #[T, kt] ty #[.map (some b), .int kk a]).run c.P w = .ok (.tuple #[]) { w with heap := w.heap.setIfInBounds b (.map ⟨es'⟩ cl) } := by
      have e2 := he.eq
      cases q with
      | none =>
        simp only [dropQ] at e2
        subst e2
        simp [Builtin.delete_, run_underlying (mapOf_some hT.h), run_getMap hb, chkI hkd.h, MapKept.run_findKey (kindOf_some hkd.h) hf.find, MapKept.run_setObj_map _ hb]
      | some p =>
        simp only [dropQ] at e2
        subst e2
        have e3 : (⟨es⟩ : Array MapEntry).eraseIdxIfInBounds p.1 = ⟨es.eraseIdx p.1⟩ := by
          apply Array.ext'
          simp [Array.eraseIdxIfInBounds]
          split
          · rfl
          · rename_i hn
            rw [List.eraseIdx_of_length_le (by simpa using hn)]
        simp [Builtin.delete_, run_underlying (mapOf_some hT.h), run_getMap hb, chkI hkd.h, MapKept.run_findKey (kindOf_some hkd.h) hf.find, MapKept.run_setObj_map _ hb, e3]
    have hrun : (execOp a'.eval ⟨none, .call { callee := .builtin .delete, args := #[x, y], argTypes := #[T, kt] }, ty, pos, af, none⟩).run c.P w = .ok (.value (.tuple #[])) { w with heap := w.heap.setIfInBounds b (.map ⟨es'⟩ cl) } := by
      simp [execOp, resolve, look_eval ha hx, look_eval ha hy, invoke, builtin, e1]
    rw [hrun]
    exact h _ _ (rep_heap ha H') (hu.repW hw rfl rfl rfl (by simp) (by simp [hlt]) (fun j _ hj => by simp [Ne.symm hj]))
/-- A key that is new. -/
theorem o_mapUpdate {es' : List MapEntry} {H' : List Chunk} [hT : TMap c.P T kt et] [hkd : TKind c.P kt kk] (hx : ev e0 x = some (.map (some b))) (hy : ev e0 y = some (.int kk a)) (hz : ev e0 z = some v)
    (hu : Upd HH b (.map ⟨es⟩ cl) (.map ⟨es'⟩ (cl + 1)) H') (hf : FindI kk a es 0 none) (he : SnocR ⟨.int kk a, v, cl⟩ es es')
    (h : VO c ops l K X ⟨e0, dd, H'⟩) : VO c ops (⟨none, .mapUpdate T x y z, ty, pos, af, none⟩ :: l) K X ⟨e0, dd, HH⟩ :=
  vo_skip (by simp) fun a' w ha hw => by
    have hb := hu.has.blk hw
    have hlt : b < w.heap.size := (Array.getElem?_eq_some_iff.1 hb).1
    have e3 : (⟨es⟩ : Array MapEntry).push ⟨.int kk a, v, cl⟩ = ⟨es'⟩ := by rw [he.eq]; simp
    refine ⟨{ w with heap := w.heap.setIfInBounds b (.map ⟨es'⟩ (cl + 1)) }, H', ?_, hu.repW hw rfl rfl rfl (by simp) (by simp [hlt]) (fun j _ hj => by simp [Ne.symm hj]), h⟩
    rw [← e3]
    simp only [execOp, look_eval ha hx, look_eval ha hy, look_eval ha hz, Instr.mapUpdate, Sem.run_bind, run_underlying (mapOf_some hT.h), Result.andThen_ok, run_getMap hb, chkI hkd.h, MapKept.run_findKey (kindOf_some hkd.h) hf.find, MapKept.run_setObj_map _ hb, Sem.run_pure]
theorem o_len_map {t : TypeId} {n : Nat} [hT : TMap c.P t kt et] (hx : ev e0 x = some (.map (some b))) (hh : Has HH b (.map ⟨es⟩ cl)) (hn : es.length = n) (hd : Nat.blt d c.N = true)
    (h : VO c ops l K X ⟨(d, .int .i64 n) :: e0, dd, HH⟩) : VO c ops (⟨some d, .call { callee := .builtin .len, args := #[x], argTypes := #[t] }, ty, pos, af, none⟩ :: l) K X ⟨e0, dd, HH⟩ :=
  vo_val (by simp) hd (fun a w ha hw => by
    have hb := hh.blk hw
    subst hn
    simp [execOp, resolve, look_eval ha hx, invoke, builtin, Builtin.len_, run_underlying (mapOf_some hT.h), run_getMap hb, goInt]) h
end
/-! ### Rows -/
theorem v_own_nil {code : Code} (e size : Nat) (h : V c code K X ⟨e0, dd, .own e size (.slice none 0 0) 0 [] :: HH⟩) : V c code K X ⟨e0, dd, HH⟩ := fun a w ha hw =>
  h a w (rep_heap ha _) (hw.push (.own e size (.slice none 0 0) 0 []) rfl rfl rfl (Nat.le_refl _) (World.ownsRow_nil _ _ _ _) (fun b hb => by cases hb) (fun _ _ => rfl))
theorem vo_own_nil {ops : Array Oper} {l : List Oper} (e size : Nat) (h : VO c ops l K X ⟨e0, dd, .own e size (.slice none 0 0) 0 [] :: HH⟩) : VO c ops l K X ⟨e0, dd, HH⟩ := fun a w ha hw =>
  h a w (rep_heap ha _) (hw.push (.own e size (.slice none 0 0) 0 []) rfl rfl rfl (Nat.le_refl _) (World.ownsRow_nil _ _ _ _) (fun b hb => by cases hb) (fun _ _ => rfl))
/-- A row out of its elements, in order. -/
inductive RowR : Nat → Nat → List (Nat × Value) → List Value → Prop
  | nil {sz i : Nat} : RowR sz i [] []
  | cons1 {i : Nat} {v : Value} {ps : List (Nat × Value)} {r : List Value} (h : v.oneCell' = true) (t : RowR 1 (i + 1) ps r) : RowR 1 i ((i, v) :: ps) (v :: r)
  | consN {sz i : Nat} {us : List Value} {ps : List (Nat × Value)} {r : List Value} (h1 : us.length = sz) (h2 : us.all Value.oneCell' = true) (t : RowR sz (i + 1) ps r) : RowR sz i ((i, .agg ⟨us⟩) :: ps) (us ++ r)
theorem RowR.fill {sz i : Nat} {ps : List (Nat × Value)} {r : List Value} (h : RowR sz i ps r) : ∀ pre tail : List Value, pre.length = i * sz → tail.length = ps.length * sz → fillL (fun i => some (i * sz, sz)) (pre ++ tail) ps = some (pre ++ r) := by
  induction h with
  | nil =>
    intro pre tail _ ht
    have : tail = [] := List.eq_nil_of_length_eq_zero (by simpa using ht)
    subst this
    rfl
  | @cons1 i v ps r h _ ih =>
    intro pre tail hp ht
    have hc := cells_one h
    cases tail with
    | nil => simp at ht
    | cons z zs =>
      rw [fillL_cons (off := i * 1) (sz := 1) rfl (by rw [hc]; rfl) (by simp; omega), hc, wrL_eq _ _ _ (by simp; omega)]
      have e : (pre ++ z :: zs).take (i * 1) ++ [v] ++ (pre ++ z :: zs).drop (i * 1 + [v].length) = (pre ++ [v]) ++ zs := by
        rw [← hp]; simp
      rw [e, ih (pre ++ [v]) zs (by simp [hp]) (by simpa using ht)]
      simp
  | @consN sz i us ps r h1 h2 _ ih =>
    intro pre tail hp ht
    have ht' : tail.length = ps.length * sz + sz := by rw [ht, List.length_cons, Nat.add_mul, Nat.one_mul]
    rw [fillL_cons (v := .agg ⟨us⟩) (off := i * sz) (sz := sz) rfl h1 (by simp; omega), wrL_eq _ _ _ (by show i * sz + us.length ≤ _; simp; omega)]
    have e : (pre ++ tail).take (i * sz) ++ (Value.agg ⟨us⟩).cells.toList ++ (pre ++ tail).drop (i * sz + (Value.agg ⟨us⟩).cells.toList.length) = (pre ++ us) ++ tail.drop sz := by
      show (pre ++ tail).take (i * sz) ++ us ++ (pre ++ tail).drop (i * sz + us.length) = _
      rw [← hp, h1]
      simp [List.drop_append]
    rw [e, ih (pre ++ us) (tail.drop sz) (by simp [hp, h1, Nat.add_mul]) (by simp; omega)]
    simp
section
variable {ops : Array Oper} {l : List Oper} {ty : TypeId} {pos : String} {af : Array Edge} {d : Nat}
theorem o_buildSliceR {T e sz n : Nat} {zs r : List Value} {ps : Array (Nat × Operand)} {vs : List (Nat × Value)} [hT : TEl c.P T e] [hsz : TSz c.P e sz] [hz : TZero c.P e zs]
    (hv : EvPairs e0 ps.toList vs) (hf : RowR sz 0 vs r) (hzl : zs.length = sz) (hl : vs.length = n) (hn : n * sz ≤ 16777216) (h0 : 0 < n * sz) (hd : Nat.blt d c.N = true)
    (h : ∀ b, c.w0.heap.size ≤ b → VO c ops l K X ⟨(d, .slice (some ⟨b, 0, none⟩) n n) :: e0, dd, Blk b (.cells ⟨r⟩ e (0, 0)) :: HH⟩) : VO c ops (⟨some d, .buildSlice T n ps, ty, pos, af, none⟩ :: l) K X ⟨e0, dd, HH⟩ :=
  o_buildSlice hzl hn h0 hv.mapM (by
    have := hf.fill [] ((List.replicate n zs).flatten) (by simp) (by simp [hzl, hl])
    simpa using this) hd h
end
section
variable {ops : Array Oper} {l : List Oper} {ty : TypeId} {pos : String} {af : Array Edge} {d : Nat}
/-- A call whose answer is one of a family. -/
theorem o_callE {α : Type} {I : α → Prop} {v : α → Value} {L' : α → List Chunk} {fv : Operand} {as : Array Operand} {ats : Array TypeId} {f : FuncId} {fi ca vs us : List Value} {L R : List Chunk}
    (hf : ev e0 fv = some (.func (.func f) ⟨fi⟩ ⟨ca⟩)) (ha : EvAll e0 as.toList vs) [he : TEnt c.P f] (hd : Nat.blt d c.N = true) (hu : fi ++ vs ++ ca = us)
    (hc : ∀ w, RepW c w HH → Tr c.P f ⟨us⟩ w L (fun r L1 => ∃ z, I z ∧ r = .returned (v z) ∧ L1 = L' z)) (hs : Split HH L R)
    (h : ∀ z, I z → VO c ops l K X ⟨(d, v z) :: e0, dd, L' z ++ R⟩) : VO c ops (⟨some d, .call { callee := .value fv, args := as, argTypes := ats }, ty, pos, af, none⟩ :: l) K X ⟨e0, dd, HH⟩ :=
  o_callL (dst := some d) hf ha.mapM hd hu hs hc fun e L1 h1 => by
    obtain ⟨z, h2, rfl, rfl⟩ := h1
    exact h z h2
end
section
variable {ops : Array Oper} {l : List Oper} {ty : TypeId} {pos : String} {af : Array Edge} {d : Nat}
theorem o_loadC {T n : Nat} {x : Operand} {ad : Addr} {vs : List Value} (hx : ev e0 x = some (.pointer (some ad))) [hT : TLk c.P T (some n)] (hc : CellsAt c HH ad vs) (hn : vs.length = n) (hd : Nat.blt d c.N = true)
    (h : VO c ops l K X ⟨(d, .agg ⟨vs⟩) :: e0, dd, HH⟩) : VO c ops (⟨some d, .load T x, ty, pos, af, none⟩ :: l) K X ⟨e0, dd, HH⟩ := o_loadN hx hn hc hd h
end
/-! ### Truth values that are known by a proof -/
section
variable {ops : Array Oper} {l : List Oper} {op : Op} {ty : TypeId} {pos : String} {af : Array Edge} {d : Nat}
theorem vo_guard_eq {dst : Option Tmp} {j t : Nat} {want b : Bool} (hj : ((ops[j]?).bind (·.dst)) = some t) (hv : look e0 t = some (.bool b)) (hb : b = want)
    (h : VO c ops (⟨dst, op, ty, pos, af, none⟩ :: l) K X ⟨e0, dd, HH⟩) : VO c ops (⟨dst, op, ty, pos, af, some (j, want)⟩ :: l) K X ⟨e0, dd, HH⟩ := by
  subst hb; exact vo_guard_yes hj hv h
theorem o_pick_eq {x y z : Operand} {v : Value} {b : Bool} (hx : ev e0 x = some (.bool b)) (hb : b = true) (hy : ev e0 y = some v) (hd : Nat.blt d c.N = true) (h : VO c ops l K X ⟨(d, v) :: e0, dd, HH⟩) : VO c ops (⟨some d, .pick x y z, ty, pos, af, none⟩ :: l) K X ⟨e0, dd, HH⟩ := by
  subst hb; exact o_pick_yes hx hy hd h
theorem vd_true {M : List (Addr × Value)} {n : Nat} {listed : Array Bool} {t : Nat} {b : Bool} (ht : look e0 t = some (.bool b)) (hb : b = true) (h : VD c ops M K X n listed ⟨(t, .bool true) :: e0, dd, HH⟩) : VD c ops M K X n listed ⟨e0, dd, HH⟩ := by
  subst hb; exact vd_lit ht h
theorem v_cond_eq {x : Operand} {t e : Code} {b : Bool} (hc : ev e0 x = some (.bool b)) (hb : b = true) (ht : V c t K X ⟨e0, dd, HH⟩) : V c (.cond x t e) K X ⟨e0, dd, HH⟩ := by
  subst hb; exact v_cond_true hc ht
end
/-! ### New blocks, by the slot that they are named by -/
structure SlotIs (d : Nat) : Prop
theorem slotIs (d : Nat) : SlotIs d := ⟨⟩
section
variable {ops : Array Oper} {l : List Oper} {ty : TypeId} {pos : String} {af : Array Edge} {d : Nat}
theorem o_boxS {T n : Nat} {x : Operand} {v : Value} {us : List Value} (_ : SlotIs d) (hx : ev e0 x = some v) (hv : CellsR v us n) (hd : Nat.blt d c.N = true)
    (h : ∀ b, c.w0.heap.size ≤ b → VO c ops l K X ⟨(d, .pointer (some ⟨b, 0, none⟩)) :: e0, dd, Blk b (.cells ⟨us⟩ T (0, 0)) :: HH⟩) : VO c ops (⟨some d, .box T x, ty, pos, af, none⟩ :: l) K X ⟨e0, dd, HH⟩ := o_boxR hx hv hd h
theorem o_boxV {T : Nat} {x : Operand} {v : Value} (_ : SlotIs d) (hx : ev e0 x = some v) (hd : Nat.blt d c.N = true)
    (h : ∀ b, c.w0.heap.size ≤ b → VO c ops l K X ⟨(d, .pointer (some ⟨b, 0, none⟩)) :: e0, dd, Blk b (.cells ⟨v.cells.toList⟩ T (0, 0)) :: HH⟩) : VO c ops (⟨some d, .box T x, ty, pos, af, none⟩ :: l) K X ⟨e0, dd, HH⟩ := o_box hx hd h
theorem o_allocS {T : Nat} {zs : List Value} [hz : TZero c.P T zs] (_ : SlotIs d) (hd : Nat.blt d c.N = true)
    (h : ∀ b, c.w0.heap.size ≤ b → VO c ops l K X ⟨(d, .pointer (some ⟨b, 0, none⟩)) :: e0, dd, Blk b (.cells ⟨zs⟩ T (0, 0)) :: HH⟩) : VO c ops (⟨some d, .alloc T, ty, pos, af, none⟩ :: l) K X ⟨e0, dd, HH⟩ := o_alloc hd h
theorem o_makeMapS {T : TypeId} (_ : SlotIs d) (hd : Nat.blt d c.N = true)
    (h : ∀ b, c.w0.heap.size ≤ b → VO c ops l K X ⟨(d, .map (some b)) :: e0, dd, Blk b (.map ⟨[]⟩ 0) :: HH⟩) : VO c ops (⟨some d, .makeMap T none, ty, pos, af, none⟩ :: l) K X ⟨e0, dd, HH⟩ := o_makeMap hd h
theorem o_buildSliceS {T e sz n : Nat} {zs r : List Value} {ps : Array (Nat × Operand)} {vs : List (Nat × Value)} [hT : TEl c.P T e] [hsz : TSz c.P e sz] [hz : TZero c.P e zs] (_ : SlotIs d)
    (hv : EvPairs e0 ps.toList vs) (hf : RowR sz 0 vs r) (hzl : zs.length = sz) (hl : vs.length = n) (hn : n * sz ≤ 16777216) (h0 : 0 < n * sz) (hd : Nat.blt d c.N = true)
    (h : ∀ b, c.w0.heap.size ≤ b → VO c ops l K X ⟨(d, .slice (some ⟨b, 0, none⟩) n n) :: e0, dd, Blk b (.cells ⟨r⟩ e (0, 0)) :: HH⟩) : VO c ops (⟨some d, .buildSlice T n ps, ty, pos, af, none⟩ :: l) K X ⟨e0, dd, HH⟩ := o_buildSliceR hv hf hzl hl hn h0 hd h
theorem o_appendS {x y : Operand} {t e size bytes n m cc : Nat} {v : Value} {xs news : List Value} {ad : Addr} {R : List Chunk} [hT : TEl c.P t e] [hi : TRow c.P e size bytes] (_ : SlotIs d)
    (hx : ev e0 x = some v) (hr : Rem HH (.own e size v n xs) R) (hy : ev e0 y = some (.slice (some ad) m cc)) (hn : CellsAt c HH ad news) (hl : news.length = m * size) (h1 : news.all Value.oneCell' = true) (hm : 0 < m)
    (h63 : n + m ≤ 9223372036854775807) (hb : (n + m) * bytes ≤ 140737488355328) (hd : Nat.blt d c.N = true)
    (h : ∀ g cap, n + m ≤ cap → VO c ops l K X ⟨(d, .slice (some ⟨g, 0, none⟩) (n + m) cap) :: e0, dd, .own e size (.slice (some ⟨g, 0, none⟩) (n + m) cap) (n + m) (xs ++ news) :: R⟩) :
    VO c ops (⟨some d, .call { callee := .builtin .append, args := #[x, y], argTypes := #[t, t] }, ty, pos, af, none⟩ :: l) K X ⟨e0, dd, HH⟩ := o_append hx hr hy hn hl h1 hm h63 hb hd h
end
/-! ### Guarded loads of whole rows, in open order -/
section
variable {ops : Array Oper} {M : List (Addr × Value)} {n : Nat} {listed : Array Bool} {i d : Nat} {ty : TypeId} {pos : String} {af : Array Edge}
theorem vd_loadT_yes [PX X] {j t : Nat} {want : Bool} {T m : TypeId} {x : Operand} {ad : Addr} {g : Nat → Value} (hi : ops[i]? = some ⟨some d, .load T x, ty, pos, af, some (j, want)⟩) (hs : (Region.noSelect ops && noDefer ops && Region.free .any ops listed i && closedL ops listed && (Region.ready .any ops listed).contains i) = true)
    (hj : ((ops[j]?).bind (·.dst)) = some t) (hv : look e0 t = some (.bool want))
    [hT : TLk c.P T (some m)] (hx : ev e0 x = some (.pointer (some ad))) (hc : CellsAt c HH ad (tab m g)) (hd : Nat.blt d c.N = true)
    (h : VD c ops (memL ad 0 (tab m g) ++ M) K X n (listed.setIfInBounds i true) ⟨(d, .agg ⟨tab m g⟩) :: e0, dd, HH⟩) : VD c ops M K X (n + 1) listed ⟨e0, dd, HH⟩ := vd_loadN_yes hi hs hj hv hx (tab_length _ _) hc hd h
theorem vd_loadA_yes [PX X] {j t : Nat} {want : Bool} {T m b : TypeId} {x : Operand} {cs : List Value} {T' : TypeId} {fr : Nat × Nat} (hi : ops[i]? = some ⟨some d, .load T x, ty, pos, af, some (j, want)⟩) (hs : (Region.noSelect ops && noDefer ops && Region.free .any ops listed i && closedL ops listed && (Region.ready .any ops listed).contains i) = true)
    (hj : ((ops[j]?).bind (·.dst)) = some t) (hv : look e0 t = some (.bool want))
    [hT : TLk c.P T (some m)] (hx : ev e0 x = some (.pointer (some ⟨b, 0, none⟩))) (hc : Has HH b (.cells ⟨cs⟩ T' fr)) (hn : cs.length = m) (hd : Nat.blt d c.N = true)
    (h : VD c ops (memL ⟨b, 0, none⟩ 0 cs ++ M) K X n (listed.setIfInBounds i true) ⟨(d, .agg ⟨cs⟩) :: e0, dd, HH⟩) : VD c ops M K X (n + 1) listed ⟨e0, dd, HH⟩ := vd_loadN_yes hi hs hj hv hx hn (cells_all hc) hd h
end
end Eng
end Go.Proofs.YtnebonmppioooaaDoor
