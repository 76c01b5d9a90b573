/- The walk's own words, second part: texts, slices, loops, regions of open order. -/
import Derived.Test.YtnebonmppioooaaDoorEng
import Derived.Lib.Strings
set_option linter.unusedVariables false
set_option linter.unusedSimpArgs false
namespace Go.Proofs.YtnebonmppioooaaDoor
namespace Eng
open Go
variable {c : Cx} {K : S → Prop} {X : Exit → S → Prop} {s : S} {e0 : Env} {dd : List Deferred} {HH : List Chunk}

/-! ### Texts and slices -/
abbrev str (l : List UInt8) : Value := .string ⟨⟨l⟩⟩
theorem str_data (s : ByteArray) : Value.string s = str s.data.toList := rfl
def isStrT (P : Program) (T : TypeId) : Bool := match P.underlying T with | some .string => true | _ => false
theorem isStrT_some {P : Program} {T : TypeId} (h : isStrT P T = true) : P.underlying T = some .string := by
  unfold isStrT at h
  split at h
  · assumption
  · cases h
def elemT (P : Program) (T : TypeId) : Option TypeId := match P.underlying T with | some (.slice e) => some e | _ => none
theorem elemT_some {P : Program} {T e : TypeId} (h : elemT P T = some e) : P.underlying T = some (.slice e) := by
  unfold elemT at h
  split at h
  · cases h; assumption
  · cases h
class TStr (P : Program) (T : TypeId) : Prop where
  h : isStrT P T = true
class TEl (P : Program) (T : TypeId) (e : outParam TypeId) : Prop where
  h : elemT P T = some e
section
variable {ops : Array Oper} {l : List Oper} {ty : TypeId} {pos : String} {af : Array Edge} {d : Nat} {T T2 : TypeId} {x y : Operand} {k : IntKind} {a b r : Int}
theorem o_len_str {u : List UInt8} {t : TypeId} [hT : TStr c.P t] (hx : ev e0 x = some (str u)) (hd : Nat.blt d c.N = true)
    (h : VO c ops l K X ⟨(d, .int .i64 u.length) :: e0, dd, HH⟩) : VO c ops (⟨some d, .call { callee := .builtin .len, args := #[x], argTypes := #[t] }, ty, pos, af, none⟩ :: l) K X ⟨e0, dd, HH⟩ :=
  vo_val (by simp) hd (fun a w ha hw => by
    have hsz : (⟨⟨u⟩⟩ : ByteArray).size = u.length := rfl
    simp [execOp, resolve, look_eval ha hx, invoke, builtin, Builtin.len_, run_underlying (isStrT_some hT.h), goInt, hsz]) h
theorem o_len_slice {ad : Option Addr} {n cap : Nat} {t e : TypeId} [hT : TEl c.P t e] (hx : ev e0 x = some (.slice ad n cap)) (hd : Nat.blt d c.N = true)
    (h : VO c ops l K X ⟨(d, .int .i64 n) :: e0, dd, HH⟩) : VO c ops (⟨some d, .call { callee := .builtin .len, args := #[x], argTypes := #[t] }, ty, pos, af, none⟩ :: l) K X ⟨e0, dd, HH⟩ :=
  vo_val (by simp) hd (fun a w ha hw => by
    simp [execOp, resolve, look_eval ha hx, invoke, builtin, Builtin.len_, run_underlying (elemT_some hT.h), goInt]) h
theorem o_concat {u v : List UInt8} (hx : ev e0 x = some (str u)) (hy : ev e0 y = some (str v)) (hl : u.length + v.length ≤ 9223372036854775807) (hd : Nat.blt d c.N = true)
    (h : VO c ops l K X ⟨(d, str (u ++ v)) :: e0, dd, HH⟩) : VO c ops (⟨some d, .binOp .add T x y T2, ty, pos, af, none⟩ :: l) K X ⟨e0, dd, HH⟩ :=
  vo_val (by simp) hd (fun a w ha hw => by
    have h1 : ¬ ((((⟨⟨u⟩⟩ : ByteArray).size + (⟨⟨v⟩⟩ : ByteArray).size : Nat) : Int) > IntKind.i64.max) := by
      have : IntKind.i64.max = 9223372036854775807 := by decide
      rw [this]
      simp [ByteArray.size]
      omega
    have h2 : (⟨⟨u⟩⟩ : ByteArray) ++ ⟨⟨v⟩⟩ = ⟨⟨u ++ v⟩⟩ := by
      apply ByteArray.ext
      apply Array.ext'
      simp
    have h3 : (eqGuard .add T x y (str u) (str v)).run c.P w = .ok () w := rfl
    simp only [execOp, look_eval ha hx, look_eval ha hy, Sem.run_bind, h3, Result.andThen, binOp, Op.stringOp, h1, if_false, h2]
    rfl) h
theorem bytes_toList (u : List UInt8) : (⟨⟨u⟩⟩ : ByteArray).toList = u := ByteArray.toList_mk u
theorem o_eql_str {u v : List UInt8} (hx : ev e0 x = some (str u)) (hy : ev e0 y = some (str v)) (hd : Nat.blt d c.N = true)
    (h : VO c ops l K X ⟨(d, .bool (decide (u = v))) :: e0, dd, HH⟩) : VO c ops (⟨some d, .binOp .eql T x y T2, ty, pos, af, none⟩ :: l) K X ⟨e0, dd, HH⟩ :=
  vo_val (by simp) hd (fun a w ha hw => by
    have h3 : (eqGuard .eql T x y (str u) (str v)).run c.P w = .ok () w := rfl
    have h4 : (u == v) = decide (u = v) := by rw [Bool.eq_iff_iff]; simp
    simp only [execOp, look_eval ha hx, look_eval ha hy, Sem.run_bind, h3, Result.andThen, binOp, Op.stringOp, bytes_toList, h4]
    rfl) h
theorem o_neq_str {u v : List UInt8} (hx : ev e0 x = some (str u)) (hy : ev e0 y = some (str v)) (hd : Nat.blt d c.N = true)
    (h : VO c ops l K X ⟨(d, .bool (decide (u ≠ v))) :: e0, dd, HH⟩) : VO c ops (⟨some d, .binOp .neq T x y T2, ty, pos, af, none⟩ :: l) K X ⟨e0, dd, HH⟩ :=
  vo_val (by simp) hd (fun a w ha hw => by
    have h3 : (eqGuard .neq T x y (str u) (str v)).run c.P w = .ok () w := rfl
    have h4 : (!(u == v)) = decide (u ≠ v) := by rw [Bool.eq_iff_iff]; simp
    simp only [execOp, look_eval ha hx, look_eval ha hy, Sem.run_bind, h3, Result.andThen, binOp, Op.stringOp, bytes_toList, h4]
    rfl) h
theorem o_index_str {u : List UInt8} {i : Int} {b : UInt8} [hT : TStr c.P T] (hx : ev e0 x = some (str u)) (hy : ev e0 y = some (.int k i)) (h0 : 0 ≤ i) (hb : u[i.toNat]? = some b) (hd : Nat.blt d c.N = true)
    (h : VO c ops l K X ⟨(d, .int .u8 b.toNat) :: e0, dd, HH⟩) : VO c ops (⟨some d, .index T x y, ty, pos, af, none⟩ :: l) K X ⟨e0, dd, HH⟩ :=
  vo_val (by simp) hd (fun a w ha hw => by
    have h1 : (⟨⟨u⟩⟩ : ByteArray)[i.toNat]? = some b := by
      obtain ⟨hl, hv⟩ := List.getElem?_eq_some_iff.1 hb
      rw [getElem?_pos (⟨⟨u⟩⟩ : ByteArray) i.toNat (by simpa [ByteArray.size] using hl)]
      exact congrArg some hv
    simp [execOp, look_eval ha hx, look_eval ha hy, Instr.index, asIntOf, run_underlying (isStrT_some hT.h), h0, h1]) h
theorem o_slice_str {u : List UInt8} {lo hi : Int} {x1 x2 : Operand} {k1 k2 : IntKind} [hT : TStr c.P T] (hx : ev e0 x = some (str u)) (h1 : ev e0 x1 = some (.int k1 lo)) (h2 : ev e0 x2 = some (.int k2 hi))
    (h0 : 0 ≤ lo) (hlh : lo ≤ hi) (hh : hi ≤ u.length) (hd : Nat.blt d c.N = true)
    (h : VO c ops l K X ⟨(d, str ((u.take hi.toNat).drop lo.toNat)) :: e0, dd, HH⟩) : VO c ops (⟨some d, .slice T x (some x1) (some x2) none, ty, pos, af, none⟩ :: l) K X ⟨e0, dd, HH⟩ :=
  vo_val (by simp) hd (fun a w ha hw => by
    have e : (⟨⟨u⟩⟩ : ByteArray).extract lo.toNat hi.toNat = ⟨⟨(u.take hi.toNat).drop lo.toNat⟩⟩ := by
      rw [Lib.extract_eq, List.drop_take]
    have e1 : (0 ≤ hi ∧ hi ≤ (((⟨⟨u⟩⟩ : ByteArray).size : Nat) : Int)) := ⟨by omega, by simpa [ByteArray.size] using hh⟩
    have e2 : (0 ≤ lo ∧ lo ≤ ((hi.toNat : Nat) : Int)) := ⟨h0, by omega⟩
    simp only [execOp, look_eval ha hx, Option.map_some, Option.map_none, look_eval ha h1, look_eval ha h2, Instr.sliceAt, Sem.run_bind, run_underlying (isStrT_some hT.h), Result.andThen, Instr.slice, Option.isSome_none, Bool.false_eq_true, if_false, Instr.sliceBounds, Instr.sliceBound, asIntOf, Sem.run_pure, e1, e2, if_true, and_self, e]) h
theorem o_slice_str_from {u : List UInt8} {lo : Int} {x1 : Operand} {k1 : IntKind} [hT : TStr c.P T] (hx : ev e0 x = some (str u)) (h1 : ev e0 x1 = some (.int k1 lo))
    (h0 : 0 ≤ lo) (hh : lo ≤ u.length) (hd : Nat.blt d c.N = true)
    (h : VO c ops l K X ⟨(d, str (u.drop lo.toNat)) :: e0, dd, HH⟩) : VO c ops (⟨some d, .slice T x (some x1) none none, ty, pos, af, none⟩ :: l) K X ⟨e0, dd, HH⟩ :=
  vo_val (by simp) hd (fun a w ha hw => by
    have e : (⟨⟨u⟩⟩ : ByteArray).extract lo.toNat (⟨⟨u⟩⟩ : ByteArray).size = ⟨⟨u.drop lo.toNat⟩⟩ := by
      rw [Lib.extract_eq, List.take_of_length_le (by simp [ByteArray.size])]
    have e2 : (0 ≤ lo ∧ lo ≤ (((⟨⟨u⟩⟩ : ByteArray).size : Nat) : Int)) := ⟨h0, by simpa [ByteArray.size] using hh⟩
    simp only [execOp, look_eval ha hx, Option.map_some, Option.map_none, look_eval ha h1, Instr.sliceAt, Sem.run_bind, run_underlying (isStrT_some hT.h), Result.andThen, Instr.slice, Option.isSome_none, Bool.false_eq_true, if_false, Instr.sliceBounds, Instr.sliceBound, asIntOf, Sem.run_pure, e2, if_true, and_self, e]) h
theorem o_slice_str_to {u : List UInt8} {hi : Int} {x2 : Operand} {k2 : IntKind} [hT : TStr c.P T] (hx : ev e0 x = some (str u)) (h2 : ev e0 x2 = some (.int k2 hi))
    (h0 : 0 ≤ hi) (hh : hi ≤ u.length) (hd : Nat.blt d c.N = true)
    (h : VO c ops l K X ⟨(d, str (u.take hi.toNat)) :: e0, dd, HH⟩) : VO c ops (⟨some d, .slice T x none (some x2) none, ty, pos, af, none⟩ :: l) K X ⟨e0, dd, HH⟩ :=
  vo_val (by simp) hd (fun a w ha hw => by
    have e : (⟨⟨u⟩⟩ : ByteArray).extract 0 hi.toNat = ⟨⟨u.take hi.toNat⟩⟩ := by
      rw [Lib.extract_eq]; simp
    have e1 : (0 ≤ hi ∧ hi ≤ (((⟨⟨u⟩⟩ : ByteArray).size : Nat) : Int)) := ⟨by omega, by simpa [ByteArray.size] using hh⟩
    simp only [execOp, look_eval ha hx, Option.map_some, Option.map_none, look_eval ha h2, Instr.sliceAt, Sem.run_bind, run_underlying (isStrT_some hT.h), Result.andThen, Instr.slice, Option.isSome_none, Bool.false_eq_true, if_false, Instr.sliceBounds, Instr.sliceBound, asIntOf, Sem.run_pure, e1, if_true, and_self, e]) h
theorem o_indexAddr {ad : Addr} {n cap sz : Nat} {i : Int} [hT : TElSz c.P T sz] (hx : ev e0 x = some (.slice (some ad) n cap)) (hy : ev e0 y = some (.int k i)) (h0 : 0 ≤ i) (h1 : i < n) (hd : Nat.blt d c.N = true)
    (h : VO c ops l K X ⟨(d, .pointer (some (ad.add (i.toNat * sz)))) :: e0, dd, HH⟩) : VO c ops (⟨some d, .indexAddr T x y, ty, pos, af, none⟩ :: l) K X ⟨e0, dd, HH⟩ :=
  vo_val (by simp) hd (fun a w ha hw => by
    have hT' := hT.h
    unfold elemSz at hT'
    split at hT' <;> try cases hT'
    rename_i e hu
    obtain ⟨i', hi, hsz⟩ := szOf_some hT'
    simp [execOp, look_eval ha hx, look_eval ha hy, Instr.indexAt, asIntOf, run_underlying hu, h0, h1, sizeOf, typeInfo, hi, hsz]) h
/-- An index in a row that begins a block. -/
theorem o_indexAddr_blk {b0 n cap sz : Nat} {i : Int} [hT : TElSz c.P T sz] (hx : ev e0 x = some (.slice (some ⟨b0, 0, none⟩) n cap)) (hy : ev e0 y = some (.int k i)) (h0 : 0 ≤ i) (h1 : i < n) (hd : Nat.blt d c.N = true)
    (h : VO c ops l K X ⟨(d, .pointer (some ⟨b0, i.toNat * sz, none⟩)) :: e0, dd, HH⟩) : VO c ops (⟨some d, .indexAddr T x y, ty, pos, af, none⟩ :: l) K X ⟨e0, dd, HH⟩ :=
  o_indexAddr hx hy h0 h1 hd (by rw [add_off, Nat.zero_add]; exact h)
/-- A row of its own is made. -/
theorem o_buildSlice {e sz : Nat} {zs r : List Value} {n : Nat} {ps : Array (Nat × Operand)} {vs : List (Nat × Value)} [hT : TEl c.P T e] [hsz : TSz c.P e sz] [hz : TZero c.P e zs] (hzl : zs.length = sz) (hn : n * sz ≤ 16777216) (h0 : 0 < n * sz)
    (hv : ps.toList.mapM (fun q => (ev e0 q.2).map fun v => (q.1, v)) = some vs) (hf : fillL (fun i => some (i * sz, sz)) ((List.replicate n zs).flatten) vs = some r) (hd : Nat.blt d c.N = true)
    (h : ∀ b, c.w0.heap.size ≤ b → VO c ops l K X ⟨(d, .slice (some ⟨b, 0, none⟩) n n) :: e0, dd, Blk b (.cells ⟨r⟩ e (0, 0)) :: HH⟩) : VO c ops (⟨some d, .buildSlice T n ps, ty, pos, af, none⟩ :: l) K X ⟨e0, dd, HH⟩ :=
  vo_gen (by simp) hd fun a w ha hw => by
    obtain ⟨i, z, h1, h2, h3⟩ := zeroL_some hz.h
    obtain ⟨i', h1', hs'⟩ := szOf_some hsz.h
    rw [h1] at h1'
    cases h1'
    have hzc : z.cells = ⟨zs⟩ := by rw [← h3]
    refine ⟨_, { w with heap := w.heap.push (.cells ⟨r⟩ e) }, _, ?_, hw.push (Blk w.heap.size (.cells ⟨r⟩ e (0, 0))) rfl rfl rfl (by simp) (by show (w.heap.push _)[w.heap.size]? = _; exact Array.getElem?_push_size) (fun b hb => by cases hb; exact Nat.le_refl _) (fun i hi => heap_push_old w _ i hi), h _ hw.size⟩
    have hzero : (Array.range (n * sz)).map (fun j => zs.toArray[j % zs.toArray.size]!) = ⟨(List.replicate n zs).flatten⟩ := by
      apply Array.ext'
      simp only [Array.toList_map, Array.toList_range, List.size_toArray]
      apply List.ext_getElem?
      intro j
      have hp : 0 < sz := Nat.pos_of_ne_zero fun e => by rw [e] at h0; simp at h0
      have hlen : ((List.replicate n zs).flatten).length = n * sz := by simp [hzl]
      by_cases hj : j < n * sz
      · have hm : j % sz < zs.length := by rw [hzl]; exact Nat.mod_lt _ hp
        rw [List.getElem?_map, List.getElem?_range hj, Option.map_some, hzl]
        have key : ∀ (n j : Nat), j < n * sz → ((List.replicate n zs).flatten)[j]? = zs[j % sz]? := by
          intro n
          induction n with
          | zero => intro j hj; omega
          | succ n ih =>
            intro j hj
            rw [List.replicate_succ, List.flatten_cons]
            by_cases hjs : j < sz
            · rw [List.getElem?_append_left (by omega), Nat.mod_eq_of_lt hjs]
            · have hj' : j - sz < n * sz := by rw [Nat.add_mul, Nat.one_mul] at hj; omega
              rw [List.getElem?_append_right (by omega), hzl, ih (j - sz) hj']
              exact congrArg (zs[·]?) (Nat.mod_eq_sub_mod (by omega)).symm
        rw [key n j hj]
        simp [hm]
      · rw [List.getElem?_eq_none (by simp; omega), List.getElem?_eq_none (by omega)]
    have hfill := fill_eq (fun i => some (i * sz, sz)) vs _ _ hf
    have hrun : (Instr.buildSlice T n (ps.map fun (p : Nat × Operand) => (p.1, a.eval p.2))).run c.P w = .ok (.slice (some ⟨w.heap.size, 0, none⟩) n n) { w with heap := w.heap.push (.cells ⟨r⟩ e) } := by
      have hp := parts_eval ha _ _ hv
      have hle : ¬ n * sz > 2 ^ 24 := by omega
      have hne : ¬ n * sz = 0 := by omega
      have hpar : (ps.map fun (p : Nat × Operand) => (p.1, a.eval p.2)).toList = vs := by rw [Array.toList_map]; exact hp
      simp only [Instr.buildSlice, Sem.run_bind, run_underlying (elemT_some hT.h), Result.andThen, sizeOf, typeInfo, run_program, h1, Sem.run_pure, hs', hle, if_false, hne, zeroValue, h2, hzc, hpar]
      have hz2 : Array.map (fun x => (⟨zs⟩ : Array Value)[x % (⟨zs⟩ : Array Value).size]!) (Array.range (n * sz)) = ⟨(List.replicate n zs).flatten⟩ := hzero
      rw [hz2, hfill]
      rfl
    simp only [execOp, Sem.run_bind, hrun, Result.andThen]
    rfl
end

/-! ### append to a row of one's own -/
theorem append_own {P : Program} {w : World} (t ty e : TypeId) (i : TypeInfo) (z : Value) (size bytes : Nat) (ht : P.underlying t = some (.slice e)) (hi : P.info? e = some i) (hz : i.zero = some z)
    (hsize : i.size = size) (hby : i.bytes = bytes) (hzs : z.cells.size = size) (hsz : 0 < size)
    (v : Value) (n : Nat) (xs : List Value) (hown : w.ownsRow 0 e size v n xs)
    (a : Addr) (m c : Nat) (news : List Value) (hl : news.length = m * size) (hnews : ∀ j u, news[j]? = some u → w.cell? (a.add j) = some u) (h1 : ∀ u ∈ news, u.oneCell' = true)
    (h63 : n + m ≤ maxLen) (hbytes : (n + m) * bytes ≤ 140737488355328) :
    ∃ v' w', (Builtin.append_ #[t, t] ty #[v, .slice (some a) m c]).run P w = .ok v' w' ∧ w'.ownsRow 0 e size v' (n + m) (xs ++ news) ∧ w.grownBy w' v.ownBlock ∧
      (v' = .slice none 0 0 ↔ v = .slice none 0 0 ∧ m = 0) ∧ ∀ g, v'.ownBlock = some g → v.ownBlock = some g ∨ w.heap.size ≤ g := by
  rcases hown.2 with ⟨rfl, rfl⟩ | ⟨g, cap, cur, rfl, hbg, hg, hnc, hcm, hcs, htake⟩
  · have hx : xs = [] := List.eq_nil_of_length_eq_zero (by simpa using hown.1)
    subst hx
    obtain ⟨v', w', h2, h3, h4, h5⟩ := run_append_own (P := P) w w.heap.size t ty e i z size bytes ht hi hz hsize hby hzs hsz _ 0 [] (World.ownsRow_nil _ _ _ _) a m c news hl hnews h1 h63 hbytes (Nat.le_refl _)
    refine ⟨v', w', h2, ?_, h4, h5, fun g hg => .inr (h3.lt g hg).1⟩
    obtain ⟨h6, h7⟩ := h3
    exact ⟨h6, h7.imp id fun ⟨g, cap, cur, e1, _, e3⟩ => ⟨g, cap, cur, e1, Nat.zero_le _, e3⟩⟩
  · obtain ⟨v', w', h2, h3, h4, h5⟩ := run_append_own (P := P) w 0 t ty e i z size bytes ht hi hz hsize hby hzs hsz _ n xs hown a m c news hl hnews h1 h63 hbytes (Nat.zero_le _)
    refine ⟨v', w', h2, h3, h4, h5, ?_⟩
    subst hsize
    by_cases hroom : n + m ≤ cap
    · have hfit : n * i.size + news.length ≤ cur.size := by rw [hl, hcs, ← Nat.add_mul]; exact Nat.mul_le_mul_right _ hroom
      have hr := run_append_room (P := P) w t ty e i ht hi g n cap cur hg a m c news hl hnews h1 hroom hfit
      rw [h2] at hr
      injection hr with e1 e2
      subst e1
      exact fun g' hg' => .inl hg'
    · have holds : ∀ j u, xs[j]? = some u → w.cell? ((⟨g, 0, none⟩ : Addr).add j) = some u := hown.cells (g := g) rfl
      have hr := run_append_grow (P := P) w t ty e i z ht hi hz ⟨g, 0, none⟩ n cap xs hown.1 holds a m c news hl hnews (by omega) (by simp only [maxLen] at h63; omega) (by rw [hby]; exact growslice_fits (by omega) hbytes)
      rw [h2] at hr
      injection hr with e1 e2
      subst e1
      intro g' hg'
      right
      simp only [Value.ownBlock, Option.some.injEq] at hg'
      omega
/-- What a row's elements are: cells, bytes. -/
def rowInfo (P : Program) (e : TypeId) : Option (Nat × Nat) :=
  match P.info? e with
  | some i => match i.zero with
    | some z => if z.cells.size = i.size ∧ 0 < i.size then some (i.size, i.bytes) else none
    | none => none
  | none => none
theorem rowInfo_some {P : Program} {e size bytes : Nat} (h : rowInfo P e = some (size, bytes)) : ∃ i z, P.info? e = some i ∧ i.zero = some z ∧ i.size = size ∧ i.bytes = bytes ∧ z.cells.size = size ∧ 0 < size := by
  unfold rowInfo at h
  split at h <;> try cases h
  rename_i i hi
  split at h <;> try cases h
  rename_i z hz
  split at h <;> cases h
  rename_i hh
  exact ⟨i, z, hi, hz, rfl, rfl, hh.1, hh.2⟩
class TRow (P : Program) (e : TypeId) (size bytes : outParam Nat) : Prop where
  h : rowInfo P e = some (size, bytes)
section
variable {ops : Array Oper} {l : List Oper} {ty : TypeId} {pos : String} {af : Array Edge} {d : Nat} {x y : Operand}
theorem o_append {t e size bytes n m cc : Nat} {v : Value} {xs news : List Value} {ad : Addr} {R : List Chunk} [hT : TEl c.P t e] [hi : TRow c.P e size bytes]
    (hx : ev e0 x = some v) (hr : Rem HH (.own e size v n xs) R) (hy : ev e0 y = some (.slice (some ad) m cc)) (hn : CellsAt c HH ad news) (hl : news.length = m * size) (h1 : news.all Value.oneCell' = true) (hm : 0 < m)
    (h63 : n + m ≤ 9223372036854775807) (hb : (n + m) * bytes ≤ 140737488355328) (hd : Nat.blt d c.N = true)
    (h : ∀ g cap, n + m ≤ cap → VO c ops l K X ⟨(d, .slice (some ⟨g, 0, none⟩) (n + m) cap) :: e0, dd, .own e size (.slice (some ⟨g, 0, none⟩) (n + m) cap) (n + m) (xs ++ news) :: R⟩) :
    VO c ops (⟨some d, .call { callee := .builtin .append, args := #[x, y], argTypes := #[t, t] }, ty, pos, af, none⟩ :: l) K X ⟨e0, dd, HH⟩ :=
  vo_gen (by simp) hd fun a w ha hw => by
    obtain ⟨i, z, hi1, hi2, hi3, hi4, hi5, hi6⟩ := rowInfo_some hi.h
    have hs : Split HH [.own e size v n xs] R := .cons hr .nil
    have hown : w.ownsRow 0 e size v n xs := (hw.hold hs).1 _ (List.mem_singleton.2 rfl)
    obtain ⟨v', w', h2, h3, h4, h5, h6⟩ := append_own (P := c.P) t ty e i z size bytes (elemT_some hT.h) hi1 hi2 hi3 hi4 hi5 hi6 v n xs hown ad m cc news hl (fun j u hj => hn j u hj w hw) (fun u hu => List.all_eq_true.1 h1 u hu) (by simp only [maxLen]; omega) hb
    have hv' : ∃ g cap, v' = .slice (some ⟨g, 0, none⟩) (n + m) cap ∧ n + m ≤ cap := by
      rcases h3.2 with ⟨_, h0⟩ | ⟨g, cap, cur, e1, _, _, e2, _⟩
      · omega
      · exact ⟨g, cap, e1, e2⟩
    obtain ⟨g, cap, rfl, hcap⟩ := hv'
    refine ⟨_, w', _, ?_, hw.exch (L' := [.own e size (.slice (some ⟨g, 0, none⟩) (n + m) cap) (n + m) (xs ++ news)]) hs ⟨h4.os, h4.tape, h4.output, h4.size, fun b hb hk => ?_, fun k hk => ?_, List.pairwise_singleton _ _, fun k hk b hb => ?_⟩, h g cap hcap⟩
    · simp [execOp, resolve, look_eval ha hx, look_eval ha hy, invoke, builtin, h2]
    · exact h4.block b hb fun e => hk _ (List.mem_singleton.2 rfl) e.symm
    · cases List.mem_singleton.1 hk; exact h3
    · cases List.mem_singleton.1 hk
      rcases h6 b hb with h | h
      · exact .inl ⟨_, List.mem_singleton.2 rfl, h⟩
      · exact .inr h
end
/-- A cell of a row that is owned. -/
theorem cell_own {H R : List Chunk} {e size n g cap o : Nat} {xs : List Value} {v : Value} (hr : Rem H (.own e size (.slice (some ⟨g, 0, none⟩) n cap) n xs) R) (hv : xs[o]? = some v) : CellAt c H ⟨g, o, none⟩ v := fun w hw => by
  have hown : w.ownsRow 0 e size (.slice (some ⟨g, 0, none⟩) n cap) n xs := (hw.hold (.cons hr .nil)).1 _ (List.mem_singleton.2 rfl)
  have ho : o < n * size := by
    have h1 := hown.1
    have := (List.getElem?_eq_some_iff.1 hv).1
    omega
  rw [hown.cellAt o ho, hv]

/-! ### A state that knows less; loops -/
def envSub (e : Env) : Env → Prop
  | [] => True
  | (k, v) :: r => look e k = some v ∧ envSub e r
theorem envSub_look {e : Env} : ∀ {t : Env}, envSub e t → ∀ i v, look t i = some v → look e i = some v
  | [], _, _, _, h => by cases h
  | (k, u) :: r, hs, i, v, h => by
    simp only [look] at h
    cases hb : Nat.beq k i with
    | true =>
      rw [hb] at h
      have := Nat.eq_of_beq_eq_true hb
      simp only [cond_true, Option.some.injEq] at h
      rw [← h, ← this]
      exact hs.1
    | false =>
      rw [hb] at h
      exact envSub_look hs.2 i v h
structure Ent (s t : S) : Prop where
  env : envSub s.env t.env
  ds : s.ds = t.ds
  H : ∃ R, Split s.H t.H R
theorem Ent.rep {t : S} (h : Ent s t) {a : Act} {w : World} (ha : Rep c a s) (hw : RepW c w s.H) : Rep c a t ∧ RepW c w t.H := by
  obtain ⟨h1, h2, R, h3⟩ := h
  exact ⟨rep_env ha (envSub_look h1) h2, (hw.perm h3.perm).drop⟩
theorem v_ent {t : S} {code : Code} (h : Ent s t) (hv : V c code K X t) : V c code K X s := fun a w ha hw => hv a w (h.rep ha hw).1 (h.rep ha hw).2
theorem vo_ent {t : S} {ops : Array Oper} {l : List Oper} (h : Ent s t) (hv : VO c ops l K X t) : VO c ops l K X s := fun a w ha hw => hv a w (h.rep ha hw).1 (h.rep ha hw).2
theorem v_loop_st {code : Code} {α : Type} (St : α → S) (I : α → Prop) (μ : α → Nat) (x0 : α) (hI : I x0) (h0 : Ent s (St x0))
    (h : ∀ x, I x → V c code (fun s' => ∃ y, I y ∧ Ent s' (St y) ∧ μ y < μ x) X (St x)) : V c (.loop code) K X s :=
  v_loop (fun x s => I x ∧ Ent s (St x)) μ (a0 := x0) ⟨hI, h0⟩ fun x s ⟨hi, he⟩ => v_ent he (v_mono (fun s' ⟨y, h1, h2, h3⟩ => ⟨y, ⟨h1, h2⟩, h3⟩) (fun _ _ h => h) (h x hi))
/-- A cut where ways meet: from here on the state is one of St's. -/
theorem v_cut {x y : Code} {α : Type} (St : α → S) (I : α → Prop) (h : V c x (fun s' => ∃ z, I z ∧ Ent s' (St z)) X s) (h' : ∀ z, I z → V c y K X (St z)) : V c (.seq x y) K X s :=
  v_seq_cut _ h fun s' ⟨z, h1, h2⟩ => v_ent h2 (h' z h1)

/-- Each way of a test that is known by a name alone. -/
theorem vo_split {ops : Array Oper} {l : List Oper} {t : Nat} {b : Bool} (ht : look e0 t = some (.bool b)) (h1 : b = true → VO c ops l K X ⟨(t, .bool true) :: e0, dd, HH⟩) (h2 : b = false → VO c ops l K X ⟨(t, .bool false) :: e0, dd, HH⟩) : VO c ops l K X ⟨e0, dd, HH⟩ := by
  have key : ∀ b', b = b' → VO c ops l K X ⟨(t, .bool b') :: e0, dd, HH⟩ → VO c ops l K X ⟨e0, dd, HH⟩ := fun b' hb h a w ha hw =>
    h a w (rep_env ha (fun i v hv => by
      simp only [look] at hv
      cases e : Nat.beq t i with
      | true =>
        rw [e] at hv
        have := Nat.eq_of_beq_eq_true e
        subst this
        simp only [cond_true, Option.some.injEq] at hv
        rw [← hv, ← hb]
        exact ht
      | false => rw [e] at hv; exact hv) rfl) hw
  cases b with
  | true => exact key true rfl (h1 rfl)
  | false => exact key false rfl (h2 rfl)

theorem f_ret {rs : List ResultVar} {R : Ending → List Chunk → Prop} (h : Fin c rs R s) : FinX c rs R .ret s := h
theorem f_panic {rs : List ResultVar} {R : Ending → List Chunk → Prop} {ch : List PanicEntry} (h : s.ds = [] ∧ ∃ L Z, Split s.H L Z ∧ R (.panicked ch) L) : FinX c rs R (.panic ch) s := h
theorem o_min {ops : Array Oper} {l : List Oper} {ty : TypeId} {pos : String} {af : Array Edge} {d : Nat} {x y : Operand} {k : IntKind} {a b : Int} {ats : Array TypeId} (hx : ev e0 x = some (.int k a)) (hy : ev e0 y = some (.int k b)) (hd : Nat.blt d c.N = true)
    (h : VO c ops l K X ⟨(d, .int k (min a b)) :: e0, dd, HH⟩) : VO c ops (⟨some d, .call { callee := .builtin .min, args := #[x, y], argTypes := ats }, ty, pos, af, none⟩ :: l) K X ⟨e0, dd, HH⟩ :=
  vo_val (by simp) hd (fun w' w ha hw => by
    have e : (if b < a then b else a) = min a b := by split <;> omega
    simp [execOp, resolve, look_eval ha hx, look_eval ha hy, invoke, builtin, Builtin.min_, Builtin.min2, e]) h
theorem o_max {ops : Array Oper} {l : List Oper} {ty : TypeId} {pos : String} {af : Array Edge} {d : Nat} {x y : Operand} {k : IntKind} {a b : Int} {ats : Array TypeId} (hx : ev e0 x = some (.int k a)) (hy : ev e0 y = some (.int k b)) (hd : Nat.blt d c.N = true)
    (h : VO c ops l K X ⟨(d, .int k (max a b)) :: e0, dd, HH⟩) : VO c ops (⟨some d, .call { callee := .builtin .max, args := #[x, y], argTypes := ats }, ty, pos, af, none⟩ :: l) K X ⟨e0, dd, HH⟩ :=
  vo_val (by simp) hd (fun w' w ha hw => by
    have e : (if a < b then b else a) = max a b := by split <;> omega
    simp [execOp, resolve, look_eval ha hx, look_eval ha hy, invoke, builtin, Builtin.max_, Builtin.max2, e]) h
end Eng
end Go.Proofs.YtnebonmppioooaaDoor
