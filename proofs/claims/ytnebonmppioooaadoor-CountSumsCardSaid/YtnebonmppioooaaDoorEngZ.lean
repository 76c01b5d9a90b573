/- The walk's own words, last part: what the reading of the arguments says of their cells; from a walk to a row. -/
import Derived.Test.YtnebonmppioooaaDoorEngX
import Derived.ProofKit
import Derived.LaidMore
import Derived.OpenShut
import Derived.Carry
import Derived.ChangeSame
import Derived.OpenVars
import Derived.Deep.Slices
import Derived.Stop.Joined
set_option linter.unusedVariables false
set_option linter.unusedSimpArgs false
namespace Go.Proofs.YtnebonmppioooaaDoor
namespace Eng
open Go Go.ChangeShapes Go.WideShapes Go.RowKit

/-! ### Types without pointers -/
inductive Lf where
  | b
  | i (k : IntKind)
  | s
def Lf.ok : Lf → Value → Prop
  | .b, v => ∃ b, v = .bool b
  | .i k, v => ∃ n, v = .int k n ∧ (Lit.int k n).wf = true
  | .s, v => ∃ s : ByteArray, v = .string s ∧ s.size ≤ maxLen
def lfFs (P : Program) (g : TypeId → Option (List Lf)) : Nat → List Field → Option (List Lf)
  | _, [] => some []
  | o, f :: fs => if f.offset != o then none else
    match g f.type with
    | some m => if P.cellsOf f.type = m.length then (lfFs P g (o + m.length) fs).map (m ++ ·) else none
    | none => none
def lfK (P : Program) : Nat → TypeId → Option (List Lf)
  | 0, _ => none
  | d + 1, t => match P.underlying t with
    | some .bool => some [.b]
    | some .string => some [.s]
    | some (.int k) => some [.i k]
    | some (.struct fs) => match lfFs P (lfK P d) 0 fs.toList with
      | some ks => if P.cellsOf t = ks.length then some ks else none
      | none => none
    | some (.array n e) => match lfK P d e with
      | some m => if P.cellsOf e = m.length && P.cellsOf t = n * m.length then some (List.replicate n m).flatten else none
      | none => none
    | _ => none
section
variable {H : Type} {enc : TypeId × Value → H} {P : Program} {w : World} {base : Nat} {spare : Nat → Bool} {held : Bool}
/-- What a reading says of a row of cells. -/
def Reads (enc : TypeId × Value → H) (P : Program) (w : World) (base : Nat) (spare : Nat → Bool) (held : Bool) (t : TypeId) (ls : List Lf) : Prop :=
  ∀ fuel cs x, DataW.trod enc P w base spare held fuel t cs = some x → cs.length = ls.length ∧ ∀ (j : Nat) l, ls[j]? = some l → ∃ v, cs[j]? = some v ∧ l.ok v
theorem seg_get {cs : List Value} {o n j : Nat} {v : Value} (h : ((cs.drop o).take n)[j]? = some v) : cs[o + j]? = some v := by
  rw [List.getElem?_take] at h
  split at h
  · rw [List.getElem?_drop] at h; exact h
  · cases h
theorem reads_fs {g : TypeId → Option (List Lf)} (hg : ∀ t ls, g t = some ls → Reads enc P w base spare held t ls) {n : Nat} {cs : List Value} :
    ∀ (fs : List Field) (o : Nat) (ks : List Lf), lfFs P g o fs = some ks → (∀ f ∈ fs, ∃ x, DataW.trod enc P w base spare held n f.type ((cs.drop f.offset).take (P.cellsOf f.type)) = some x) → ∀ (j : Nat) l, ks[j]? = some l → ∃ v, cs[o + j]? = some v ∧ l.ok v
  | [], o, ks, h, _, j, l, hl => by
    simp only [lfFs, Option.some.injEq] at h
    subst h
    simp at hl
  | f :: fs, o, ks, h, hf, j, l, hl => by
    simp only [lfFs] at h
    split at h
    · cases h
    · rename_i ho
      simp only [bne_iff_ne, ne_eq, Decidable.not_not] at ho
      split at h
      · rename_i m hm
        split at h
        · rename_i hc
          obtain ⟨ks', hk, rfl⟩ := Option.map_eq_some_iff.1 h
          by_cases hj : j < m.length
          · rw [List.getElem?_append_left hj] at hl
            obtain ⟨x, hx⟩ := hf f (List.mem_cons_self ..)
            obtain ⟨v, h1, h2⟩ := (hg _ _ hm n _ x hx).2 j l hl
            exact ⟨v, by rw [← ho]; exact seg_get h1, h2⟩
          · rw [List.getElem?_append_right (by omega)] at hl
            obtain ⟨v, h1, h2⟩ := reads_fs hg fs (o + m.length) ks' hk (fun f' hf' => hf f' (List.mem_cons_of_mem _ hf')) (j - m.length) l hl
            exact ⟨v, by rw [show o + j = o + m.length + (j - m.length) by omega]; exact h1, h2⟩
        · cases h
      · cases h
theorem reads_arr {e : TypeId} {m : List Lf} (hg : Reads enc P w base spare held e m) {n : Nat} {cs : List Value} :
    ∀ (k i0 : Nat), (∀ i, i < k → ∃ x, DataW.trod enc P w base spare held n e ((cs.drop ((i0 + i) * m.length)).take m.length) = some x) → ∀ (j : Nat) l, ((List.replicate k m).flatten)[j]? = some l → ∃ v, cs[i0 * m.length + j]? = some v ∧ l.ok v
  | 0, _, _, j, l, hl => by simp at hl
  | k + 1, i0, h, j, l, hl => by
    rw [List.replicate_succ, List.flatten_cons] at hl
    by_cases hj : j < m.length
    · rw [List.getElem?_append_left hj] at hl
      obtain ⟨x, hx⟩ := h 0 (by omega)
      obtain ⟨v, h1, h2⟩ := (hg n _ x hx).2 j l hl
      exact ⟨v, by have := seg_get h1; simpa using this, h2⟩
    · rw [List.getElem?_append_right (by omega)] at hl
      obtain ⟨v, h1, h2⟩ := reads_arr hg k (i0 + 1) (fun i hi => by obtain ⟨x, hx⟩ := h (i + 1) (by omega); exact ⟨x, by rw [show i0 + 1 + i = i0 + (i + 1) by omega]; exact hx⟩) (j - m.length) l hl
      exact ⟨v, by rw [show i0 * m.length + j = (i0 + 1) * m.length + (j - m.length) by rw [Nat.add_mul, Nat.one_mul]; omega]; exact h1, h2⟩
theorem reads_leaf : ∀ (d : Nat) (t : TypeId) (ls : List Lf), lfK P d t = some ls → Reads enc P w base spare held t ls
  | 0, t, ls, h => by cases h
  | d + 1, t, ls, h => by
    have ih := reads_leaf (d := d)
    intro fuel cs x hx
    simp only [lfK] at h
    split at h
    · rename_i hu
      cases h
      obtain ⟨b, rfl, _⟩ := DataW.trod_bool hu hx
      refine ⟨rfl, fun j l hl => ?_⟩
      cases j with
      | zero => cases hl; exact ⟨_, rfl, b, rfl⟩
      | succ j => simp at hl
    · rename_i hu
      cases h
      obtain ⟨s, rfl, _, hs⟩ := DataW.trod_string hu hx
      refine ⟨rfl, fun j l hl => ?_⟩
      cases j with
      | zero => cases hl; exact ⟨_, rfl, s, rfl, hs⟩
      | succ j => simp at hl
    · rename_i k hu
      cases h
      obtain ⟨n, rfl, _, hn⟩ := DataW.trod_int hu hx
      refine ⟨rfl, fun j l hl => ?_⟩
      cases j with
      | zero => cases hl; exact ⟨_, rfl, n, rfl, hn⟩
      | succ j => simp at hl
    · rename_i fs hu
      split at h
      · rename_i ks hk
        split at h
        · rename_i hc
          cases h
          obtain ⟨xs, n, _, _, hl, hsz, hf⟩ := DataW.trod_struct hu hx
          refine ⟨hl.trans hc, fun j l hj => ?_⟩
          have := reads_fs (cs := cs) ih fs.toList 0 ls hk (fun f hfm => by
            obtain ⟨i, hi⟩ := List.mem_iff_getElem?.1 hfm
            have h1 := hf i f (by simpa using hi)
            have hlt : i < xs.length := by rw [hsz]; have := (List.getElem?_eq_some_iff.1 hi).1; simpa using this
            exact ⟨xs[i], by rw [h1]; simp [hlt]⟩) j l hj
          simpa using this
        · cases h
      · cases h
    · rename_i n e hu
      split at h
      · rename_i m hm
        split at h
        · rename_i hc
          simp only [Bool.and_eq_true, decide_eq_true_eq] at hc
          cases h
          obtain ⟨xs, k, _, _, hl, hsz, hf⟩ := DataW.trod_array hu hx
          refine ⟨by rw [hl, hc.2]; simp, fun j l hj => ?_⟩
          have := reads_arr (cs := cs) (ih e m hm) n 0 (fun i hi => by
            have h1 := hf i hi
            rw [hc.1] at h1
            have hlt : i < xs.length := by omega
            exact ⟨xs[i], by rw [Nat.zero_add, h1]; simp [hlt]⟩) j l hj
          simpa using this
        · cases h
      · cases h
    · cases h
/-- A row of such that came in. -/
theorem reads_slice {t e : TypeId} {ls : List Lf} (ht : P.underlying t = some (.slice e)) (he : lfK P 8 e = some ls) (hc : P.cellsOf e = ls.length) (h0 : 0 < ls.length) {fuel : Nat} {cs : List Value} {x : DataW H × List MemPlace} (h : DataW.trod enc P w base spare held fuel t cs = some x) :
    ∃ (ad : Option Addr) (n cap : Nat), cs = [.slice ad n cap] ∧ (ad = none → n = 0 ∧ cap = 0) ∧ n ≤ cap ∧ cap ≤ maxLen ∧ ∀ i, i < n → ∃ bl ol, ad = some ⟨bl, ol, none⟩ ∧ ∀ i, i < n → ∀ (j : Nat) l, ls[j]? = some l → ∃ v, w.cell? ⟨bl, ol + i * ls.length + j, none⟩ = some v ∧ l.ok v := by
  rcases DataW.trod_slice ht h with ⟨rfl, _⟩ | ⟨a, len, cap, elems, rest, n, _, rfl, _, _, hlc, hcm, hlen, hel, _⟩
  · exact ⟨none, 0, 0, rfl, fun _ => ⟨rfl, rfl⟩, Nat.le_refl _, Nat.zero_le _, fun i hi => by omega⟩
  · refine ⟨some a, len, cap, rfl, fun h => (by cases h), hlc, hcm, fun i0 hi0 => ?_⟩
    have key : ∀ i, i < len → ∃ cs', w.cells? base (a.add (i * ls.length)) ls.length = some cs' ∧ ∀ (j : Nat) l, ls[j]? = some l → ∃ v, cs'[j]? = some v ∧ l.ok v := fun i hi => by
      have h1 := hel i hi
      rw [hc] at h1
      have hlt : i < elems.length := by omega
      rw [show elems[i]? = some elems[i] by simp [hlt]] at h1
      obtain ⟨cs', h2, h3⟩ := Option.bind_eq_some_iff.1 h1
      exact ⟨cs', h2, (reads_leaf 8 e ls he n cs' _ h3).2⟩
    obtain ⟨cs0, h1, h2⟩ := key 0 (by omega)
    obtain ⟨l0, hl0⟩ : ∃ l, ls[0]? = some l := ⟨ls[0], by simp [h0]⟩
    obtain ⟨v0, hv0, _⟩ := h2 0 l0 hl0
    have hc0 := (World.cells?_some h1).2.2 0 h0
    rw [hv0] at hc0
    have hsp : a.spot = none := by
      have := World.cell?_spot hc0
      simpa [Addr.add] using this
    obtain ⟨bl, ol, sp⟩ := a
    simp only at hsp
    subst hsp
    refine ⟨bl, ol, rfl, fun i hi j l hl => ?_⟩
    obtain ⟨cs', h3, h4⟩ := key i hi
    obtain ⟨v, h5, h6⟩ := h4 j l hl
    have hj : j < ls.length := (List.getElem?_eq_some_iff.1 hl).1
    have h7 := (World.cells?_some h3).2.2 j hj
    rw [h5, add_off, add_off] at h7
    exact ⟨v, h7, h6⟩
/-! ### Behind the call -/
theorem Below.trodAll (hl : laidOutB P = true) {W W' : World} (hb : Below W.heap.size W W') : ∀ (ts : List TypeId) (vs : List Value) (ds : List (DataW H)) (ps : List MemPlace), (ts.all fun t => P.readableRec t && decide (t < P.types.size)) = true →
    DataW.TrodAll enc P W 0 (fun _ => true) true ts vs ds ps → (∀ x ∈ ps, x.block < W.heap.size) → DataW.TrodAll enc P W' 0 (fun b => decide (b < W.heap.size)) true ts vs ds ps
  | [], vs, ds, ps, _, h, _ => by
    obtain ⟨rfl, rfl, rfl⟩ := trodAll_nil h
    exact rfl
  | t :: ts, vs, ds, ps, hr, h, hlt => by
    obtain ⟨v, vs', d, ds', p, q, rfl, rfl, rfl, h1, h2⟩ := trodAll_cons h
    simp only [List.all_cons, Bool.and_eq_true, decide_eq_true_eq] at hr
    exact trodAll_cons_mk (Below.trod hl hr.1.1 hr.1.2 h1 hb (fun x hx => hlt x (List.mem_append_left _ hx))) (Below.trodAll hl hb ts vs' ds' q hr.2 h2 (fun x hx => hlt x (List.mem_append_right _ hx)))
theorem below_of_trans {W W' : World} {L : List Chunk} (h : Trans W [] W' L) : Below W.heap.size W W' :=
  ⟨h.os, h.tape, h.output, h.size, fun k hk => h.old k hk fun j hj => by cases hj⟩
end
end Eng
end Go.Proofs.YtnebonmppioooaaDoor
