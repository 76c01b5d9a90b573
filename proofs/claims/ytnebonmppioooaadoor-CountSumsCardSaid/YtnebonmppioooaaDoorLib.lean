/- The library's functions, as contracts of the walk. -/
import Derived.Test.YtnebonmppioooaaDoorSums
import Derived.Test.YtnebonmppioooaaDoorShelf
namespace Go.Proofs.YtnebonmppioooaaDoor
open Go Go.RowKit Go.Sort Eng
theorem trans_below {w w' : World} (h : Below w.heap.size w w') : Trans w [] w' [] :=
  ⟨h.os, h.tape, h.output, h.size, fun b hb _ => h.block b hb, fun k hk => (by cases hk), .nil, fun k hk => (by cases hk)⟩
def TabOk (w : World) : Prop := Lib.TabIs Tryd.prog w "internal/strconv.uint64pow10" .u64 Lib.pow10Tab
theorem itoa_tr (n : Int) (h : -9223372036854775808 ≤ n ∧ n ≤ 9223372036854775807) (w : World) (ht : TabOk w) : Tr Tryd.prog 34 ⟨[.int .i64 n]⟩ w [] (fun r L => r = .returned (str (Lib.itoa n)) ∧ L = []) := fun _ =>
  (Tryd.strconv_Itoa n h.1 h.2 w ht).mono fun e w' ⟨he, k, os, hw⟩ => ⟨[], ⟨he, rfl⟩, trans_below (by
    subst hw
    exact ⟨rfl, rfl, rfl, by simp [grow], fun k hk => by simp [grow, Array.getElem?_append_left hk]⟩)⟩
theorem join_tr (bk o c : Nat) (xs : List (List UInt8)) (sep : List UInt8) (w : World) (hc : ∀ j x, xs[j]? = some x → w.cell? ⟨bk, o + j, none⟩ = some (str x)) (hbk : bk < w.heap.size) (hN : xs.length ≤ c) (hlen : (Lib.join xs sep).length ≤ 140737488355328) (hx : xs.length ≤ 1000) :
    Tr Tryd.prog 73 ⟨[.slice (some ⟨bk, o, none⟩) xs.length c, str sep]⟩ w [] (fun r L => r = .returned (str (Lib.join xs sep)) ∧ L = []) := fun _ => by
  have e : (xs.map fun x => (⟨⟨x⟩⟩ : ByteArray)).map (·.data.toList) = xs := by
    rw [List.map_map]
    exact (List.map_congr_left (fun x _ => rfl)).trans (List.map_id xs)
  have h := Tryd.strings_Join bk o c (xs.map fun x => (⟨⟨x⟩⟩ : ByteArray)) ⟨⟨sep⟩⟩ w (fun j x hj => by
    rw [List.getElem?_map] at hj
    obtain ⟨y, hy, rfl⟩ := Option.map_eq_some_iff.1 hj
    exact hc j y hy) hbk (by simp; omega) (by simpa using hN) (by rw [e]; exact hlen)
  rw [e, List.length_map] at h
  exact h.mono fun e w' ⟨he, hb⟩ => ⟨[], ⟨he, rfl⟩, trans_below hb⟩
theorem join_tr' (bk n : Nat) (f : Nat → List UInt8) (sep : List UInt8) (w : World) (hc : ∀ j, j < n → w.cell? ⟨bk, 0 + j, none⟩ = some (str (f j))) (hbk : bk < w.heap.size) (hlen : (Lib.join ((List.range n).map f) sep).length ≤ 140737488355328) (hx : n ≤ 1000) :
    Tr Tryd.prog 73 ⟨[.slice (some ⟨bk, 0, none⟩) n n, str sep]⟩ w [] (fun r L => r = .returned (str (Lib.join ((List.range n).map f) sep)) ∧ L = []) := by
  have hl : ((List.range n).map f).length = n := by simp
  have h := join_tr bk 0 n ((List.range n).map f) sep w (fun j x hj => by
    have hjn : j < n := by have := (List.getElem?_eq_some_iff.1 hj).1; omega
    rw [List.getElem?_map, List.getElem?_range hjn] at hj
    cases hj
    exact hc j hjn) hbk (by omega) hlen (by omega)
  rw [hl] at h
  exact h
theorem tab_of_rep {c : Cx} {w : World} {H : List Chunk} (hw : RepW c w H) (ht : TabOk c.w0) (hA : ∀ g, Tryd.prog.globalNamed "internal/strconv.uint64pow10" = some g → ¬ c.A g) : TabOk w := by
  unfold TabOk Lib.TabIs World.var? at *
  cases hg : Program.globalNamed Tryd.prog "internal/strconv.uint64pow10" with
  | none => rw [hg] at ht; cases ht
  | some g =>
    rw [hg] at ht
    simp only [Option.bind_some] at ht ⊢
    have hlt : g < c.w0.heap.size := by
      rcases Nat.lt_or_ge g c.w0.heap.size with h | h
      · exact h
      · rw [Array.getElem?_eq_none h] at ht; cases ht
    rw [hw.old g hlt (hA g hg)]
    exact ht
end Go.Proofs.YtnebonmppioooaaDoor
