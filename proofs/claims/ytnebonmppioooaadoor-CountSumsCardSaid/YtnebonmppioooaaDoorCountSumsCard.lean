/- CountSums holds: for every list of tallies (of which it looks at lists of at most 60) and every tally, whatever memory the call begins in where the three listed tables of the library hold what the program's own text lays there, the law answers true, and its arguments read as before. No other condition. -/
import Derived.Test.YtnebonmppioooaaDoorCountSums
import Derived.Test.YtnebonmppioooaaDoorEngZ
import Derived.Test.YtnebonmppioooaaDoorRows
import Derived.Test.YtnebonmppioooaaDoorCards
import Derived.Test.YtnebonmppioooaaDoorTie
import Derived.Lib.LaidTab
import Derived.SevenTiedAt
import Derived.Stop.LaidErr
import Derived.KernelRfl
namespace Go.Proofs.YtnebonmppioooaaDoor
open Go Go.ChangeShapes Go.WideShapes Go.RowKit Eng
def laid3 : List (String × DataW Unit) := [("math/bits.deBruijn32tab", Rows.laid_math_bits_deBruijn32tab), ("math/bits.deBruijn64tab", Rows.laid_math_bits_deBruijn64tab), ("internal/strconv.uint64pow10", Rows.laid_internal_strconv_uint64pow10)]
theorem ownKnob_none : ownKnob Tryd.prog.godebug = none := by kernel_rfl
theorem laid_is : Rows.laid_internal_strconv_uint64pow10 (H := Unit) = Lib.tabData .u64 Lib.pow10Tab := by kernel_rfl
theorem tab_laid {W : World} (h : laidMetH Tryd.prog laid3 W) : TabOk W := by
  rw [MakeChecks.laidMetH_plain _ _ _ (by kernel_rfl)] at h
  have h3 := h.tail.tail
  rw [laid_is] at h3
  exact Lib.tabIs_of_head (g := 0) (t := 153) (e := 34) (n := 20) (by kernel_rfl) (by kernel_rfl) (by kernel_rfl) (by kernel_rfl) (by kernel_rfl) (by kernel_rfl) h3
theorem door_met (os : Os) (args : Array Value) : laidMetH Tryd.prog laid3 ((World.doorLaid Tryd.prog 400 os).forCall (fun _ _ => 0) ⟨#[], args, []⟩).memory :=
  laidMetH_of_parts3 (fuel := 8) (laidMet_of_run' 8 (by kernel_rfl) (by kernel_rfl)) (by kernel_rfl) (by kernel_rfl)
def numAt (cs : List Value) (j : Nat) : Int := match cs[j]? with
  | some (.int _ n) => n
  | _ => 0
theorem lf_tally : lfK Tryd.prog 8 26 = some (List.replicate 34 (.i .i64)) := by kernel_rfl
theorem inI_wf {n : Int} (h : (Lit.int .i64 n).wf = true) : inI n := by
  simp only [Lit.wf, Bool.and_eq_true, decide_eq_true_eq] at h
  exact ⟨by have := h.1; simpa [IntKind.min, IntKind.signed, IntKind.bits] using this, by have := h.2; simpa [IntKind.max, IntKind.signed, IntKind.bits] using this⟩
/-- A tally's cells. -/
theorem tally_cells {cs : List Value} (hl : cs.length = 34) (h : ∀ (j : Nat) l, (List.replicate 34 (Lf.i .i64))[j]? = some l → ∃ v, cs[j]? = some v ∧ l.ok v) : cs = tab 34 (tI (numAt cs)) ∧ ∀ j, inI (numAt cs j) := by
  have key : ∀ j, j < 34 → ∃ n, cs[j]? = some (.int .i64 n) ∧ inI n := fun j hj => by
    obtain ⟨v, h1, n, rfl, h2⟩ := h j (.i .i64) (List.getElem?_replicate_of_lt hj)
    exact ⟨n, h1, inI_wf h2⟩
  refine ⟨tab_of hl fun j hj => ?_, fun j => ?_⟩
  · obtain ⟨n, h1, _⟩ := key j hj
    simp [h1, tI, numAt]
  · by_cases hj : j < 34
    · obtain ⟨n, h1, h2⟩ := key j hj
      simpa [numAt, h1] using h2
    · have : cs[j]? = none := List.getElem?_eq_none (by omega)
      simp [numAt, this, inI]
def rowAt (w : World) (bl ol i : Nat) : Nat → Int := fun j => match w.cell? ⟨bl, ol + i * 34 + j, none⟩ with
  | some (.int _ n) => n
  | _ => 0
set_option maxRecDepth 100000 in
theorem countSums_lifted (os : Os) (started : os.Started) (H : Type) (enc : TypeId × Value → H) :
    ReturnsInHanded {} Tryd.checked os 3 .any (fun w args => (Rows.countSumsSpec.pre enc Tryd.prog Tryd.f3 [] false w args ∧ laidMetH Tryd.prog laid3 w) ∧ sizedMet enc Tryd.prog Tryd.f3 (OpenSpec.ofChange Rows.countSumsSpec) false w args)
      (Rows.countSumsSpec.post enc Tryd.prog Tryd.f3 false true false false) := by
  refine returnsInHanded_of_change_and (C := Tryd.checked) (X := fun w _ => laidMetH Tryd.prog laid3 w) (fun _ _ _ hh h => h.of_heap hh) ownKnob_none started (by kernel_rfl) Tryd.func3
    (ChangeSpec.witness_shaped (enc := enc) (C := Tryd.checked) (os := os) (X := fun w _ => laidMetH Tryd.prog laid3 w) false (World.doorLaid Tryd.prog 400 os) #[.slice none 0 0, .agg ⟨List.replicate 34 (.int .i64 0)⟩] 8 rfl (World.shaped_of_RefB (by kernel_rfl) (by kernel_rfl)) (by kernel_rfl) (by kernel_rfl) (by kernel_rfl) (door_met os _)) ?_
  intro W base args ds gs before hval0 hW _ _ hL _
  have hlt := hW.lt
  have hW' := hW
  obtain ⟨p, q, hA0, hV, rfl, hfz, hnd⟩ := hW
  have hA : DataW.TrodAll enc Tryd.prog W 0 (fun _ => true) true Tryd.f3.params.toList args.toList ds p := hA0
  obtain ⟨rfl, rfl⟩ := trodVars_none hV
  have hp : Tryd.f3.params.toList = [22, 26] := rfl
  have hA1 := hA
  rw [hp] at hA
  obtain ⟨v0, v1, d0, d1, p0, p1, rfl, rfl, rfl, h0, h1⟩ := trodAll_two hA
  obtain ⟨ad, n, cap, rfl⟩ := okWide_slice (e := 26) (by kernel_rfl) (hval0 0 22 v0 rfl rfl)
  obtain ⟨⟨xs⟩, rfl, _⟩ := okWide_struct (fs := Tryd.prog.fieldsOf 26) (by kernel_rfl) (hval0 1 26 v1 rfl rfl)
  obtain ⟨fuel0, h0⟩ := h0
  obtain ⟨fuel1, h1⟩ := h1
  have ht := tab_laid hL
  obtain ⟨hxl, hxs⟩ := reads_leaf 8 26 _ lf_tally fuel1 _ _ h1
  obtain ⟨hx1, hx2⟩ := tally_cells (by simpa using hxl) hxs
  obtain ⟨ad', n', cap', hs, _, _, _, hrow⟩ := reads_slice (t := 22) (e := 26) (by kernel_rfl) lf_tally (by kernel_rfl) (by simp) h0
  have hs1 : Value.slice ad n cap = .slice ad' n' cap' := by simpa [Value.cells] using hs
  cases hs1
  have hx1' : xs = tab 34 (tI (numAt xs)) := hx1
  generalize hT : (fun i => match ad with | some a => rowAt W a.block a.off i | none => fun _ => 0) = ts
  have hrow' : ∀ i, i < n → ∃ bl ol, ad = some ⟨bl, ol, none⟩ ∧ ∀ i, i < n → ∀ j, j < 34 → W.cell? ⟨bl, ol + i * 34 + j, none⟩ = some (tI (ts i) j) := fun i hi => by
    obtain ⟨bl, ol, e, h⟩ := hrow i hi
    refine ⟨bl, ol, e, fun i hi j hj => ?_⟩
    obtain ⟨v, h2, m, rfl, _⟩ := h i hi j (.i .i64) (List.getElem?_replicate_of_lt hj)
    simp only [List.length_replicate] at h2
    subst hT
    subst e
    simp [h2, tI, rowAt]
  have hcall := sums_tr ts (numAt xs) hx2 n cap ad W ht hrow' ⟨fun k hk => (by cases hk), .nil⟩
  rw [← hx1'] at hcall
  refine Calls.mono hcall ?_
  rintro e W' ⟨L', ⟨he, hL'⟩, htr⟩
  subst he
  have hb := below_of_trans htr
  have hps : ∀ x ∈ p0 ++ p1, x.block < W.heap.size := fun x hx => hlt x (by simpa using hx)
  have e1 : Rows.countSumsSpec.fn H ([d0, d1] ++ []) = { results := [.lit (.bool true)], args := [d0, d1] } := by simp [Rows.countSumsSpec]
  refine ⟨_, rfl, [d0, d1], [], _, [], p0 ++ p1, [], hW', ?_, ?_, ?_, hb.frame _, fun h => by cases h⟩
  · rw [e1]; exact trodAll_mk1 (shut_bool (by kernel_rfl) true)
  · rw [e1]; exact Below.trodAll (by kernel_rfl) hb _ _ _ _ (by kernel_rfl) hA1 hps
  · rw [e1]; rfl
theorem countSums_said : Rows.CountSumsSaid :=
  OpenClaim.holds_of_wide 3 Tryd.f3 rfl rfl rfl rfl rfl rfl rfl ⟨rfl, rfl, rfl, rfl, rfl⟩ rfl rfl rfl rfl rfl (by kernel_rfl) Tryd.func3 (by kernel_rfl)
    (of_decide_eq_true (by kernel_rfl)) (by unfold Func.isWrapper; first | (rw [if_pos (by decide +kernel)]; kernel_rfl) | (rw [if_neg (by decide +kernel)]; exact ⟨rfl, rfl⟩))
    (fun os started H enc _ => countSums_lifted os started H enc)
theorem countSums_card : Rows.CountSumsCardSaid :=
  Claim7.holds_tied_plain_at .later [] [.data, .data, .data] true (true, "fab378d8d57b150400a40a0193c7ed1042890e165cc1820481d5e685c4e5b70c") false
    countSums_said (fun _ h => by cases h) (by kernel_rfl) (fun _ h => by cases h) countSums_row_tie rfl ⟨rfl, rfl⟩ (by kernel_rfl) rfl
    (fun f fn hf hfn => by
      obtain rfl : f = 3 := Option.some.inj ((show Tryd.prog.funcNamed "tollbar/tollbarlaw40.CountSums" = some 3 by kernel_rfl).symm.trans hf) |>.symm
      obtain rfl : fn = Tryd.f3 := (Option.some.inj (Tryd.func3.symm.trans hfn)).symm
      exact ⟨by kernel_rfl, fun j t ht => by
        have hp : Tryd.f3.params = #[22, 26] := rfl
        rw [hp] at ht
        have h3 : t = 22 ∨ t = 26 := by
          rcases j with _ | _ | j
          · left; simpa using ht.symm
          · right; simpa using ht.symm
          · simp at ht
        rcases h3 with rfl | rfl
        · exact (show Tryd.prog.wantsStandIn 22 = false by kernel_rfl)
        · exact (show Tryd.prog.wantsStandIn 26 = false by kernel_rfl)⟩)
    (by kernel_rfl)
#print axioms countSums_card
end Go.Proofs.YtnebonmppioooaaDoor
