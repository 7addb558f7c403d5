/-
  The law CtTexts answers true for every key and every text; its row, and the card that ties what the row lists to the program's text.
  No condition beyond the row's own cells.
-/
import Derived.Test.YthgefjgbkhkmgaaDoorHex
import Derived.Test.YthgefjgbkhkmgaaDoorRow
import Derived.Test.YthgefjgbkhkmgaaDoorHead
import Derived.Test.YthgefjgbkhkmgaaDoorTie
import Derived.Test.YthgefjgbkhkmgaaDoorCards
import Derived.OpenShut
import Derived.LaidMore
import Derived.Lay
import Derived.SevenTiedAt
import Derived.Stop.Joined
namespace Go.Proofs.YthgefjgbkhkmgaaDoor
open Go Go.ChangeShapes Go.WideShapes Go.ChangeAt Go.RowKit Ev
attribute [local irreducible] evC evBody

def txS : List Sh := [.arr .u8 32, .str]
theorem l_long (φ : Nat → Int) (s : ByteArray) : evBody tab orcT [(17, .b true)] [] [] 1000 Tryd.f3 (bodyOf Tryd.f3) [vK φ, .string s] [] 0 [] (fun r => r = .bool true) =
    (emit (decide (((s.size : Nat) : Int) > 200)) true ∧ Value.bool true = .bool true) := by kernel_rfl
theorem l_run (φ : Nat → Int) (s : ByteArray) : evBody tab orcT [(17, .b false), (23, .b true), (27, .ok), (30, .b true), (44, .ok), (45, .b true), (55, .b true), (60, .b true), (65, .b true), (70, .b true)] [] [] 1000 Tryd.f3 (bodyOf Tryd.f3) [vK φ, .string s] [] 0 [] (fun r => r = .bool true) =
    (emit (decide (((s.size : Nat) : Int) > 200)) false ∧ emit (parB (hexT φ)) true ∧ okE1 (ifP (ascS (hexT φ))) ∧ emit (parB (upS (hexT φ))) true ∧ okE1 (ifP (∀ j, j < 32 → isB (atI (cellsV (vK φ)) j))) ∧
     emit ((hexT φ).toList == (hexT φ).toList) true ∧ emit (eqV (vK (parK (hexT φ))) (vK φ)) true ∧ emit (eqV (vK (parK (upS (hexT φ)))) (vK φ)) true ∧ emit (eqV (vK (parK s)) (vK (parR s))) true ∧ emit (parB s == parB s) true ∧ Value.bool true = .bool true) := by kernel_rfl

theorem l_ctr (φ : Nat → Int) (s : ByteArray) (h : ∀ j, j < 32 → isB (φ j)) : ∀ q, Ctr Tryd.prog 3 (mkA txS (mkE [φ] [s, s]) 0) q (.bool true) := by
  show ∀ q, Ctr Tryd.prog 3 [vK φ, .string s] q (.bool true)
  have hids : idsOf [vK φ, .string s] = [] := rfl
  rcases Nat.lt_or_ge 200 s.size with h1 | h1
  · exact fo_ctr orcT_ok Tryd.func3 (by kernel_rfl) hids (of_eq (l_long φ s) ⟨emit_of (decide_eq_true (by omega)), rfl⟩)
  · obtain ⟨p1, p2⟩ := hex_back h
    obtain ⟨q1, q2⟩ := up_back h
    have hb : ∀ j, j < 32 → isB (atI (cellsV (vK φ)) j) := fun j hj => by
      rw [show cellsV (vK φ) = cellsOf .u8 φ 32 0 from rfl, atI_cells 32 0 j hj, Nat.zero_add]
      exact h j hj
    exact fo_ctr orcT_ok Tryd.func3 (by kernel_rfl) hids (of_eq (l_run φ s) ⟨emit_of (decide_eq_false (by omega)), emit_of p1, okE1_of (hex_asc h), emit_of q1, okE1_of hb,
      emit_of (by simp), emit_of (by rw [p2, eqV_refl]), emit_of (by rw [q2, eqV_refl]), emit_of (by rw [par_eq, eqV_refl]), emit_of (by simp), rfl⟩)

set_option maxRecDepth 100000 in
theorem ctTexts_lifted (os : Os) (started : os.Started) (H : Type) (enc : TypeId × Value → H) :
    ReturnsInHanded {} Tryd.checked os 3 .any (fun w args => (Rows.ctTextsSpec.pre enc Tryd.prog Tryd.f3 Rows.ctTextsRow.domain false w args ∧ laidMetH Tryd.prog Rows.ctTextsRow.laid w) ∧ sizedMet enc Tryd.prog Tryd.f3 (OpenSpec.ofChange Rows.ctTextsSpec) false w args)
      (Rows.ctTextsSpec.post enc Tryd.prog Tryd.f3 false true false false) := by
  refine returnsInHanded_of_change_and (C := Tryd.checked) (X := fun w _ => laidMetH Tryd.prog Rows.ctTextsRow.laid w) (fun _ _ _ hh h => h.of_heap hh) own started (by kernel_rfl) Tryd.func3
    (ChangeSpec.witness_shaped (enc := enc) (C := Tryd.checked) (os := os) (X := fun w _ => laidMetH Tryd.prog Rows.ctTextsRow.laid w) false (World.laidAll Tryd.prog os Rows.ctTextsRow.laid) #[arrOf .u8 32 (fun _ => 0), .string ByteArray.empty] 8 (World.laidAll_os _ _ _)
      (World.shaped_of_ZipB (by kernel_rfl) (by kernel_rfl)) (by kernel_rfl) (by kernel_rfl) (by kernel_rfl)
      (by rw [MakeChecks.laidMetH_plain _ _ _ (by kernel_rfl)]; exact laidMet_laidAll _ (by kernel_rfl) (by kernel_rfl))) ?_
  intro W base args ds gs before hval0 hW hcnd _ hL _
  have hval : ∀ (j : Nat) t v, Tryd.f3.params[j]? = some t → args[j]? = some v → Value.okWide Tryd.prog W .any base t v := hval0
  have hW' := hW
  obtain ⟨p, q, hA0, hV, rfl, hfz, hnd⟩ := hW
  have hA : DataW.TrodAll enc Tryd.prog W 0 (fun _ => true) true Tryd.f3.params.toList args.toList ds p := hA0
  rw [Tryd.params3] at hA hval
  obtain ⟨v0, v1, d0, d1, p0, p1, rfl, rfl, rfl, h0, h1⟩ := trodAll_two hA
  obtain ⟨rfl, rfl⟩ := trodVars_none hV
  obtain ⟨x0, rfl, w0⟩ := open_arr Tryd.underlying23 Tryd.underlying5 (by kernel_rfl) (by kernel_rfl) (hval 0 23 v0 rfl rfl) h0
  obtain ⟨x1, rfl, rfl, rfl, w1⟩ := Go.ChangeMaps.open_string Tryd.underlying9 (hval 1 9 v1 rfl rfl) h1
  refine (plain_calls (l_ctr x0 x1 (fun j hj => isB_of (w0 j hj))) W).mono fun e W' ⟨he, hb⟩ => ?_
  exact ⟨_, he, law_post hW' hb rfl (by kernel_rfl) (reads_of (by kernel_rfl)) ⟨rfl, rfl, rfl⟩⟩

theorem ctTexts_closed : joinedFacts Tryd.prog 3 Tryd.f3 Rows.ctTextsSpec Rows.ctTextsRow = true := by
  refine (joinedFacts.eq_1 ..).trans ?_
  rw [enters_ok, no_finals, make_is]
  kernel_rfl

theorem ctTexts_holds : Rows.CtTextsSaid :=
  OpenClaim.holds_of_wide 3 Tryd.f3 rfl rfl rfl rfl rfl rfl rfl ⟨rfl, rfl, rfl, rfl, rfl⟩ rfl rfl rfl rfl rfl (by kernel_rfl) Tryd.func3 ctTexts_closed
    (of_decide_eq_true (by kernel_rfl)) (by unfold Func.isWrapper; rw [if_neg (by decide +kernel)]; exact ⟨rfl, rfl⟩)
    (fun os started H enc _ => ctTexts_lifted os started H enc)

theorem ctTextsCard_holds : Rows.CtTextsCardSaid :=
  Claim7.holds_tied_plain_at .later [] [.data, .pinned, .pinned] true (true, "4c9476eddc557131699991991f9c6a832914308671ce144baf343672bd59e3bf") false
    ctTexts_holds (fun _ h => by cases h) (by kernel_rfl) (fun _ h => by cases h) ctTexts_row_tie rfl ⟨rfl, rfl⟩ (by kernel_rfl) rfl
    (fun f fn hf hfn => by
      obtain rfl : f = 3 := Option.some.inj ((show Tryd.prog.funcNamed "sapwood/sapwoodlaw01.CtTexts" = some 3 by kernel_rfl).symm.trans hf) |>.symm
      obtain rfl : fn = Tryd.f3 := (Option.some.inj (Tryd.func3.symm.trans hfn)).symm
      exact ⟨by kernel_rfl, fun j t ht => by
        rw [Tryd.params3] at ht
        have hm : t ∈ [23, 9] := by simpa using Array.mem_of_getElem? ht
        have hall : ([23, 9].all fun u => !Tryd.prog.wantsStandIn u) = true := by kernel_rfl
        exact (show Tryd.prog.wantsStandIn t = false by simpa using List.all_eq_true.1 hall t hm)⟩)
    (by kernel_rfl)
end Go.Proofs.YthgefjgbkhkmgaaDoor
