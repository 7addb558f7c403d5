/-
  Parse, the document's Parse and Hex, strings.ToUpper on plain letters: their contracts.
-/
import Derived.Test.YthgefjgbkhkmgaaDoorPr
import Derived.Test.YthgefjgbkhkmgaaDoorHx
import Derived.Test.YthgefjgbkhkmgaaDoorShelf
namespace Go.Proofs.YthgefjgbkhkmgaaDoor.Ev
open Go Go.RowKit
attribute [local irreducible] evC evBody

/-! ## Bytes of a text -/
theorem bt_isB (s : ByteArray) (i : Nat) : isB (bt s i) := by
  have h : (byteAt s.data.toList i).toNat < 256 := UInt8.toNat_lt _
  exact ⟨Int.natCast_nonneg _, by show (((byteAt s.data.toList i).toNat : Nat) : Int) < 256; omega⟩
theorem ixOk_of {s : ByteArray} (h : s.size = 64) {k : Nat} (hk : k < 64) : ixOk s (.ofNat k) := by
  have : 0 ≤ (Int.ofNat k) ∧ (Int.ofNat k) < (s.size : Int) := ⟨Int.natCast_nonneg _, by rw [h]; show ((k : Nat) : Int) < ((64 : Nat) : Int); omega⟩
  exact decide_eq_true this
theorem okBt (s : ByteArray) (k : Nat) : okE1 (ifP (isB (bt s k))) := okE1_of (bt_isB s k)

/-! ## Which texts are a key's -/
def goodP (s : ByteArray) (i : Nat) : Bool := hvB (bt s (2 * i)) && hvB (bt s (2 * i + 1))
def allG (s : ByteArray) : Nat → Bool
  | 0 => true
  | i + 1 => allG s i && goodP s i
theorem allG_lt {s : ByteArray} : ∀ {n : Nat}, allG s n = true → ∀ i, i < n → goodP s i = true := by
  intro n
  induction n with
  | zero => intro _ i hi; omega
  | succ n ih =>
    intro h i hi
    simp only [allG, Bool.and_eq_true] at h
    rcases Nat.lt_or_ge i n with h1 | h1
    · exact ih h.1 i h1
    · have : i = n := by omega
      subst this
      exact h.2
theorem first_bad {s : ByteArray} : ∀ {n : Nat}, allG s n = false → ∃ m, m < n ∧ goodP s m = false ∧ ∀ i, i < m → goodP s i = true := by
  intro n
  induction n with
  | zero => intro h; cases h
  | succ n ih =>
    intro h
    cases g : allG s n with
    | false =>
      obtain ⟨m, h1, h2, h3⟩ := ih g
      exact ⟨m, by omega, h2, h3⟩
    | true =>
      simp only [allG, g, Bool.true_and] at h
      exact ⟨n, by omega, h, allG_lt g⟩
def parB (s : ByteArray) : Bool := (s.size == 64) && allG s 32
def parK (s : ByteArray) : Nat → Int := match parB s with
  | true => pkT (pkB s) 32
  | false => fun _ => 0
def parR (s : ByteArray) : Nat → Int := match parB s with
  | true => pkT (pkR s) 32
  | false => fun _ => 0
def strV : Value → ByteArray
  | .string s => s
  | _ => ByteArray.empty
def strS : List Sh := [.str]
theorem zero_row : Value.agg z32.toArray = vK (fun _ => 0) := by kernel_rfl
theorem parB_size {s : ByteArray} (h : s.size ≠ 64) : parB s = false := by
  unfold parB
  rw [beq_false_of_ne h]
  rfl
theorem parB_good {s : ByteArray} (h : s.size = 64) : parB s = allG s 32 := by
  unfold parB
  rw [h]
  rfl
theorem good_two {s : ByteArray} {i : Nat} (h : goodP s i = true) : hvB (bt s (2 * i)) = true ∧ hvB (bt s (2 * i + 1)) = true := by
  simpa [goodP] using h
theorem size_off {s : ByteArray} (h : s.size ≠ 64) : emit (((s.size : Nat) : Int) != 64) true := emit_of (by
  rw [bne_iff_ne]
  intro e
  exact h (by omega))
theorem size_on {s : ByteArray} (h : s.size = 64) : emit (((s.size : Nat) : Int) != 64) false := emit_of (by rw [h]; rfl)

/-! ## Parse -/
noncomputable def parF (a : List Value) : Bool × Value := (true, .tuple #[vK (parK (strV (getD a 0))), .bool (parB (strV (getD a 0)))])
theorem pa_round {s : ByteArray} (h : s.size = 64) {i : Nat} (hi : i < 32) (hg : goodP s i = true) : paRound s i := by
  obtain ⟨g1, g2⟩ := good_two hg
  exact of_eq' (mapL_eq (pa_r s) i (mem_runN (by omega) (by omega))) ⟨ixOk_of h (by omega), okBt s _, emit_of g1, ixOk_of h (by omega), okBt s _, emit_of g2, paPre_refl _ _⟩
theorem pa_lo {s : ByteArray} (h : s.size = 64) (hg : allG s 32 = true) : LoOk Tryd.prog [(0, paC s)] :=
  lo_count (br := []) orcP0_ok (paPre s) 32 (fun _ => paPre_low _ _) (fun n hn => ⟨[], 100, pa_round h hn (allG_lt hg n hn)⟩) ⟨[], 100, of_eq' (pa_l s) (paPre_refl _ _)⟩
theorem pa_loff {s : ByteArray} (h : s.size = 64) (hg : allG s 32 = false) : LoOk Tryd.prog [(0, paCo s)] := by
  obtain ⟨m, hm, hb, hlt⟩ := first_bad hg
  cases g1 : hvB (bt s (2 * m)) with
  | false =>
    exact lo_ex (br := []) (br' := []) orcP0_ok (paPre s) m paEnd (fun _ => paPre_low _ _) paEnd_low (fun n hn => ⟨[], 100, pa_round h (by omega) (hlt n hn)⟩)
      ⟨[], 100, of_eq' (mapL_eq (pa_o1 s) m (mem_runN (by omega) (by omega))) ⟨ixOk_of h (by omega), okBt s _, emit_of g1, ixOk_of h (by omega), okBt s _, paEnd_refl⟩⟩
  | true =>
    have g2 : hvB (bt s (2 * m + 1)) = false := by simpa [goodP, g1] using hb
    exact lo_ex (br := []) (br' := []) orcP0_ok (paPre s) m paEnd (fun _ => paPre_low _ _) paEnd_low (fun n hn => ⟨[], 100, pa_round h (by omega) (hlt n hn)⟩)
      ⟨[], 100, of_eq' (mapL_eq (pa_o2 s) m (mem_runN (by omega) (by omega))) ⟨ixOk_of h (by omega), okBt s _, emit_of g1, ixOk_of h (by omega), okBt s _, emit_of g2, paEnd_refl⟩⟩
theorem par_ctr (s : ByteArray) : ∀ g, Ctr Tryd.prog 5 [.string s] g (.tuple #[vK (parK s), .bool (parB s)]) := by
  have hids : idsOf [Value.string s] = [] := rfl
  rcases Nat.decEq s.size 64 with h | h
  · have e : parB s = false := parB_size h
    have e2 : parK s = fun _ => 0 := by unfold parK; rw [e]
    rw [e, e2, ← zero_row]
    exact fo_ctr orcP0_ok Tryd.func5 (by kernel_rfl) hids (of_eq' (pa_big s) ⟨size_off h, rfl⟩)
  · have e := parB_good h
    cases g : allG s 32 with
    | false =>
      rw [g] at e
      have e2 : parK s = fun _ => 0 := by unfold parK; rw [e]
      rw [e, e2, ← zero_row]
      exact fo_ctr orcP0_ok Tryd.func5 (by kernel_rfl) hids (of_eq' (pa_off s) ⟨size_on h, rfl, paPre_refl _ _, rfl⟩) (pa_loff h g)
    | true =>
      rw [g] at e
      have e2 : parK s = pkT (pkB s) 32 := by unfold parK; rw [e]
      rw [e, e2]
      exact fo_ctr orcP0_ok Tryd.func5 (by kernel_rfl) hids (of_eq' (pa_run s) ⟨size_on h, rfl, paPre_refl _ _, rfl⟩) (pa_lo h g)
theorem par_ok : FoOk 5 (foOf strS parF) := fo_of' Tryd.func5 (c := bodyOf Tryd.f5) (by kernel_rfl) (by kernel_rfl) (fun e => by kernel_rfl) fun e _ => par_ctr (e.s 0)

/-! ## the document's Parse -/
noncomputable def prF (a : List Value) : Bool × Value := (true, .tuple #[vK (parR (strV (getD a 0))), .bool (parB (strV (getD a 0)))])
theorem hvI_pos {c : Int} (h : hvB c = true) : 0 ≤ hvI c := by
  unfold hvB at h
  unfold hvI
  cases h1 : isDig c with
  | true => simp [isDig] at h1; simp only; omega
  | false =>
    cases h2 : isGreat c with
    | true => simp [isGreat] at h2; simp only; omega
    | false =>
      cases h3 : isSmall c with
      | true => simp [isSmall] at h3; simp only; omega
      | false => simp only; omega
theorem rv_good {c : Int} (h : hvB c = true) : decide (rvI c < 0) = false := by
  unfold rvI
  rw [h]
  have := hvI_pos h
  exact decide_eq_false (by simp only; omega)
theorem rv_bad {c : Int} (h : hvB c = false) : decide (rvI c < 0) = true := by
  unfold rvI
  rw [h]
  rfl
theorem pr_both {s : ByteArray} (h : s.size = 64) {i : Nat} (hi : i < 32) {p : Prop} (hp : p) : prBoth s i p :=
  ⟨ixOk_of h (by omega), okBt s _, ixOk_of h (by omega), okBt s _, hp⟩
theorem pr_round {s : ByteArray} (h : s.size = 64) {i : Nat} (hi : i < 32) (hg : goodP s i = true) : prRound s i := by
  obtain ⟨g1, g2⟩ := good_two hg
  exact of_eq' (mapL_eq (pr_r s) i (mem_runN (by omega) (by omega))) (pr_both h hi ⟨emit_of (rv_good g1), emit_of (rv_good g2), prPre_refl _ _⟩)
theorem pr_lo {s : ByteArray} (h : s.size = 64) (hg : allG s 32 = true) : LoOk Tryd.prog [(0, prC s)] :=
  lo_count (br := []) orcP0_ok (prPre s) 32 (fun _ => prPre_low _ _) (fun n hn => ⟨[], 100, pr_round h hn (allG_lt hg n hn)⟩) ⟨[], 100, of_eq' (pr_l s) (prPre_refl _ _)⟩
theorem pr_loff {s : ByteArray} (h : s.size = 64) (hg : allG s 32 = false) : LoOk Tryd.prog [(0, prCo s)] := by
  obtain ⟨m, hm, hb, hlt⟩ := first_bad hg
  cases g1 : hvB (bt s (2 * m)) with
  | false =>
    exact lo_ex (br := []) (br' := []) orcP0_ok (prPre s) m prEnd (fun _ => prPre_low _ _) prEnd_low (fun n hn => ⟨[], 100, pr_round h (by omega) (hlt n hn)⟩)
      ⟨[], 100, of_eq' (mapL_eq (pr_o1 s) m (mem_runN (by omega) (by omega))) (pr_both h hm ⟨emit_of (rv_bad g1), prEnd_refl⟩)⟩
  | true =>
    have g2 : hvB (bt s (2 * m + 1)) = false := by simpa [goodP, g1] using hb
    exact lo_ex (br := []) (br' := []) orcP0_ok (prPre s) m prEnd (fun _ => prPre_low _ _) prEnd_low (fun n hn => ⟨[], 100, pr_round h (by omega) (hlt n hn)⟩)
      ⟨[], 100, of_eq' (mapL_eq (pr_o2 s) m (mem_runN (by omega) (by omega))) (pr_both h hm ⟨emit_of (rv_good g1), emit_of (rv_bad g2), prEnd_refl⟩)⟩
theorem pr_ctr (s : ByteArray) : ∀ g, Ctr Tryd.prog 8 [.string s] g (.tuple #[vK (parR s), .bool (parB s)]) := by
  have hids : idsOf [Value.string s] = [] := rfl
  rcases Nat.decEq s.size 64 with h | h
  · have e : parB s = false := parB_size h
    have e2 : parR s = fun _ => 0 := by unfold parR; rw [e]
    rw [e, e2, ← zero_row]
    exact fo_ctr orcP0_ok Tryd.func8 (by kernel_rfl) hids (of_eq' (pr_big s) ⟨size_off h, rfl⟩)
  · have e := parB_good h
    cases g : allG s 32 with
    | false =>
      rw [g] at e
      have e2 : parR s = fun _ => 0 := by unfold parR; rw [e]
      rw [e, e2, ← zero_row]
      exact fo_ctr orcP0_ok Tryd.func8 (by kernel_rfl) hids (of_eq' (pr_off s) ⟨size_on h, rfl, prPre_refl _ _, rfl⟩) (pr_loff h g)
    | true =>
      rw [g] at e
      have e2 : parR s = pkT (pkR s) 32 := by unfold parR; rw [e]
      rw [e, e2]
      exact fo_ctr orcP0_ok Tryd.func8 (by kernel_rfl) hids (of_eq' (pr_run s) ⟨size_on h, rfl, prPre_refl _ _, rfl⟩) (pr_lo h g)
theorem pr_ok : FoOk 8 (foOf strS prF) := fo_of' Tryd.func8 (c := bodyOf Tryd.f8) (by kernel_rfl) (by kernel_rfl) (fun e => by kernel_rfl) fun e _ => pr_ctr (e.s 0)

/-! ## strings.ToUpper -/
/-- plain letters alone -/
def ascS (s : ByteArray) : Prop := s.size ≤ 140737488355328 ∧ ∀ (j : Nat) (b : UInt8), s.data.toList[j]? = some b → b.toNat < 128
def upS (s : ByteArray) : ByteArray := ⟨(Lib.toUpperA s.data.toList).toArray⟩
noncomputable def upF (a : List Value) : Bool × Value := (ifP (ascS (strV (getD a 0))), .string (upS (strV (getD a 0))))
theorem up_ok : FoOk 7 (foOf strS upF) := fo_of' Tryd.func7 (c := bodyOf Tryd.f7) (by kernel_rfl) (by kernel_rfl) (fun e => by kernel_rfl) fun e hc => by
  have h : ascS (e.s 0) := of_ifP hc
  show ∀ g, Ctr Tryd.prog 7 [.string (e.s 0)] g (.string (upS (e.s 0)))
  intro g ρ w _ _ _
  exact Tryd.strings_ToUpper_ascii (e.s 0) w h.1 h.2
end Go.Proofs.YthgefjgbkhkmgaaDoor.Ev
