/-
  Digits in plain words: what Hex writes, the document's Hex writes, and Parse reads, great letters or small.
-/
import Derived.Test.YthgefjgbkhkmgaaDoorPar
namespace Go.Proofs.YthgefjgbkhkmgaaDoor.Ev
open Go Go.RowKit
attribute [local irreducible] evC evBody

/-! ## One byte, all that is asked of it -/
def c1 (x : Int) : UInt8 := byteOf (.int .u8 (digI (x.fdiv (2 ^ 4))))
def c2 (x : Int) : UInt8 := byteOf (.int .u8 (digI (band x 15)))
def slB (x : Int) : Bool := decide (0 ≤ upI x ∧ upI x ≤ ((digs.size : Nat) : Int) ∧ 0 ≤ x ∧ x ≤ upI x)
def numB (b : UInt8) : Int := ((b.toNat : Nat) : Int)
def dig2 (a b : UInt8) (x : Int) : Bool := hvB (numB a) && hvB (numB b) && (orI (shlI (hvI (numB a))) (hvI (numB b)) == x) && decide (a.toNat < 128) && decide (b.toNat < 128)
def okByte (n : Nat) : Bool := slB (nHi (.ofNat n)) && slB (nLo (.ofNat n)) && ((dgS (nHi (.ofNat n))).data.toList == [c1 (.ofNat n)]) && ((dgS (nLo (.ofNat n))).data.toList == [c2 (.ofNat n)]) &&
  dig2 (c1 (.ofNat n)) (c2 (.ofNat n)) (.ofNat n) && dig2 (Lib.upperB (c1 (.ofNat n))) (Lib.upperB (c2 (.ofNat n))) (.ofNat n)
theorem okByte_all : (List.range 256).all okByte = true := by kernel_rfl
structure Two (a b : UInt8) (x : Int) : Prop where
  g1 : hvB (numB a) = true
  g2 : hvB (numB b) = true
  v : orI (shlI (hvI (numB a))) (hvI (numB b)) = x
  l1 : a.toNat < 128
  l2 : b.toNat < 128
theorem two_of {a b : UInt8} {x : Int} (h : dig2 a b x = true) : Two a b x := by
  simp only [dig2, Bool.and_eq_true, beq_iff_eq, decide_eq_true_eq] at h
  obtain ⟨⟨⟨⟨h1, h2⟩, h3⟩, h4⟩, h5⟩ := h
  exact ⟨h1, h2, h3, h4, h5⟩
structure Byt (x : Int) : Prop where
  s1 : slOk (nHi x)
  s2 : slOk (nLo x)
  d1 : (dgS (nHi x)).data.toList = [c1 x]
  d2 : (dgS (nLo x)).data.toList = [c2 x]
  t : Two (c1 x) (c2 x) x
  u : Two (Lib.upperB (c1 x)) (Lib.upperB (c2 x)) x
theorem byt_of {x : Int} (h : isB x) : Byt x := by
  obtain ⟨n, hn, rfl⟩ := byte_nat h
  have := List.all_eq_true.1 okByte_all n (List.mem_range.2 hn)
  simp only [okByte, Bool.and_eq_true, beq_iff_eq] at this
  obtain ⟨⟨⟨⟨⟨h1, h2⟩, h3⟩, h4⟩, h5⟩, h6⟩ := this
  exact ⟨h1, h2, h3, h4, two_of h5, two_of h6⟩

/-! ## What Hex writes -/
def hexP (φ : Nat → Int) : Nat → Nat → List UInt8
  | 0, _ => []
  | n + 1, i => c1 (φ i) :: c2 (φ i) :: hexP φ n (i + 1)
theorem hexL_P (φ : Nat → Int) : ∀ (n i : Nat), (hexL (cellsOf .u8 φ n i)).map byteOf = hexP φ n i := by
  intro n
  induction n with
  | zero => intro i; rfl
  | succ n ih => intro i; simp only [cellsOf, hexL, List.map_cons, hexP, ih]; rfl
theorem hexP_len (φ : Nat → Int) : ∀ (n i : Nat), (hexP φ n i).length = 2 * n := by
  intro n
  induction n with
  | zero => intro i; rfl
  | succ n ih => intro i; simp only [hexP, List.length_cons, ih]; omega
theorem hexP_snoc (φ : Nat → Int) : ∀ (n i : Nat), hexP φ (n + 1) i = hexP φ n i ++ [c1 (φ (i + n)), c2 (φ (i + n))] := by
  intro n
  induction n with
  | zero => intro i; rfl
  | succ n ih =>
    intro i
    have e := ih (i + 1)
    rw [show i + 1 + n = i + (n + 1) by omega] at e
    calc hexP φ (n + 1 + 1) i = c1 (φ i) :: c2 (φ i) :: hexP φ (n + 1) (i + 1) := rfl
      _ = _ := by rw [e]; rfl
theorem hexP_at (φ : Nat → Int) (f : UInt8 → UInt8) : ∀ (n i j : Nat), j < n → byteAt ((hexP φ n i).map f) (2 * j) = f (c1 (φ (i + j))) ∧ byteAt ((hexP φ n i).map f) (2 * j + 1) = f (c2 (φ (i + j))) := by
  intro n
  induction n with
  | zero => intro i j h; omega
  | succ n ih =>
    intro i j h
    cases j with
    | zero => exact ⟨rfl, rfl⟩
    | succ j =>
      have := ih (i + 1) j (by omega)
      rw [show i + 1 + j = i + (j + 1) by omega] at this
      exact this
def hexT (φ : Nat → Int) : ByteArray := ⟨((hexL (cellsV (vK φ))).map byteOf).toArray⟩
theorem hexS_list (φ : Nat → Int) : (hexT φ).data.toList = hexP φ 32 0 := by
  show ((hexL (cellsOf .u8 φ 32 0)).map byteOf).toArray.toList = _
  rw [hexL_P]
theorem bytes_eq {a b : ByteArray} (h : a.data.toList = b.data.toList) : a = b := by
  cases a with
  | mk x => cases b with
    | mk y => exact congrArg ByteArray.mk (Array.toList_inj.1 h)
theorem app_list (a b : ByteArray) : (a ++ b).data.toList = a.data.toList ++ b.data.toList := by
  rw [ByteArray.data_append, Array.toList_append]
theorem size_list (a : ByteArray) : a.size = a.data.toList.length := by
  rw [Array.length_toList]
  rfl

/-! ## the document's Hex -/
theorem hxStep_list {x : Int} (h : isB x) (a : ByteArray) : (hxStep a x).data.toList = a.data.toList ++ [c1 x, c2 x] := by
  have b := byt_of h
  rw [hxStep, app_list, app_list, b.d1, b.d2, List.append_assoc]
  rfl
theorem hxS_list {φ : Nat → Int} {n : Nat} (h : ∀ j, j < n → isB (φ j)) : (hxS φ n).data.toList = hexP φ n 0 := by
  induction n with
  | zero => rfl
  | succ n ih =>
    rw [hexP_snoc, Nat.zero_add, ← ih fun j hj => h j (by omega)]
    exact hxStep_list (h n (by omega)) _
theorem hxS_hex {φ : Nat → Int} (h : ∀ j, j < 32 → isB (φ j)) : hxS φ 32 = hexT φ := bytes_eq ((hxS_list h).trans (hexS_list φ).symm)
theorem dg_size {x : Int} {c : UInt8} (h : (dgS x).data.toList = [c]) : (dgS x).size = 1 := by
  rw [size_list, h]
  rfl
theorem hx_round {φ : Nat → Int} (h : ∀ j, j < 32 → isB (φ j)) {i : Nat} (hi : i < 32) : hxRound φ (hxS φ i) i := by
  have b := byt_of (h i hi)
  have hs : (hxS φ i).size = 2 * i := by rw [size_list, hxS_list fun j hj => h j (by omega), hexP_len]
  have m : IntKind.i64.max = 9223372036854775807 := by decide
  have e1 := dg_size b.d1
  have e2 := dg_size b.d2
  have e3 : (hxS φ i ++ dgS (nHi (φ i))).size = 2 * i + 1 := by rw [size_list, app_list, List.length_append, ← size_list, ← size_list, hs, e1]
  have a1 : adOk (hxS φ i) (dgS (nHi (φ i))) := decide_eq_true (by rw [m, hs, e1]; omega)
  have a2 : adOk (hxS φ i ++ dgS (nHi (φ i))) (dgS (nLo (φ i))) := decide_eq_true (by rw [m, e3, e2]; omega)
  exact of_eq' (mapL_eq (hx_r φ (hxS φ i)) i (mem_runN (by omega) (by omega))) ⟨b.s1, a1, b.s2, a2, hxPre_refl _ _ _⟩
theorem hx_lo {φ : Nat → Int} (h : ∀ j, j < 32 → isB (φ j)) : LoOk Tryd.prog [(0, hxC φ)] :=
  lo_count (br := []) orc0_ok (hxT φ) 32 (fun _ => hxPre_low _ _ _) (fun n hn => ⟨[], 100, hx_round h hn⟩) ⟨[], 100, of_eq' (hx_l φ _) (hxPre_refl _ _ _)⟩
noncomputable def hxF (a : List Value) : Bool × Value := (ifP (∀ j, j < 32 → isB (atI (cellsV (getD a 0)) j)), .string ⟨((hexL (cellsV (getD a 0))).map byteOf).toArray⟩)
theorem atI_cells {k : IntKind} {φ : Nat → Int} : ∀ (n i j : Nat), j < n → atI (cellsOf k φ n i) j = φ (i + j) := by
  intro n
  induction n with
  | zero => intro i j h; omega
  | succ n ih =>
    intro i j h
    cases j with
    | zero => rfl
    | succ j =>
      have := ih (i + 1) j (by omega)
      rw [show i + 1 + j = i + (j + 1) by omega] at this
      exact this
theorem hx_ok : FoOk 9 (foOf hexS hxF) := fo_of' Tryd.func9 (c := bodyOf Tryd.f9) (by kernel_rfl) (by kernel_rfl) (fun e => by kernel_rfl) fun e hc => by
  have h0 := of_ifP hc
  have h : ∀ j, j < 32 → isB (e.i 0 j) := fun j hj => by
    have := h0 j hj
    rw [show (cellsV (getD (mkA hexS e 0) 0)) = cellsOf .u8 (e.i 0) 32 0 from rfl, atI_cells 32 0 j hj, Nat.zero_add] at this
    exact this
  show ∀ g, Ctr Tryd.prog 9 [vK (e.i 0)] g (.string (hexT (e.i 0)))
  rw [← hxS_hex h]
  exact fo_ctr orc0_ok Tryd.func9 (by kernel_rfl) rfl (of_eq' (hx_run (e.i 0)) ⟨rfl, hxPre_refl _ _ _, rfl⟩) (hx_lo h)

/-! ## Read again -/
theorem par_hex {φ : Nat → Int} (s : ByteArray) (f : UInt8 → UInt8) (hs : s.data.toList = (hexP φ 32 0).map f) (h : ∀ j, j < 32 → Two (f (c1 (φ j))) (f (c2 (φ j))) (φ j)) : parB s = true ∧ vK (parK s) = vK φ := by
  have hz : s.size = 64 := by rw [size_list, hs, List.length_map, hexP_len]
  have hb : ∀ j, j < 32 → bt s (2 * j) = numB (f (c1 (φ j))) ∧ bt s (2 * j + 1) = numB (f (c2 (φ j))) := fun j hj => by
    obtain ⟨h1, h2⟩ := hexP_at φ f 32 0 j hj
    rw [Nat.zero_add] at h1 h2
    unfold bt
    rw [hs, h1, h2]
    exact ⟨rfl, rfl⟩
  have hg : ∀ n, n ≤ 32 → allG s n = true := by
    intro n
    induction n with
    | zero => intro _; rfl
    | succ n ih =>
      intro hn
      obtain ⟨b1, b2⟩ := hb n (by omega)
      have t := h n (by omega)
      simp only [allG, goodP, ih (by omega), b1, b2, t.g1, t.g2, Bool.and_self]
  have e : parB s = true := by rw [parB_good hz, hg 32 (Nat.le_refl _)]
  refine ⟨e, ?_⟩
  have key : ∀ j, j < 32 → parK s j = φ j := fun j hj => by
    unfold parK
    rw [e]
    show pkT (pkB s) 32 j = φ j
    have : Nat.blt j 32 = true := Nat.ble_eq_true_of_le hj
    unfold pkT
    rw [this]
    show pkB s j = φ j
    obtain ⟨b1, b2⟩ := hb j hj
    unfold pkB
    rw [b1, b2]
    exact (h j hj).v
  have cells : ∀ n i, i + n ≤ 32 → cellsOf .u8 (parK s) n i = cellsOf .u8 φ n i := by
    intro n
    induction n with
    | zero => intro i _; rfl
    | succ n ih =>
      intro i hi
      simp only [cellsOf]
      rw [key i (by omega), ih (i + 1) (by omega)]
  show Value.agg (cellsOf .u8 (parK s) 32 0).toArray = .agg (cellsOf .u8 φ 32 0).toArray
  rw [cells 32 0 (Nat.le_refl _)]
theorem hex_back {φ : Nat → Int} (h : ∀ j, j < 32 → isB (φ j)) : parB (hexT φ) = true ∧ vK (parK (hexT φ)) = vK φ :=
  par_hex (hexT φ) id (by rw [hexS_list, List.map_id]) fun j hj => (byt_of (h j hj)).t
theorem up_back {φ : Nat → Int} (h : ∀ j, j < 32 → isB (φ j)) : parB (upS (hexT φ)) = true ∧ vK (parK (upS (hexT φ))) = vK φ :=
  par_hex (upS (hexT φ)) Lib.upperB (by show (Lib.toUpperA (hexT φ).data.toList).toArray.toList = _; rw [hexS_list]; rfl) fun j hj => (byt_of (h j hj)).u
theorem hexP_asc {φ : Nat → Int} : ∀ (n i : Nat), (∀ j, i ≤ j → j < i + n → isB (φ j)) → ∀ b ∈ hexP φ n i, b.toNat < 128 := by
  intro n
  induction n with
  | zero => intro i _ b hb; cases hb
  | succ n ih =>
    intro i h b hb
    have t := (byt_of (h i (Nat.le_refl _) (by omega))).t
    rcases List.mem_cons.1 hb with rfl | hb
    · exact t.l1
    rcases List.mem_cons.1 hb with rfl | hb
    · exact t.l2
    · exact ih (i + 1) (fun j h1 h2 => h j (by omega) (by omega)) b hb
theorem hex_asc {φ : Nat → Int} (h : ∀ j, j < 32 → isB (φ j)) : ascS (hexT φ) := by
  refine ⟨by rw [size_list, hexS_list, hexP_len]; decide, fun j b hj => ?_⟩
  rw [hexS_list] at hj
  exact hexP_asc 32 0 (fun j _ hj => h j (by omega)) b (List.mem_of_getElem? hj)

/-! ## The document's Parse reads the same -/
theorem hv_cases {c : Int} (h : hvB c = true) : ∃ n : Nat, n < 16 ∧ hvI c = .ofNat n := by
  have hp := hvI_pos h
  have : hvI c < 16 := by
    unfold hvB at h
    unfold hvI
    cases h1 : isDig c with
    | true => simp [isDig] at h1; simp only; omega
    | false =>
      cases h2 : isGreat c with
      | true => simp [isGreat] at h2; simp only; omega
      | false =>
        cases h3 : isSmall c with
        | true => simp [isSmall] at h3; simp only; omega
        | false => simp only; omega
  exact ⟨(hvI c).toNat, by omega, by show _ = (((hvI c).toNat : Nat) : Int); omega⟩
def two16 (n : Nat) : Bool := (List.range 16).all fun m => orI (shlI (.ofNat n)) (.ofNat m) == IntKind.u8.wrap (IntKind.i64.wrap (IntKind.i64.wrap (16 * .ofNat n) + .ofNat m))
theorem two16_all : (List.range 16).all two16 = true := by kernel_rfl
theorem pk_eq {s : ByteArray} {j : Nat} (h : goodP s j = true) : pkB s j = pkR s j := by
  obtain ⟨g1, g2⟩ := good_two h
  obtain ⟨n, hn, en⟩ := hv_cases g1
  obtain ⟨m, hm, em⟩ := hv_cases g2
  have e1 : rvI (bt s (2 * j)) = hvI (bt s (2 * j)) := by unfold rvI; rw [g1]
  have e2 : rvI (bt s (2 * j + 1)) = hvI (bt s (2 * j + 1)) := by unfold rvI; rw [g2]
  unfold pkB pkR
  rw [e1, e2, en, em]
  have := List.all_eq_true.1 (List.all_eq_true.1 two16_all n (List.mem_range.2 hn)) m (List.mem_range.2 hm)
  exact beq_iff_eq.1 this
theorem par_eq (s : ByteArray) : vK (parK s) = vK (parR s) := by
  cases e : parB s with
  | false => unfold parK parR; rw [e]
  | true =>
    have hg : allG s 32 = true := by
      unfold parB at e
      rw [Bool.and_eq_true] at e
      exact e.2
    have key : ∀ j, j < 32 → parK s j = parR s j := fun j hj => by
      unfold parK parR
      rw [e]
      show pkT (pkB s) 32 j = pkT (pkR s) 32 j
      have : Nat.blt j 32 = true := Nat.ble_eq_true_of_le hj
      unfold pkT
      rw [this]
      exact pk_eq (allG_lt hg j hj)
    have cells : ∀ n i, i + n ≤ 32 → cellsOf .u8 (parK s) n i = cellsOf .u8 (parR s) n i := by
      intro n
      induction n with
      | zero => intro i _; rfl
      | succ n ih =>
        intro i hi
        simp only [cellsOf]
        rw [key i (by omega), ih (i + 1) (by omega)]
    show Value.agg (cellsOf .u8 (parK s) 32 0).toArray = .agg (cellsOf .u8 (parR s) 32 0).toArray
    rw [cells 32 0 (Nat.le_refl _)]

/-! ## all joined -/
noncomputable def orcT : Orc := oadd (oadd (oadd (oadd orc7 5 (foOf strS parF)) 8 (foOf strS prF)) 7 (foOf strS upF)) 9 (foOf hexS hxF)
theorem orcT_ok : OrcOk Tryd.prog orcT := oadd_ok (oadd_ok (oadd_ok (oadd_ok orc7_ok par_ok) pr_ok) up_ok) hx_ok
end Go.Proofs.YthgefjgbkhkmgaaDoor.Ev
