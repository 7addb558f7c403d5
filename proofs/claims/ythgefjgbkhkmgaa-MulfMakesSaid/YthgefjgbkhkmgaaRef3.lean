/-
  The document's products, bits, powers, walked.
-/
import Derived.Test.YthgefjgbkhkmgaaRefB
import Derived.Test.YthgefjgbkhkmgaaPowL
import Derived.Test.YthgefjgbkhkmgaaAw2
namespace Go.Proofs.Ythgefjgbkhkmgaa.Ev
open Go Go.RowKit
open Sap (F P toF pw)
attribute [local irreducible] evC evBody

/-! ## Mul -/
noncomputable def f58l : Code := inB (blockIn 0 (bodyOf Try.f58))
def mlPre (d e g : Nat → Int) (c : Int) : AS := ⟨tmps [(2, ptr 0), (3, ptr 1), (4, ptr 2), (5, .slice (some ⟨3, 0, none⟩) 32 32), (6, .int .i64 c)] 38 0,
  [(0, ⟨cellsOf .i64 d 16 0, 45, true, 0⟩), (1, ⟨cellsOf .i64 e 16 0, 45, true, 0⟩), (2, ⟨zrep 16 (.int .i64 0), 45, true, 0⟩), (3, ⟨cellsOf .i64 g 32 0, 3, true, 0⟩)], 200⟩
def inRow (i j : Nat) : Bool := Nat.ble i j && Nat.ble (j + 1) (i + 16)
def mlX (d e g : Nat → Int) (i : Nat) : Nat → Int := fun j => match inRow i j with
  | true => i64w (g j + i64w (d i * e (j - i)))
  | false => g j
def mlRound (d e g : Nat → Int) (i : Nat) : Prop := evC tab orcR1 [] [] [] 1000 f58l (fun x _ s' => match x with | .normal => leS (mlPre d e (mlX d e g i) (.ofNat (i + 1))) s' | _ => False) [] (mlPre d e g (.ofNat i))
def mlWant (d e g : Nat → Int) (i : Nat) : Prop := leS (mlPre d e (mlX d e g i) (.ofNat (i + 1))) (mlPre d e (mlX d e g i) (.ofNat (i + 1)))
theorem ml_round (d e g : Nat → Int) : List.map (mlRound d e g) (runN 0 16) = mapL (mlWant d e g) (runN 0 16) := by kernel_rfl
theorem ml_last (d e g : Nat → Int) : evC tab orcR1 [] [] [] 1000 f58l (fun x _ s' => match x with | .exit j => (match Nat.beq j 0 with | true => leS (mlPre d e g 16) s' | false => False) | _ => False) [] (mlPre d e g 16) = leS (mlPre d e g 16) (mlPre d e g 16) := by kernel_rfl
theorem mlPre_refl (d e g : Nat → Int) (c : Int) : leS (mlPre d e g c) (mlPre d e g c) := ⟨leT_refl _, rfl, rfl, rfl, rfl, trivial⟩
theorem mlPre_low (d e g : Nat → Int) (c : Int) : low (mlPre d e g c) = true := by kernel_rfl
def mlN (d e : Nat → Int) : Nat → (Nat → Int)
  | 0 => fun _ => 0
  | n + 1 => mlX d e (mlN d e n) n
def mlT (d e : Nat → Int) (n : Nat) : AS := mlPre d e (mlN d e n) (.ofNat n)
noncomputable def mlC (d e : Nat → Int) : LoopC := ⟨.loop f58l, mlT d e 0, .normal, mlT d e 16⟩
theorem ml_lo (d e : Nat → Int) : LoOk Try.prog [(0, mlC d e)] :=
  lo_cnt (sy := []) (br := []) orcR1_ok loOk_nil (mlT d e) 16 (fun _ => mlPre_low _ _ _ _) (fun n hn => ⟨[], 1000, by
    have hk := mapL_eq (ml_round d e (mlN d e n)) n (mem_runN (by omega) (by omega))
    exact of_eq' hk (mlPre_refl _ _ _ _)⟩) ⟨[], 1000, of_eq' (ml_last d e _) (mlPre_refl _ _ _ _)⟩
theorem inRow_true {i j : Nat} (h : inRow i j = true) : i ≤ j ∧ j < i + 16 := by
  unfold inRow at h
  rw [Bool.and_eq_true] at h
  have h1 := Nat.le_of_ble_eq_true h.1
  have h2 := Nat.le_of_ble_eq_true h.2
  omega
theorem inRow_false {i j : Nat} (h : inRow i j = false) : ¬ (i ≤ j ∧ j < i + 16) := by
  intro ⟨h1, h2⟩
  have e : inRow i j = true := by
    unfold inRow
    rw [Nat.ble_eq_true_of_le h1, Nat.ble_eq_true_of_le (by omega : j + 1 ≤ i + 16)]; rfl
  rw [e] at h; cases h
theorem dn_scale (e : Nat → Int) (c : Int) (i : Nat) : ∀ n j, dn (fun k => c * e (k - i)) (i + j) n = c * dn e j n := by
  intro n
  induction n with
  | zero => intro j; simp [dn]
  | succ n ih =>
    intro j
    rw [dn_step, dn_step, show i + j + 1 = i + (j + 1) by omega, ih (j + 1)]
    simp only [Nat.add_sub_cancel_left]
    generalize dn e (j + 1) n = a
    generalize e j = b
    grind
theorem dn_zero {f : Nat → Int} : ∀ n j, (∀ k, j ≤ k → k < j + n → f k = 0) → dn f j n = 0 := by
  intro n
  induction n with
  | zero => intros; rfl
  | succ n ih =>
    intro j h
    rw [dn_step, h j (by omega) (by omega), ih (j + 1) fun k h1 h2 => h k (by omega) (by omega)]
    rfl
theorem mlN_val {d e : Nat → Int} (hd : isD d) (he : isD e) : ∀ n, n ≤ 16 → (∀ j, 0 ≤ mlN d e n j ∧ mlN d e n j ≤ n * 4294967296) ∧ dn (mlN d e n) 0 32 = dn d 0 n * dn e 0 16 := by
  intro n
  induction n with
  | zero =>
    intro _
    refine ⟨fun j => ⟨Int.le_refl 0, by show (0 : Int) ≤ _; omega⟩, ?_⟩
    rw [show dn (mlN d e 0) 0 32 = 0 from dn_zero 32 0 fun _ _ _ => rfl]
    show 0 = 0 * _
    rw [Int.zero_mul]
  | succ n ih =>
    intro hn
    obtain ⟨h1, h2⟩ := ih (by omega)
    have hdn := hd n (by omega)
    have key : ∀ j, mlN d e (n + 1) j = mlN d e n j + (match inRow n j with | true => d n * e (j - n) | false => 0) ∧ 0 ≤ mlN d e (n + 1) j ∧ mlN d e (n + 1) j ≤ (n + 1 : Nat) * 4294967296 := by
      intro j
      have hb := h1 j
      show mlX d e (mlN d e n) n j = _ ∧ 0 ≤ mlX d e (mlN d e n) n j ∧ mlX d e (mlN d e n) n j ≤ _
      unfold mlX
      cases hr : inRow n j with
      | true =>
        obtain ⟨r1, r2⟩ := inRow_true hr
        have hej := he (j - n) (by omega)
        have hp : 0 ≤ d n * e (j - n) ∧ d n * e (j - n) ≤ 65535 * 65535 := ⟨Int.mul_nonneg hdn.1 hej.1, Int.mul_le_mul (by omega) (by omega) hej.1 (by decide)⟩
        simp only
        generalize d n * e (j - n) = p at *
        rw [i64w_id (x := p) (by omega) (by omega), i64w_id (by omega) (by omega)]
        omega
      | false =>
        simp only
        omega
    refine ⟨fun j => (key j).2, ?_⟩
    have e1 : dn (mlN d e (n + 1)) 0 32 = dn (mlN d e n) 0 32 + dn (fun j => match inRow n j with | true => d n * e (j - n) | false => 0) 0 32 := dn_sum _ _ _ (fun j => (key j).1) 32 0
    have e2 : dn (fun j => match inRow n j with | true => d n * e (j - n) | false => (0 : Int)) 0 32 = 65536 ^ n * (d n * dn e 0 16) := by
      have s1 := dn_add (fun j => match inRow n j with | true => d n * e (j - n) | false => (0 : Int)) n (16 + (16 - n)) 0
      have s2 := dn_add (fun j => match inRow n j with | true => d n * e (j - n) | false => (0 : Int)) 16 (16 - n) (0 + n)
      rw [show n + (16 + (16 - n)) = 32 by omega] at s1
      have z1 : dn (fun j => match inRow n j with | true => d n * e (j - n) | false => (0 : Int)) 0 n = 0 := dn_zero n 0 fun k _ hk => by
        have : inRow n k = false := by
          cases hr : inRow n k with
          | false => rfl
          | true => have := inRow_true hr; omega
        simp only [this]
      have z2 : dn (fun j => match inRow n j with | true => d n * e (j - n) | false => (0 : Int)) (0 + n + 16) (16 - n) = 0 := dn_zero _ _ fun k hk _ => by
        have : inRow n k = false := by
          cases hr : inRow n k with
          | false => rfl
          | true => have := inRow_true hr; omega
        simp only [this]
      have z3 : dn (fun j => match inRow n j with | true => d n * e (j - n) | false => (0 : Int)) (0 + n) 16 = d n * dn e 0 16 := by
        have c1 := dn_scale e (d n) n 16 0
        rw [← c1, Nat.add_zero, Nat.zero_add]
        refine dn_congr fun k h3 h4 => ?_
        have : inRow n k = true := by
          cases hr : inRow n k with
          | true => rfl
          | false => exact absurd ⟨h3, h4⟩ (inRow_false hr)
        simp only [this]
      rw [s1, s2, z1, z2, z3, Int.mul_zero, Int.add_zero, Int.zero_add]
    rw [e1, h2, e2, dn_succ d n 0, Nat.zero_add]
    generalize (65536 : Int) ^ n = p
    generalize dn d 0 n = a
    generalize dn e 0 16 = b
    generalize d n = c
    grind
noncomputable def mulnF (a : List Value) : Bool × Value := (ifP (can (getD a 0) ∧ can (getD a 1)), vNum (NF (getD a 0) * NF (getD a 1)))
theorem muln_ev (e : Env) : evBody tab orcR1 [(37, .ok)] [] [(0, mlC (e.i 0) (e.i 1))] 1000 Try.f58 (bodyOf Try.f58) (mkA numS2 e 0) [] 0 [] (fun r => r = vNum (FI (dn (atI (cellsOf .i64 (mlN (e.i 0) (e.i 1) 16) 32 0)) 0 32))) =
    (Code.loop f58l = Code.loop f58l ∧ leS (mlT (e.i 0) (e.i 1) 0) (mlT (e.i 0) (e.i 1) 0) ∧ ifP (is50 (atI (cellsOf .i64 (mlN (e.i 0) (e.i 1) 16) 32 0)) 32) = true ∧
      vNum (FI (dn (atI (cellsOf .i64 (mlN (e.i 0) (e.i 1) 16) 32 0)) 0 32)) = vNum (FI (dn (atI (cellsOf .i64 (mlN (e.i 0) (e.i 1) 16) 32 0)) 0 32))) := by kernel_rfl
theorem isD_of_vN {f : Nat → Int} (h : isD (dOf (vN f))) : isD f := fun j hj => by
  have := h j hj
  rw [show dOf (vN f) j = f j from lim_vN hj] at this; exact this
theorem muln_ok : FoOk 58 (foOf numS2 mulnF) := fo_of' Try.func58 (c := bodyOf Try.f58) (by kernel_rfl) (by kernel_rfl) (fun e => okV_vNum _) fun e hc => by
  have h : can (vN (e.i 0)) ∧ can (vN (e.i 1)) := of_ifP hc
  show ∀ g, Ctr Try.prog 58 (mkA numS2 e 0) g (vNum (NF (vN (e.i 0)) * NF (vN (e.i 1))))
  have hd := isD_of_vN (can_isD h.1)
  have he := isD_of_vN (can_isD h.2)
  obtain ⟨v1, v2⟩ := mlN_val hd he 16 (Nat.le_refl _)
  have hA : ∀ j, j < 32 → atI (cellsOf .i64 (mlN (e.i 0) (e.i 1) 16) 32 0) j = mlN (e.i 0) (e.i 1) 16 j := fun j hj => by rw [atI_cells 32 0 j hj, Nat.zero_add]
  have hv : FI (dn (atI (cellsOf .i64 (mlN (e.i 0) (e.i 1) 16) 32 0)) 0 32) = NF (vN (e.i 0)) * NF (vN (e.i 1)) := by
    rw [dn_congr (g := mlN (e.i 0) (e.i 1) 16) fun j _ hj => hA j (by omega), v2, FI_mul]
    unfold NF
    rw [nI_vN, nI_vN]
  rw [← hv]
  exact fo_ctr orcR1_ok Try.func58 (by kernel_rfl) ids_mk (of_eq' (muln_ev e) ⟨rfl, mlPre_refl _ _ _ _, ifP_of (fun j hj => by
    rw [hA j hj]
    have := v1 j
    omega), rfl⟩) (ml_lo _ _)

/-! ## Bit -/
def bh (b : Int) : Nat → Int
  | 0 => b
  | n + 1 => i64w ((bh b n).tdiv 2)
def bitX (k : Value) (i : Nat) : Int := (bh (i64w (lim k (i / 8))) (i % 8)).tmod 2
def bitS : List Sh := [.arr .u8 32, .int .i64]
def bitW (f : Nat → Int) (i : Nat) : Prop := Value.int .i64 (bitX (vK f) i) = .int .i64 (bitX (vK f) i)
theorem bit_ev0 (f : Nat → Int) : List.map (fun i => evBody tab orc0 [] [] [] 1000 Try.f99 (bodyOf Try.f99) [vK f, .int .i64 (.ofNat i)] [] 0 [] (fun r => r = .int .i64 (bitX (vK f) i))) (runN 0 128) = mapL (bitW f) (runN 0 128) := by kernel_rfl
theorem bit_ev1 (f : Nat → Int) : List.map (fun i => evBody tab orc0 [] [] [] 1000 Try.f99 (bodyOf Try.f99) [vK f, .int .i64 (.ofNat i)] [] 0 [] (fun r => r = .int .i64 (bitX (vK f) i))) (runN 128 128) = mapL (bitW f) (runN 128 128) := by kernel_rfl
def bitV (k : Value) (i : Int) : Int := numK (dOf k) / 2 ^ i.toNat % 2
noncomputable def bitF (a : List Value) : Bool × Value := (ifP (isK (dOf (getD a 0)) ∧ 0 ≤ intV (getD a 1) ∧ intV (getD a 1) < 256), .int .i64 (bitV (getD a 0) (intV (getD a 1))))
theorem bh_val {b : Int} (h0 : 0 ≤ b) (h1 : b < 9223372036854775808) : ∀ n, bh b n = b / 2 ^ n ∧ 0 ≤ bh b n ∧ bh b n < 9223372036854775808 := by
  intro n
  induction n with
  | zero => exact ⟨by simp [bh], h0, h1⟩
  | succ n ih =>
    obtain ⟨i1, i2, i3⟩ := ih
    have e : bh b (n + 1) = bh b n / 2 := by
      show i64w ((bh b n).tdiv 2) = _
      rw [Int.tdiv_eq_ediv_of_nonneg i2, i64w_id (by omega) (by omega)]
    refine ⟨?_, by rw [e]; omega, by rw [e]; omega⟩
    rw [e, i1, Int.pow_succ, Int.ediv_ediv_of_nonneg (Int.le_of_lt (Int.pow_pos (by decide)))]
theorem bit_ok : FoOk 99 (foOf bitS bitF) := fo_of' Try.func99 (c := bodyOf Try.f99) (by kernel_rfl) (by kernel_rfl) (fun e => by rfl) fun e hc => by
  have h : isK (dOf (vK (e.i 0))) ∧ 0 ≤ e.i 1 0 ∧ e.i 1 0 < 256 := of_ifP hc
  show ∀ g, Ctr Try.prog 99 [vK (e.i 0), .int .i64 (e.i 1 0)] g (.int .i64 (bitV (vK (e.i 0)) (e.i 1 0)))
  generalize e.i 1 0 = i at *
  generalize e.i 0 = f at *
  obtain ⟨hk, h0, h1⟩ := h
  obtain ⟨n, rfl⟩ := Int.eq_ofNat_of_zero_le h0
  have hf : isK f := fun j hj => by
    have := hk j hj
    rw [show dOf (vK f) j = f j from lim_vK hj] at this; exact this
  have hn : n < 256 := by omega
  have hv : bitX (vK f) n = bitV (vK f) (n : Int) := by
    obtain ⟨m1, m2, m3⟩ := kb_val hf hn
    have hb := hf (n / 8) (by omega)
    have e1 : kb (vK f) n = lim (vK f) (n / 8) / 2 ^ (n % 8) := by
      unfold kb
      rw [Int.fdiv_eq_ediv_of_nonneg _ (Int.le_of_lt (Int.pow_pos (by decide)))]
      have hl : lim (vK f) (n / 8) = f (n / 8) := lim_vK (by omega)
      have hdle : lim (vK f) (n / 8) / 2 ^ (n % 8) ≤ lim (vK f) (n / 8) := Int.ediv_le_self _ (by rw [hl]; exact hb.1)
      have hd0 : 0 ≤ lim (vK f) (n / 8) / 2 ^ (n % 8) := Int.ediv_nonneg (by rw [hl]; exact hb.1) (Int.le_of_lt (Int.pow_pos (by decide)))
      have := hb.2
      rw [wrap_i64_id hd0 (by rw [hl] at hdle ⊢; omega)]
    have hl : lim (vK f) (n / 8) = f (n / 8) := lim_vK (by omega)
    have hb' : i64w (lim (vK f) (n / 8)) = lim (vK f) (n / 8) := i64w_id (by rw [hl]; have := hb.1; omega) (by rw [hl]; have := hb.2; omega)
    obtain ⟨q1, q2, q3⟩ := bh_val (b := lim (vK f) (n / 8)) (by rw [hl]; exact hb.1) (by rw [hl]; have := hb.2; omega) (n % 8)
    unfold bitX bitV
    rw [hb', Int.tmod_eq_emod_of_nonneg q2, q1, ← e1, m1]
    have : numK (dOf (vK f)) = numK f := hn_congr fun j _ hj => lim_vK (by omega)
    rw [this]
    rfl
  rw [← hv]
  rcases Nat.lt_or_ge n 128 with h' | h'
  · exact fo_ctr orc0_ok Try.func99 (by kernel_rfl) rfl (of_eq' (mapL_eq (bit_ev0 f) n (mem_runN (by omega) (by omega))) rfl)
  · exact fo_ctr orc0_ok Try.func99 (by kernel_rfl) rfl (of_eq' (mapL_eq (bit_ev1 f) n (mem_runN (by omega) (by omega))) rfl)

/-! ## Power, Invert -/
noncomputable def orcT0 : Orc := oadd (oadd (oadd orcR1 42 (foOf smallS smallnF)) 58 (foOf numS2 mulnF)) 99 (foOf bitS bitF)
theorem orcT0_ok : OrcOk Try.prog orcT0 := oadd_ok (oadd_ok (oadd_ok orcR1_ok smalln_ok) muln_ok) bit_ok
noncomputable def f67l : Code := inB (blockIn 0 (bodyOf Try.f67))
def pqPre (k : Value) (a o : F) (c : Int) : AS := ⟨tmps [(2, ptr 0), (3, ptr 1), (4, ptr 2), (5, ptr 4), (6, .int .i64 c)] 23 0,
  [(0, ⟨cellsV (vNum a), 45, true, 0⟩), (1, ⟨cellsV k, 22, true, 0⟩), (2, ⟨zrep 16 (.int .i64 0), 45, true, 0⟩), (4, ⟨cellsV (vNum o), 45, true, 0⟩)], 200⟩
noncomputable def pqA (a : F) : F := NF (vNum a) * NF (vNum a)
theorem pq_one (φ : Nat → Int) (a o : F) (c : Int) : evC tab orcT0 [(14, .ok), (18, .ok), (21, .ok)] [9, 15] [] 100 f67l (fun x _ s' => match x with | .normal => leS (pqPre (vK φ) (pqA a) (NF (vNum o) * NF (vNum a)) (i64w (c + 1))) s' | _ => False) [true, true] (pqPre (vK φ) a o c) =
    (decide (c < 256) = true ∧ ifP (isK (dOf (vK φ)) ∧ 0 ≤ c ∧ c < 256) = true ∧ (bitV (vK φ) c == 1) = true ∧ ifP (can (vNum o) ∧ can (vNum a)) = true ∧ ifP (can (vNum a) ∧ can (vNum a)) = true ∧
      leS (pqPre (vK φ) (pqA a) (NF (vNum o) * NF (vNum a)) (i64w (c + 1))) (pqPre (vK φ) (pqA a) (NF (vNum o) * NF (vNum a)) (i64w (c + 1)))) := by kernel_rfl
theorem pq_zero (φ : Nat → Int) (a o : F) (c : Int) : evC tab orcT0 [(14, .ok), (18, .ok), (21, .ok)] [9, 15] [] 100 f67l (fun x _ s' => match x with | .normal => leS (pqPre (vK φ) (pqA a) o (i64w (c + 1))) s' | _ => False) [true, false] (pqPre (vK φ) a o c) =
    (decide (c < 256) = true ∧ ifP (isK (dOf (vK φ)) ∧ 0 ≤ c ∧ c < 256) = true ∧ (bitV (vK φ) c == 1) = false ∧ ifP (can (vNum a) ∧ can (vNum a)) = true ∧
      leS (pqPre (vK φ) (pqA a) o (i64w (c + 1))) (pqPre (vK φ) (pqA a) o (i64w (c + 1)))) := by kernel_rfl
theorem pq_last (φ : Nat → Int) (a o : F) (c : Int) : evC tab orcT0 [(14, .ok), (18, .ok), (21, .ok)] [9, 15] [] 100 f67l (fun x _ s' => match x with | .exit j => (match Nat.beq j 0 with | true => leS (pqPre (vK φ) a o c) s' | false => False) | _ => False) [false] (pqPre (vK φ) a o c) =
    (decide (c < 256) = false ∧ leS (pqPre (vK φ) a o c) (pqPre (vK φ) a o c)) := by kernel_rfl
theorem pqPre_refl (k : Value) (a o : F) (c : Int) : leS (pqPre k a o c) (pqPre k a o c) := ⟨leT_refl _, rfl, rfl, rfl, rfl, trivial⟩
theorem pqPre_low (k : Value) (a o : F) (c : Int) : low (pqPre k a o c) = true := by kernel_rfl
structure PQ where
  a : F
  o : F
noncomputable def pqN (φ : Nat → Int) (a : F) : Nat → PQ
  | 0 => ⟨a, FI 1⟩
  | n + 1 => ⟨(pqN φ a n).a * (pqN φ a n).a, if bitV (vK φ) (n : Int) = 1 then (pqN φ a n).o * (pqN φ a n).a else (pqN φ a n).o⟩
noncomputable def pqT (φ : Nat → Int) (a : F) (n : Nat) : AS := pqPre (vK φ) (pqN φ a n).a (pqN φ a n).o (.ofNat n)
noncomputable def pqC (φ : Nat → Int) (a : F) : LoopC := ⟨.loop f67l, pqT φ a 0, .normal, pqT φ a 256⟩
theorem cnt_next {n : Nat} (h : n < 1000000) : i64w (Int.ofNat n + 1) = Int.ofNat (n + 1) := by
  show i64w ((n : Int) + 1) = ((n + 1 : Nat) : Int)
  rw [i64w_id (by omega) (by omega)]; omega
theorem pq_lo {φ : Nat → Int} (hφ : isK (dOf (vK φ))) (a : F) : LoOk Try.prog [(0, pqC φ a)] := by
  refine lo_cnt (sy := [(14, .ok), (18, .ok), (21, .ok)]) (br := [9, 15]) orcT0_ok loOk_nil (pqT φ a) 256 (fun _ => pqPre_low _ _ _ _) (fun n hn => ?_) ⟨[false], 100, of_eq' (pq_last φ _ _ _) ⟨rfl, pqPre_refl _ _ _ _⟩⟩
  have hc : decide ((Int.ofNat n) < 256) = true := decide_eq_true (by show (n : Int) < 256; omega)
  have hr : isK (dOf (vK φ)) ∧ 0 ≤ Int.ofNat n ∧ Int.ofNat n < 256 := ⟨hφ, by show 0 ≤ (n : Int); omega, by show (n : Int) < 256; omega⟩
  by_cases hb : bitV (vK φ) (n : Int) = 1
  · refine ⟨[true, true], 100, ?_⟩
    have h := pq_one φ (pqN φ a n).a (pqN φ a n).o (Int.ofNat n)
    unfold pqA at h
    rw [NF_vNum, NF_vNum, cnt_next (by omega)] at h
    have e : pqT φ a (n + 1) = pqPre (vK φ) ((pqN φ a n).a * (pqN φ a n).a) ((pqN φ a n).o * (pqN φ a n).a) (.ofNat (n + 1)) := by
      have e1 : (pqN φ a (n + 1)).a = (pqN φ a n).a * (pqN φ a n).a := rfl
      have e2 : (pqN φ a (n + 1)).o = (pqN φ a n).o * (pqN φ a n).a := if_pos hb
      unfold pqT
      rw [e1, e2]
    rw [e]
    exact of_eq' h ⟨hc, ifP_of hr, beq_iff_eq.2 hb, ifP_of ⟨can_vNum _, can_vNum _⟩, ifP_of ⟨can_vNum _, can_vNum _⟩, pqPre_refl _ _ _ _⟩
  · refine ⟨[true, false], 100, ?_⟩
    have h := pq_zero φ (pqN φ a n).a (pqN φ a n).o (Int.ofNat n)
    unfold pqA at h
    rw [NF_vNum, cnt_next (by omega)] at h
    have e : pqT φ a (n + 1) = pqPre (vK φ) ((pqN φ a n).a * (pqN φ a n).a) (pqN φ a n).o (.ofNat (n + 1)) := by
      have e1 : (pqN φ a (n + 1)).a = (pqN φ a n).a * (pqN φ a n).a := rfl
      have e2 : (pqN φ a (n + 1)).o = (pqN φ a n).o := if_neg hb
      unfold pqT
      rw [e1, e2]
    rw [e]
    exact of_eq' h ⟨hc, ifP_of hr, by rw [beq_eq_false_iff_ne]; exact hb, ifP_of ⟨can_vNum _, can_vNum _⟩, pqPre_refl _ _ _ _⟩
theorem pqN_val {φ : Nat → Int} (hφ : isK φ) (a : F) : ∀ n, (pqN φ a n).a = pw a (2 ^ n) ∧ (pqN φ a n).o = pw a ((numK φ).toNat % 2 ^ n) := by
  obtain ⟨k0, k1⟩ := numK_nonneg hφ
  have hN : numK (dOf (vK φ)) = numK φ := hn_congr fun j _ hj => lim_vK (by omega)
  intro n
  induction n with
  | zero => exact ⟨by rw [Nat.pow_zero, Sap.pw_one]; rfl, by rw [Nat.pow_zero, Nat.mod_one, Sap.pw_zero]; rfl⟩
  | succ n ih =>
    obtain ⟨h1, h2⟩ := ih
    refine ⟨?_, ?_⟩
    · show (pqN φ a n).a * (pqN φ a n).a = _
      rw [h1, ← Sap.pw_add, Nat.pow_succ, Nat.mul_two]
    · show (if bitV (vK φ) (n : Int) = 1 then (pqN φ a n).o * (pqN φ a n).a else (pqN φ a n).o) = _
      have hb : bitV (vK φ) (n : Int) = (((numK φ).toNat / 2 ^ n % 2 : Nat) : Int) := by
        unfold bitV
        rw [hN]
        show numK φ / 2 ^ n % 2 = _
        have := toNat_div k0 n
        rw [this]
        have : 0 ≤ numK φ / 2 ^ n % 2 := Int.emod_nonneg _ (by decide)
        omega
      rw [hb, h1, h2]
      have hm : (numK φ).toNat % 2 ^ (n + 1) = (numK φ).toNat % 2 ^ n + 2 ^ n * ((numK φ).toNat / 2 ^ n % 2) := by rw [Nat.pow_succ, Nat.mod_mul]
      rw [hm]
      rcases (by omega : (numK φ).toNat / 2 ^ n % 2 = 0 ∨ (numK φ).toNat / 2 ^ n % 2 = 1) with h | h
      · rw [h, if_neg (by decide), Nat.mul_zero, Nat.add_zero]
      · rw [h, if_pos (by decide), Nat.mul_one, Sap.pw_add]
def pqS : List Sh := [.arr .i64 16, .arr .u8 32]
noncomputable def pqF (a : List Value) : Bool × Value := (ifP (can (getD a 0) ∧ isK (dOf (getD a 1))), vNum (pw (NF (getD a 0)) (numK (dOf (getD a 1))).toNat))
theorem pqr_ev (φ : Nat → Int) (a : F) : evBody tab orcT0 [(7, .ok)] [] [(0, pqC φ a)] 1000 Try.f67 (bodyOf Try.f67) [vNum a, vK φ] [] 0 [] (fun r => r = vNum (pqN φ a 256).o) =
    (ifP ((0 : Int) ≤ 1 ∧ (1 : Int) < 4294967296) = true ∧ Code.loop f67l = Code.loop f67l ∧ leS (pqT φ a 0) (pqT φ a 0) ∧ vNum (pqN φ a 256).o = vNum (pqN φ a 256).o) := by kernel_rfl
theorem pqr_ok : FoOk 67 (foOf pqS pqF) := fo_of' Try.func67 (c := bodyOf Try.f67) (by kernel_rfl) (by kernel_rfl) (fun e => okV_vNum _) fun e hc => by
  have h : can (vN (e.i 0)) ∧ isK (dOf (vK (e.i 1))) := of_ifP hc
  show ∀ g, Ctr Try.prog 67 [vN (e.i 0), vK (e.i 1)] g (vNum (pw (NF (vN (e.i 0))) (numK (dOf (vK (e.i 1)))).toNat))
  generalize e.i 1 = φ at *
  generalize vN (e.i 0) = x at *
  obtain ⟨hx, hk⟩ := h
  have hφ : isK φ := fun j hj => by
    have := hk j hj
    rw [show dOf (vK φ) j = φ j from lim_vK hj] at this; exact this
  have hN : numK (dOf (vK φ)) = numK φ := hn_congr fun j _ hj => lim_vK (by omega)
  have hv := (pqN_val hφ (NF x) 256).2
  rw [Nat.mod_eq_of_lt (numK_nonneg hφ).2] at hv
  rw [hN, ← hv]
  have e1 : [x, vK φ] = [vNum (NF x), vK φ] := by rw [← hx]
  rw [e1]
  exact fo_ctr orcT0_ok Try.func67 (by kernel_rfl) rfl (of_eq' (pqr_ev φ (NF x)) ⟨ifP_of ⟨by decide, by decide⟩, rfl, pqPre_refl _ _ _ _, rfl⟩) (pq_lo hk _)
def l2F (_ : List Value) : Bool × Value := (true, vK (pK 235))
theorem l2_ev (e : Env) : evBody tab orc0 [] [] [] 1000 Try.f100 (bodyOf Try.f100) (mkA [] e 0) [] 0 [] (fun r => r = vK (pK 235)) = (vK (pK 235) = vK (pK 235)) := by kernel_rfl
theorem l2_ok : FoOk 100 (foOf [] l2F) := fo_of' Try.func100 (c := bodyOf Try.f100) (by kernel_rfl) (by kernel_rfl) (fun e => by rfl) fun e _ => fo_ctr orc0_ok Try.func100 (by kernel_rfl) ids_mk (of_eq' (l2_ev e) rfl)
noncomputable def orcT1 : Orc := oadd (oadd orcT0 67 (foOf pqS pqF)) 100 (foOf [] l2F)
theorem orcT1_ok : OrcOk Try.prog orcT1 := oadd_ok (oadd_ok orcT0_ok pqr_ok) l2_ok
noncomputable def invnF (a : List Value) : Bool × Value := (ifP (can (getD a 0)), vNum (Sap.inv (NF (getD a 0))))
theorem invn_ev (e : Env) : evBody tab orcT1 [(5, .ok)] [] [] 1000 Try.f68 (bodyOf Try.f68) (mkA numS1 e 0) [] 0 [] (fun r => r = vNum (pw (NF (a0 e numS1 0)) (numK (dOf (vK (pK 235)))).toNat)) =
    (ifP (can (a0 e numS1 0) ∧ isK (dOf (vK (pK 235)))) = true ∧ vNum (pw (NF (a0 e numS1 0)) (numK (dOf (vK (pK 235)))).toNat) = vNum (pw (NF (a0 e numS1 0)) (numK (dOf (vK (pK 235)))).toNat)) := by kernel_rfl
theorem l2_num : (numK (dOf (vK (pK 235)))).toNat = P - 2 := by
  have : numK (dOf (vK (pK 235))) = numK (pK 235) := hn_congr fun j _ hj => lim_vK (by omega)
  rw [this]
  decide +kernel
theorem isK_l2 : isK (dOf (vK (pK 235))) := fun j hj => by
  show isB (lim (vK (pK 235)) j)
  rw [lim_vK hj]
  exact isK_pK (b := 235) ⟨by decide, by decide⟩ j hj
theorem invn_ok : FoOk 68 (foOf numS1 invnF) := fo_of' Try.func68 (c := bodyOf Try.f68) (by kernel_rfl) (by kernel_rfl) (fun e => okV_vNum _) fun e hc => by
  have h : can (a0 e numS1 0) := of_ifP hc
  show ∀ g, Ctr Try.prog 68 (mkA numS1 e 0) g (vNum (Sap.inv (NF (a0 e numS1 0))))
  have hv : pw (NF (a0 e numS1 0)) (numK (dOf (vK (pK 235)))).toNat = Sap.inv (NF (a0 e numS1 0)) := by rw [l2_num]; rfl
  rw [← hv]
  exact fo_ctr orcT1_ok Try.func68 (by kernel_rfl) ids_mk (of_eq' (invn_ev e) ⟨ifP_of ⟨h, isK_l2⟩, rfl⟩)
end Go.Proofs.Ythgefjgbkhkmgaa.Ev
