/-
  The document's numbers: sixteen digits, in plain words; prime, less, minus walked.
-/
import Derived.Test.YthgefjgbkhkmgaaKeyE
namespace Go.Proofs.Ythgefjgbkhkmgaa.Ev
open Go Go.RowKit
open Sap (F P toF)
attribute [local irreducible] evC evBody

/-- a condition as a truth value; nothing reckons it -/
noncomputable def ifP (p : Prop) : Bool := @decide p (Classical.propDecidable p)
theorem ifP_of {p : Prop} (h : p) : ifP p = true := by unfold ifP; exact @decide_eq_true p (Classical.propDecidable p) h
theorem of_ifP {p : Prop} (h : ifP p = true) : p := by unfold ifP at h; exact @of_decide_eq_true p (Classical.propDecidable p) h

/-- digits as a number, the lowest first -/
def dn (f : Nat → Int) : Nat → Nat → Int
  | _, 0 => 0
  | j, n + 1 => f j + 65536 * dn f (j + 1) n
theorem dn_step (f : Nat → Int) (j n : Nat) : dn f j (n + 1) = f j + 65536 * dn f (j + 1) n := rfl
def numD (n : Nat) : Nat → Int := fun j => ((n / 65536 ^ j % 65536 : Nat) : Int)
def isD (f : Nat → Int) : Prop := ∀ j, j < 16 → 0 ≤ f j ∧ f j < 65536
def dOf (x : Value) : Nat → Int := fun j => lim x j
def nI (x : Value) : Int := dn (dOf x) 0 16
/-- a digit turned -/
def fset (f : Nat → Int) (i : Nat) (v : Int) : Nat → Int := fun j => match Nat.beq j i with
  | true => v
  | false => f j
theorem fset_same (f : Nat → Int) (i : Nat) (v : Int) : fset f i v i = v := by unfold fset; rw [Nat.beq_refl]
theorem fset_other (f : Nat → Int) {i j : Nat} (v : Int) (h : j ≠ i) : fset f i v j = f j := by
  unfold fset
  split
  · rename_i hb; exact absurd (Nat.eq_of_beq_eq_true hb) h
  · rfl

theorem p16_succ (n : Nat) : (65536 : Int) ^ (n + 1) = 65536 * 65536 ^ n := by rw [Int.pow_succ, Int.mul_comm]
theorem p16_pos (n : Nat) : (0 : Int) < 65536 ^ n := Int.pow_pos (by decide)
theorem p16_16 : (65536 : Int) ^ 16 = 115792089237316195423570985008687907853269984665640564039457584007913129639936 := by decide
theorem dn_range {f : Nat → Int} : ∀ (n j : Nat), (∀ i, j ≤ i → i < j + n → 0 ≤ f i ∧ f i < 65536) → 0 ≤ dn f j n ∧ dn f j n < 65536 ^ n := by
  intro n
  induction n with
  | zero => intro j _; exact ⟨Int.le_refl 0, by show (0 : Int) < 1; decide⟩
  | succ n ih =>
    intro j h
    obtain ⟨h1, h2⟩ := ih (j + 1) fun i hi hj => h i (by omega) (by omega)
    obtain ⟨b1, b2⟩ := h j (by omega) (by omega)
    simp only [dn]
    rw [p16_succ]
    generalize (65536 : Int) ^ n = p at *
    omega
theorem dn_congr {f g : Nat → Int} : ∀ {n i : Nat}, (∀ j, i ≤ j → j < i + n → f j = g j) → dn f i n = dn g i n := by
  intro n
  induction n with
  | zero => intros; rfl
  | succ n ih =>
    intro i h
    simp only [dn]
    rw [h i (by omega) (by omega), ih fun j h1 h2 => h j (by omega) (by omega)]
theorem dn_add (f : Nat → Int) : ∀ (m n j : Nat), dn f j (m + n) = dn f j m + 65536 ^ m * dn f (j + m) n := by
  intro m
  induction m with
  | zero => intro n j; simp [dn]
  | succ m ih =>
    intro n j
    rw [show m + 1 + n = m + n + 1 by omega]
    simp only [dn]
    rw [ih n (j + 1), p16_succ, show j + 1 + m = j + (m + 1) by omega]
    generalize (65536 : Int) ^ m = p
    generalize dn f (j + 1) m = a
    generalize dn f (j + (m + 1)) n = b
    grind
theorem dn_succ (f : Nat → Int) (n j : Nat) : dn f j (n + 1) = dn f j n + 65536 ^ n * f (j + n) := by
  rw [dn_add f n 1 j]
  simp [dn]
theorem dn_digits (m : Nat) : ∀ (n j : Nat), dn (numD m) j n = ((m / 65536 ^ j % 65536 ^ n : Nat) : Int) := by
  intro n
  induction n with
  | zero => intro j; simp [dn, Nat.mod_one]
  | succ n ih =>
    intro j
    simp only [dn]
    rw [ih (j + 1)]
    have e1 : 65536 ^ (n + 1) = 65536 * 65536 ^ n := by rw [Nat.pow_succ, Nat.mul_comm]
    have e2 : m / 65536 ^ (j + 1) = m / 65536 ^ j / 65536 := by rw [Nat.pow_succ, Nat.div_div_eq_div_mul]
    rw [e1, Nat.mod_mul, e2]
    unfold numD
    omega
theorem isD_num (n : Nat) : isD (numD n) := fun j _ => by unfold numD; omega
/-- digits are those of their number -/
theorem digit_of {f : Nat → Int} (hf : isD f) {j : Nat} (hj : j < 16) : f j = numD (dn f 0 16).toNat j := by
  have h := dn_add f j (16 - j) 0
  rw [show j + (16 - j) = 16 by omega, Nat.zero_add, show 16 - j = (15 - j) + 1 by omega, dn_step f j (15 - j)] at h
  obtain ⟨a0, a1⟩ := dn_range (f := f) j 0 fun i _ hi => hf i (by omega)
  obtain ⟨b0, b1⟩ := hf j hj
  obtain ⟨c0, c1⟩ := dn_range (f := f) (15 - j) (j + 1) fun i _ hi => hf i (by omega)
  obtain ⟨d0, d1⟩ := dn_range (f := f) 16 0 fun i _ hi => hf i (by omega)
  unfold numD
  generalize dn f 0 16 = N at *
  generalize dn f (j + 1) (15 - j) = r at *
  have hN : ((N.toNat / 65536 ^ j % 65536 : Nat) : Int) = N / 65536 ^ j % 65536 := by
    obtain ⟨m, rfl⟩ := Int.eq_ofNat_of_zero_le d0
    simp
  rw [hN, h, Int.add_mul_ediv_left _ _ (Int.ne_of_gt (p16_pos j)), Int.ediv_eq_zero_of_lt a0 a1]
  omega
theorem cells_congr {k : IntKind} {f g : Nat → Int} : ∀ {n i : Nat}, (∀ j, i ≤ j → j < i + n → f j = g j) → cellsOf k f n i = cellsOf k g n i := by
  intro n
  induction n with
  | zero => intros; rfl
  | succ n ih =>
    intro i h
    simp only [cellsOf]
    rw [h i (by omega) (by omega), ih fun j h1 h2 => h j (by omega) (by omega)]
theorem vN_congr {f g : Nat → Int} (h : ∀ j, j < 16 → f j = g j) : vN f = vN g := by
  show Value.agg _ = Value.agg _
  rw [cells_congr fun j _ hj => h j (by omega)]
theorem vN_of {f : Nat → Int} (hf : isD f) : vN f = vN (numD (dn f 0 16).toNat) := vN_congr fun _ hj => digit_of hf hj
theorem lim_vN {f : Nat → Int} {j : Nat} (h : j < 16) : lim (vN f) j = f j := lim_arr h
theorem nI_vN (f : Nat → Int) : nI (vN f) = dn f 0 16 := dn_congr fun j _ hj => lim_vN (by omega)
theorem isD_vN {f : Nat → Int} (hf : isD f) : isD (dOf (vN f)) := fun j hj => by
  show 0 ≤ lim (vN f) j ∧ lim (vN f) j < 65536
  rw [lim_vN hj]; exact hf j hj
theorem nI_num {n : Nat} (h : n < 115792089237316195423570985008687907853269984665640564039457584007913129639936) : nI (vN (numD n)) = n := by
  rw [nI_vN, dn_digits n 16 0]
  have e : (65536 : Nat) ^ 16 = 115792089237316195423570985008687907853269984665640564039457584007913129639936 := by decide
  rw [e, Nat.pow_zero, Nat.div_one, Nat.mod_eq_of_lt h]

/-! ## Numbers of the field -/
/-- the row of a number of the field -/
def vNum (a : F) : Value := vN (numD a.val)
def NF (x : Value) : F := FI (nI x)
/-- a row as it must be -/
def can (x : Value) : Prop := x = vNum (NF x)
theorem NF_vNum (a : F) : NF (vNum a) = a := by
  have h : a.val < P := a.isLt
  have h1 : P = 57896044618658097711785492504343953926634992332820282019728792003956564819949 := rfl
  unfold NF vNum
  rw [nI_num (by omega), FI_nat, Sap.toF_self]
theorem can_vNum (a : F) : can (vNum a) := by unfold can; rw [NF_vNum]
theorem vNum_inj {a b : F} (h : vNum a = vNum b) : a = b := by rw [← NF_vNum a, h, NF_vNum]
theorem can_isD {x : Value} (h : can x) : isD (dOf x) := by rw [h]; exact isD_vN (isD_num _)
theorem can_nI {x : Value} (h : can x) : nI x = ((NF x).val : Int) := by
  have h2 : (NF x).val < P := (NF x).isLt
  have h1 : P = 57896044618658097711785492504343953926634992332820282019728792003956564819949 := rfl
  conv => lhs; rw [h]
  unfold vNum
  rw [nI_num (by omega)]

/-- a loop of so many rounds, with contracts of loops in it -/
theorem lo_cnt {orc : Orc} {sy : Sy} {br : List Nat} {lo : Lo} (hO : OrcOk Try.prog orc) (hL : LoOk Try.prog lo) {id : Nat} {b : Code} (T : Nat → AS) (m : Nat) (hlow : ∀ n, low (T n) = true)
    (round : ∀ n, n < m → ∃ sc fuel, evC tab orc sy br lo fuel b (fun e _ s' => match e with | .normal => leS (T (n + 1)) s' | _ => False) sc (T n))
    (last : ∃ sc fuel, evC tab orc sy br lo fuel b (fun e _ s' => match e with | .exit j => (match Nat.beq j id with | true => leS (T m) s' | false => False) | _ => False) sc (T m)) :
    LoOk Try.prog [(id, ⟨.loop b, T 0, .normal, T m⟩)] := by
  intro id' L h
  simp only [loGet] at h
  split at h
  · rename_i hid
    have := Nat.eq_of_beq_eq_true hid
    subst this
    cases h
    refine ⟨hlow _, hlow _, ?_⟩
    let S : {n : Nat // n ≤ m} → AS := fun n => T n.1
    have := lo_of (id := id) (b := b) (ex := .normal) (post := T m) S (fun n => m - n.1) (x := ⟨0, Nat.zero_le _⟩) (fun _ => hlow _) ?_
    · exact this
    · rintro ⟨n, hn⟩
      rcases Nat.lt_or_ge n m with hlt | hge
      · obtain ⟨sc, fuel, hr⟩ := round n hlt
        refine (tri_ev hO hL hr).mono ?_
        intro e s' h
        cases e with
        | normal => exact ⟨⟨n + 1, hlt⟩, by show m - (n + 1) < m - n; omega, h⟩
        | _ => exact h.elim
      · have hn' : n = m := by omega
        subst hn'
        obtain ⟨sc, fuel, hl⟩ := last
        refine (tri_ev hO hL hl).mono ?_
        intro e s' h
        cases e with
        | exit j =>
          simp only at h ⊢
          split at h
          · rename_i hj
            have := Nat.eq_of_beq_eq_true hj
            subst this
            exact ⟨by simp, h⟩
          · exact h.elim
        | _ => exact h.elim
  · cases h

/-! ## prime -/
def pN : Value := vN (numD P)
def primeF (_ : List Value) : Bool × Value := (true, pN)
theorem prime_ev (e : Env) : evBody tab orc0 [] [] [] 1000 Try.f93 (bodyOf Try.f93) (mkA [] e 0) [] 0 [] (fun r => r = (primeF (mkA [] e 0)).2) = (pN = pN) := by kernel_rfl
theorem prime_ok : FoOk 93 (foOf [] primeF) := fo_of orc0_ok Try.func93 (by kernel_rfl) (by kernel_rfl) (fun e => by kernel_rfl) fun e _ => ⟨[], of_eq' (prime_ev e) rfl⟩

/-! ## less -/
def numS2 : List Sh := [.arr .i64 16, .arr .i64 16]
def falses : Nat → List Bool
  | 0 => []
  | n + 1 => false :: falses n
/-- which way the run goes: the first digit that differs is the q-th (16: none) -/
def lessSc (q : Nat) : List Bool := match Nat.ble 16 q with
  | true => falses 16
  | false => falses (15 - q) ++ [true]
def lessRes (x y : Value) (q : Nat) : Value := match Nat.ble 16 q with
  | true => .bool false
  | false => .bool (decide (lim x q < lim y q))
def lessW (x y : Value) (q : Nat) : Nat → Prop
  | 0 => match Nat.beq 0 q with
    | true => (lim x 0 != lim y 0) = true ∧ Value.bool (decide (lim x 0 < lim y 0)) = .bool (decide (lim x 0 < lim y 0))
    | false => (lim x 0 != lim y 0) = false ∧ Value.bool false = .bool false
  | i + 1 => match Nat.beq (i + 1) q with
    | true => (lim x (i + 1) != lim y (i + 1)) = true ∧ Value.bool (decide (lim x (i + 1) < lim y (i + 1))) = .bool (decide (lim x (i + 1) < lim y (i + 1)))
    | false => (lim x (i + 1) != lim y (i + 1)) = false ∧ lessW x y q i
theorem less_ev (e : Env) : List.map (fun q => evBody tab orc0 [] [16] [] 1000 Try.f91 (bodyOf Try.f91) (mkA numS2 e 0) [] 0 (lessSc q) (fun r => r = lessRes (a0 e numS2 0) (a0 e numS2 1) q)) (runN 0 17) =
    mapL (fun q => lessW (a0 e numS2 0) (a0 e numS2 1) q 15) (runN 0 17) := by kernel_rfl
noncomputable def lessF (a : List Value) : Bool × Value := (ifP (isD (dOf (getD a 0)) ∧ isD (dOf (getD a 1))), .bool (decide (nI (getD a 0) < nI (getD a 1))))
theorem lessW_diff {x y : Value} {q : Nat} (hq : lim x q ≠ lim y q) : ∀ i, q ≤ i → (∀ j, q < j → j ≤ i → lim x j = lim y j) → lessW x y q i := by
  intro i
  induction i with
  | zero =>
    intro h1 _
    have : q = 0 := by omega
    subst this
    exact ⟨bne_iff_ne.2 hq, rfl⟩
  | succ i ih =>
    intro h1 h2
    unfold lessW
    split
    · rename_i hb
      have := Nat.eq_of_beq_eq_true hb
      subst this
      exact ⟨bne_iff_ne.2 hq, rfl⟩
    · rename_i hb
      have hne : i + 1 ≠ q := fun e => by rw [e, Nat.beq_refl] at hb; cases hb
      exact ⟨by rw [h2 (i + 1) (by omega) (Nat.le_refl _)]; simp, ih (by omega) fun j hj hj2 => h2 j hj (by omega)⟩
theorem lessW_eq {x y : Value} {q : Nat} : ∀ i, i < q → (∀ j, j ≤ i → lim x j = lim y j) → lessW x y q i := by
  intro i
  induction i with
  | zero =>
    intro h1 h2
    unfold lessW
    split
    · rename_i hb; have := Nat.eq_of_beq_eq_true hb; omega
    · exact ⟨by rw [h2 0 (Nat.le_refl 0)]; simp, rfl⟩
  | succ i ih =>
    intro h1 h2
    unfold lessW
    split
    · rename_i hb; have := Nat.eq_of_beq_eq_true hb; omega
    · exact ⟨by rw [h2 (i + 1) (Nat.le_refl _)]; simp, ih (by omega) fun j hj => h2 j (by omega)⟩
theorem first_diff (f g : Nat → Int) : ∀ n, (∀ j, j < n → f j = g j) ∨ ∃ q, q < n ∧ f q ≠ g q ∧ ∀ j, q < j → j < n → f j = g j := by
  intro n
  induction n with
  | zero => exact Or.inl fun j hj => by omega
  | succ n ih =>
    by_cases h : f n = g n
    · rcases ih with h1 | ⟨q, h1, h2, h3⟩
      · refine Or.inl fun j hj => ?_
        rcases Nat.lt_or_ge j n with h' | h'
        · exact h1 j h'
        · have : j = n := by omega
          subst this; exact h
      · refine Or.inr ⟨q, by omega, h2, fun j hj hj2 => ?_⟩
        rcases Nat.lt_or_ge j n with h' | h'
        · exact h3 j hj h'
        · have : j = n := by omega
          subst this; exact h
    · exact Or.inr ⟨n, by omega, h, fun j hj hj2 => by omega⟩
theorem dn_lt {f g : Nat → Int} (hf : isD f) (hg : isD g) {q : Nat} (hq : q < 16) (he : ∀ j, q < j → j < 16 → f j = g j) (h : f q < g q) : dn f 0 16 < dn g 0 16 := by
  have h1 := dn_add f q (16 - q) 0
  have h2 := dn_add g q (16 - q) 0
  rw [show q + (16 - q) = 16 by omega, Nat.zero_add, show 16 - q = (15 - q) + 1 by omega, dn_step _ q (15 - q)] at h1 h2
  have hr : dn f (q + 1) (15 - q) = dn g (q + 1) (15 - q) := dn_congr fun j hj hj2 => he j (by omega) (by omega)
  obtain ⟨a0, a1⟩ := dn_range (f := f) q 0 fun i _ hi => hf i (by omega)
  obtain ⟨b0, b1⟩ := dn_range (f := g) q 0 fun i _ hi => hg i (by omega)
  rw [h1, h2, hr]
  have hp := p16_pos q
  have hm : (65536 : Int) ^ q * (f q + 1 + 65536 * dn g (q + 1) (15 - q)) ≤ 65536 ^ q * (g q + 65536 * dn g (q + 1) (15 - q)) := Int.mul_le_mul_of_nonneg_left (by omega) (Int.le_of_lt hp)
  have e : (65536 : Int) ^ q * (f q + 1 + 65536 * dn g (q + 1) (15 - q)) = 65536 ^ q * (f q + 65536 * dn g (q + 1) (15 - q)) + 65536 ^ q := by
    generalize (65536 : Int) ^ q = p
    generalize dn g (q + 1) (15 - q) = r
    grind
  rw [e] at hm
  omega
theorem less_ok : FoOk 91 (foOf numS2 lessF) := fo_of' Try.func91 (c := bodyOf Try.f91) (by kernel_rfl) (by kernel_rfl) (fun e => by rfl) fun e hc => by
  have hev := less_ev e
  have hx : a0 e numS2 0 = vN (e.i 0) := rfl
  have hy : a0 e numS2 1 = vN (e.i 1) := rfl
  have hp := of_ifP (p := isD (dOf (a0 e numS2 0)) ∧ isD (dOf (a0 e numS2 1))) hc
  show ∀ g, Ctr Try.prog 91 (mkA numS2 e 0) g (.bool (decide (nI (a0 e numS2 0) < nI (a0 e numS2 1))))
  generalize a0 e numS2 0 = x at *
  generalize a0 e numS2 1 = y at *
  obtain ⟨dx, dy⟩ := hp
  rcases first_diff (dOf x) (dOf y) 16 with he | ⟨q, hq, hne, he⟩
  · have hk := mapL_eq hev 16 (mem_runN (by omega) (by omega))
    have hv : lessRes x y 16 = .bool (decide (nI x < nI y)) := by
      show Value.bool false = _
      have : nI x = nI y := dn_congr fun j _ hj => he j (by omega)
      rw [this, decide_eq_false (by omega)]
    rw [← hv]
    exact fo_ctr orc0_ok Try.func91 (by kernel_rfl) ids_mk (of_eq' hk (lessW_eq 15 (by omega) fun j hj => he j (by omega)))
  · have hk := mapL_eq hev q (mem_runN (by omega) (by omega))
    have hv : lessRes x y q = .bool (decide (nI x < nI y)) := by
      unfold lessRes
      split
      · rename_i hb; have := Nat.le_of_ble_eq_true hb; omega
      · congr 1
        rcases Int.lt_or_gt_of_ne hne with h | h
        · rw [decide_eq_true (p := lim x q < lim y q) h, decide_eq_true (p := nI x < nI y) (dn_lt dx dy hq he h)]
        · have h' : nI y < nI x := dn_lt dy dx hq (fun j h1 h2 => (he j h1 h2).symm) h
          have h'' : lim y q < lim x q := h
          rw [decide_eq_false (p := lim x q < lim y q) (by omega), decide_eq_false (p := nI x < nI y) (by omega)]
    rw [← hv]
    exact fo_ctr orc0_ok Try.func91 (by kernel_rfl) ids_mk (of_eq' hk (lessW_diff hne 15 (by omega) fun j h1 h2 => he j h1 (by omega)))

/-! ## minus -/
noncomputable def f92l : Code := inB (blockIn 0 (bodyOf Try.f92))
def minPre (d g : Nat → Int) (b c : Int) : AS := ⟨tmps [(2, ptr 0), (3, ptr 1), (4, ptr 2), (5, .int .i64 b), (6, .int .i64 c)] 29 0,
  [(0, ⟨cellsOf .i64 d 16 0, 45, true, 0⟩), (1, ⟨cellsOf .i64 g 16 0, 45, true, 0⟩), (2, ⟨zrep 16 (.int .i64 0), 45, true, 0⟩)], 200⟩
def i64w (x : Int) : Int := IntKind.i64.wrap x
def minD (d g : Nat → Int) (b : Int) (i : Nat) : Int := i64w (i64w (d i - g i) - b)
def minLow (d g : Nat → Int) (b : Int) (i : Nat) : Prop := evC tab orc0 [] [22] [] 100 f92l (fun e _ s' => match e with | .normal => leS (minPre (fset d i (i64w (minD d g b i + 65536))) g 1 (.ofNat (i + 1))) s' | _ => False) [true] (minPre d g b (.ofNat i))
def minLowW (d g : Nat → Int) (b : Int) (i : Nat) : Prop := decide (minD d g b i < 0) = true ∧ leS (minPre (fset d i (i64w (minD d g b i + 65536))) g 1 (.ofNat (i + 1))) (minPre (fset d i (i64w (minD d g b i + 65536))) g 1 (.ofNat (i + 1)))
def minHi (d g : Nat → Int) (b : Int) (i : Nat) : Prop := evC tab orc0 [] [22] [] 100 f92l (fun e _ s' => match e with | .normal => leS (minPre (fset d i (minD d g b i)) g 0 (.ofNat (i + 1))) s' | _ => False) [false] (minPre d g b (.ofNat i))
def minHiW (d g : Nat → Int) (b : Int) (i : Nat) : Prop := decide (minD d g b i < 0) = false ∧ leS (minPre (fset d i (minD d g b i)) g 0 (.ofNat (i + 1))) (minPre (fset d i (minD d g b i)) g 0 (.ofNat (i + 1)))
theorem min_low (d g : Nat → Int) (b : Int) : List.map (minLow d g b) (runN 0 16) = mapL (minLowW d g b) (runN 0 16) := by kernel_rfl
theorem min_hi (d g : Nat → Int) (b : Int) : List.map (minHi d g b) (runN 0 16) = mapL (minHiW d g b) (runN 0 16) := by kernel_rfl
theorem min_last (d g : Nat → Int) (b : Int) : evC tab orc0 [] [22] [] 100 f92l (fun e _ s' => match e with | .exit j => (match Nat.beq j 0 with | true => leS (minPre d g b 16) s' | false => False) | _ => False) [] (minPre d g b 16) = leS (minPre d g b 16) (minPre d g b 16) := by kernel_rfl
theorem minPre_refl (d g : Nat → Int) (b c : Int) : leS (minPre d g b c) (minPre d g b c) := ⟨leT_refl _, rfl, rfl, rfl, trivial⟩
theorem minPre_low (d g : Nat → Int) (b c : Int) : low (minPre d g b c) = true := by kernel_rfl
structure MS where
  d : Nat → Int
  b : Int
def minS (g : Nat → Int) (s : MS) (i : Nat) : MS := if s.d i - g i - s.b < 0 then ⟨fset s.d i (s.d i - g i - s.b + 65536), 1⟩ else ⟨fset s.d i (s.d i - g i - s.b), 0⟩
def minN (f g : Nat → Int) : Nat → MS
  | 0 => ⟨f, 0⟩
  | n + 1 => minS g (minN f g n) n
theorem i64w_id {x : Int} (h0 : -9223372036854775808 ≤ x) (h1 : x < 9223372036854775808) : i64w x = x := by
  simp [i64w, IntKind.wrap, IntKind.bits, IntKind.signed]
  omega
theorem minN_inv {f g : Nat → Int} (hf : isD f) (hg : isD g) : ∀ n, n ≤ 16 → isD (minN f g n).d ∧ ((minN f g n).b = 0 ∨ (minN f g n).b = 1) ∧ (∀ j, n ≤ j → (minN f g n).d j = f j) ∧
    dn (minN f g n).d 0 n - 65536 ^ n * (minN f g n).b = dn f 0 n - dn g 0 n := by
  intro n
  induction n with
  | zero => intro _; exact ⟨hf, Or.inl rfl, fun _ _ => rfl, by simp [dn, minN]⟩
  | succ n ih =>
    intro hn
    obtain ⟨h1, h2, h3, h4⟩ := ih (by omega)
    show isD (minS g (minN f g n) n).d ∧ ((minS g (minN f g n) n).b = 0 ∨ (minS g (minN f g n) n).b = 1) ∧ (∀ j, n + 1 ≤ j → (minS g (minN f g n) n).d j = f j) ∧
      dn (minS g (minN f g n) n).d 0 (n + 1) - 65536 ^ (n + 1) * (minS g (minN f g n) n).b = dn f 0 (n + 1) - dn g 0 (n + 1)
    have hn0 := h1 n (by omega)
    have hg0 := hg n (by omega)
    have hfn := h3 n (Nat.le_refl n)
    have e1 := dn_succ f n 0
    have e2 := dn_succ g n 0
    rw [Nat.zero_add] at e1 e2
    have key : ∀ v b', (v - 65536 * b' = (minN f g n).d n - g n - (minN f g n).b) → 0 ≤ v → v < 65536 → isD (fset (minN f g n).d n v) ∧ (∀ j, n + 1 ≤ j → fset (minN f g n).d n v j = f j) ∧
        dn (fset (minN f g n).d n v) 0 (n + 1) - 65536 ^ (n + 1) * b' = dn f 0 (n + 1) - dn g 0 (n + 1) := by
      intro v b' hv v0 v1
      refine ⟨fun j hj => ?_, fun j hj => ?_, ?_⟩
      · by_cases hjn : j = n
        · subst hjn; rw [fset_same]; exact ⟨v0, v1⟩
        · rw [fset_other _ _ hjn]; exact h1 j hj
      · rw [fset_other _ _ (by omega)]; exact h3 j (by omega)
      · rw [dn_succ, Nat.zero_add, fset_same, dn_congr (f := fset (minN f g n).d n v) (g := (minN f g n).d) (fun j _ hj => fset_other _ _ (by omega)), e1, e2, p16_succ, ← hfn]
        have hd : dn (minN f g n).d 0 n = dn f 0 n - dn g 0 n + 65536 ^ n * (minN f g n).b := by omega
        rw [hd]
        have hv' : v = (minN f g n).d n - g n - (minN f g n).b + 65536 * b' := by omega
        rw [hv']
        generalize (65536 : Int) ^ n = p
        grind
    generalize minN f g n = s at *
    unfold minS
    split
    · rename_i hlt
      obtain ⟨k1, k2, k3⟩ := key (s.d n - g n - s.b + 65536) 1 (by omega) (by omega) (by omega)
      exact ⟨k1, Or.inr rfl, k2, k3⟩
    · rename_i hge
      obtain ⟨k1, k2, k3⟩ := key (s.d n - g n - s.b) 0 (by omega) (by omega) (by omega)
      exact ⟨k1, Or.inl rfl, k2, k3⟩
def minT (f g : Nat → Int) (n : Nat) : AS := minPre (minN f g n).d g (minN f g n).b (.ofNat n)
noncomputable def minC (f g : Nat → Int) : LoopC := ⟨.loop f92l, minT f g 0, .normal, minT f g 16⟩
theorem min_lo {f g : Nat → Int} (hf : isD f) (hg : isD g) : LoOk Try.prog [(0, minC f g)] := by
  refine lo_cnt (sy := []) (br := [22]) orc0_ok loOk_nil (minT f g) 16 (fun k => minPre_low _ _ _ _) (fun n hn => ?_) ⟨[], 100, ?_⟩
  · obtain ⟨h1, h2, h3, h4⟩ := minN_inv hf hg n (by omega)
    have hn0 := h1 n (by omega)
    have hg0 := hg n (by omega)
    have hD : minD (minN f g n).d g (minN f g n).b n = (minN f g n).d n - g n - (minN f g n).b := by
      unfold minD
      rw [i64w_id (x := (minN f g n).d n - g n) (by omega) (by omega), i64w_id (by omega) (by omega)]
    have hT : minT f g (n + 1) = minPre (minS g (minN f g n) n).d g (minS g (minN f g n) n).b (.ofNat (n + 1)) := rfl
    by_cases hlt : (minN f g n).d n - g n - (minN f g n).b < 0
    · refine ⟨[true], 100, ?_⟩
      have hs : minS g (minN f g n) n = ⟨fset (minN f g n).d n ((minN f g n).d n - g n - (minN f g n).b + 65536), 1⟩ := by unfold minS; rw [if_pos hlt]
      have hk := mapL_eq (min_low (minN f g n).d g (minN f g n).b) n (mem_runN (by omega) (by omega))
      have hr : minLow (minN f g n).d g (minN f g n).b n := of_eq' hk ⟨by rw [hD]; exact decide_eq_true hlt, minPre_refl _ _ _ _⟩
      unfold minLow at hr
      rw [hD, i64w_id (by omega) (by omega)] at hr
      rw [hT, hs]
      exact hr
    · refine ⟨[false], 100, ?_⟩
      have hs : minS g (minN f g n) n = ⟨fset (minN f g n).d n ((minN f g n).d n - g n - (minN f g n).b), 0⟩ := by unfold minS; rw [if_neg hlt]
      have hk := mapL_eq (min_hi (minN f g n).d g (minN f g n).b) n (mem_runN (by omega) (by omega))
      have hr : minHi (minN f g n).d g (minN f g n).b n := of_eq' hk ⟨by rw [hD]; exact decide_eq_false hlt, minPre_refl _ _ _ _⟩
      unfold minHi at hr
      rw [hD] at hr
      rw [hT, hs]
      exact hr
  · exact of_eq' (min_last _ _ _) (minPre_refl _ _ _ _)
noncomputable def minusF (a : List Value) : Bool × Value := (ifP (isD (dOf (getD a 0)) ∧ isD (dOf (getD a 1)) ∧ nI (getD a 1) ≤ nI (getD a 0)), vN (numD (nI (getD a 0) - nI (getD a 1)).toNat))
theorem minus_ev (e : Env) : evBody tab orc0 [] [] [(0, minC (e.i 0) (e.i 1))] 1000 Try.f92 (bodyOf Try.f92) (mkA numS2 e 0) [] 0 [] (fun r => r = vN (minN (e.i 0) (e.i 1) 16).d) =
    (Code.loop f92l = Code.loop f92l ∧ leS (minT (e.i 0) (e.i 1) 0) (minT (e.i 0) (e.i 1) 0) ∧ vN (minN (e.i 0) (e.i 1) 16).d = vN (minN (e.i 0) (e.i 1) 16).d) := by kernel_rfl
theorem minus_ok : FoOk 92 (foOf numS2 minusF) := fo_of' Try.func92 (c := bodyOf Try.f92) (by kernel_rfl) (by kernel_rfl) (fun e => by rfl) fun e hc => by
  have hx : a0 e numS2 0 = vN (e.i 0) := rfl
  have hy : a0 e numS2 1 = vN (e.i 1) := rfl
  have hp := of_ifP (p := isD (dOf (a0 e numS2 0)) ∧ isD (dOf (a0 e numS2 1)) ∧ nI (a0 e numS2 1) ≤ nI (a0 e numS2 0)) hc
  show ∀ g, Ctr Try.prog 92 (mkA numS2 e 0) g (vN (numD (nI (a0 e numS2 0) - nI (a0 e numS2 1)).toNat))
  rw [hx, hy] at hp ⊢
  obtain ⟨dx, dy, hle⟩ := hp
  have hf : isD (e.i 0) := fun j hj => by have := dx j hj; rw [show dOf (vN (e.i 0)) j = e.i 0 j from lim_vN hj] at this; exact this
  have hg : isD (e.i 1) := fun j hj => by have := dy j hj; rw [show dOf (vN (e.i 1)) j = e.i 1 j from lim_vN hj] at this; exact this
  obtain ⟨h1, h2, h3, h4⟩ := minN_inv hf hg 16 (Nat.le_refl _)
  rw [nI_vN, nI_vN] at hle ⊢
  obtain ⟨r0, r1⟩ := dn_range (f := (minN (e.i 0) (e.i 1) 16).d) 16 0 fun i _ hi => h1 i (by omega)
  rw [p16_16] at r1 h4
  have hd : dn (minN (e.i 0) (e.i 1) 16).d 0 16 = dn (e.i 0) 0 16 - dn (e.i 1) 0 16 := by
    rcases h2 with h | h
    · rw [h] at h4; omega
    · rw [h] at h4; omega
  rw [← hd, ← vN_of h1]
  exact fo_ctr orc0_ok Try.func92 (by kernel_rfl) ids_mk (of_eq' (minus_ev e) ⟨rfl, minPre_refl _ _ _ _, rfl⟩) (min_lo hf hg)
end Go.Proofs.Ythgefjgbkhkmgaa.Ev
