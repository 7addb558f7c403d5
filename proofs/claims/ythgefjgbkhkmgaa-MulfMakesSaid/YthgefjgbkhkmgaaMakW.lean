/-
  The law MulfMakes: the rounds of its loop.
-/
import Derived.Test.YthgefjgbkhkmgaaProdW
namespace Go.Proofs.Ythgefjgbkhkmgaa.Ev
open Go Go.RowKit
open Sap (F P toF)
attribute [local irreducible] evC evBody

/-- how a loop ends behind m rounds that are known, in whatever way -/
theorem lo_ex {orc : Orc} {sy sy' : Sy} {br br' : List Nat} {id : Nat} {b : Code} (hO : OrcOk Try.prog orc) (T : Nat → AS) (m : Nat) (post : AS) (hlow : ∀ n, low (T n) = true) (hpost : low post = true)
    (round : ∀ n, n < m → ∃ sc fuel, evC tab orc sy br [] fuel b (fun e _ s' => match e with | .normal => leS (T (n + 1)) s' | _ => False) sc (T n))
    (last : ∃ sc fuel, evC tab orc sy' br' [] fuel b (fun e _ s' => match e with | .ret => leS post s' | _ => False) sc (T m)) :
    LoOk Try.prog [(id, ⟨.loop b, T 0, .ret, post⟩)] := by
  intro id' L h
  simp only [loGet] at h
  split at h
  · rename_i hid
    have := Nat.eq_of_beq_eq_true hid
    subst this
    cases h
    refine ⟨hlow _, hpost, ?_⟩
    let S : {n : Nat // n ≤ m} → AS := fun n => T n.1
    have := lo_of (id := id) (b := b) (ex := .ret) (post := post) S (fun n => m - n.1) (x := ⟨0, Nat.zero_le _⟩) (fun _ => hlow _) ?_
    · exact this
    · rintro ⟨n, hn⟩
      rcases Nat.lt_or_ge n m with hlt | hge
      · obtain ⟨sc, fuel, hr⟩ := round n hlt
        refine (tri_ev hO loOk_nil hr).mono ?_
        intro e s' h
        cases e with
        | normal => exact ⟨⟨n + 1, hlt⟩, by show m - (n + 1) < m - n; omega, h⟩
        | _ => exact h.elim
      · have hn' : n = m := by omega
        subst hn'
        obtain ⟨sc, fuel, hl⟩ := last
        refine (tri_ev hO loOk_nil hl).mono ?_
        intro e s' h
        cases e with
        | ret => exact ⟨rfl, h⟩
        | _ => exact h.elim
  · cases h
def okE1 (b : Bool) : Prop := b = true
theorem okE1_of {p : Prop} (h : p) : okE1 (ifP p) := ifP_of h
noncomputable def orcX14 : Orc := oaddH (oaddH (oadd (oadd (oadd (oadd (oadd orcS1 53 (foOf [] trueF)) 54 (foOf elS2 mulF)) 55 (foOf elS sqF)) 56 (foOf timesS timesF)) 58 (foOf numS2 mulnF)) 57 proO) 59 rpO
theorem orcX14_ok : OrcOk Try.prog orcX14 := oaddH_ok (oaddH_ok (oadd_ok (oadd_ok (oadd_ok (oadd_ok (oadd_ok orcS1_ok aw3_ok) mulx_ok) sq_ok) times_ok) muln_ok) proO_ok) rpO_ok
noncomputable def f14l : Code := inB (blockIn 0 (bodyOf Try.f14))
/-- what every round is about -/
structure MA where
  f : Nat → Int
  g : Nat → Int
  u : Int
  φ : Nat → Int
  c : Nat
/-- the cells of the numbers behind so many -/
noncomputable def numsC (φ : Nat → Int) : Nat → List Value
  | 0 => []
  | i + 1 => numsC φ i ++ cellsOf .i64 (numD (FV (eA φ i)).val) 16 0
/-- the slice of the numbers behind so many -/
def numsS : Nat → Value
  | 0 => .slice none 0 0
  | i + 1 => .slice (some ⟨112 + 20 * i, 0, none⟩) (i + 1) capX
noncomputable def numsH (φ : Nat → Int) : Nat → Heap
  | 0 => []
  | i + 1 => [(112 + 20 * i, ⟨numsC φ (i + 1), 45, true, 16⟩)]
noncomputable def maPre (k : MA) (n i : Nat) : AS := ⟨tmps [(2, .int .u32 k.u), (3, slE n k.c), (4, ptr 1), (5, ptr 2), (9, numsS i), (29, slE n k.c), (30, .int .i64 (.ofNat n)), (31, .int .i64 (.ofNat i))] 80 0,
  (0, ⟨cellsOf .u64 k.φ (5 * n) 0, 36, false, 0⟩) :: (1, ⟨cellsV (lims k.f), 36, true, 0⟩) :: (2, ⟨cellsV (lims k.g), 36, true, 0⟩) :: numsH k.φ i, 100 + 20 * i⟩
def maRound (k : MA) (n i : Nat) : Prop := evC tab orcX14 [(36, .b true), (40, .ok)] [] [] 100 f14l (fun e _ s' => match e with | .normal => leS (maPre k n (i + 1)) s' | _ => False) [] (maPre k n i)
def maWant (k : MA) (n i : Nat) : Prop := emit (looseB (eA k.φ i)) true ∧ okE1 (ifP (inU (eA k.φ i))) ∧ leS (maPre k n (i + 1)) (maPre k n (i + 1))
def maEnd : AS := ⟨tmps [(8, .bool true)] 80 0, [], 300⟩
def maOff (k : MA) (n i : Nat) : Prop := evC tab orcX14 [(36, .b false)] [] [] 100 f14l (fun e _ s' => match e with | .ret => leS maEnd s' | _ => False) [] (maPre k n i)
def maOffW (k : MA) (i : Nat) : Prop := emit (looseB (eA k.φ i)) false ∧ leS maEnd maEnd
def maLast (k : MA) (n : Nat) : Prop := evC tab orcX14 [(36, .b true), (40, .ok)] [] [] 100 f14l (fun e _ s' => match e with | .exit j => (match Nat.beq j 0 with | true => leS (maPre k n n) s' | false => False) | _ => False) [] (maPre k n n)
def maLastW (k : MA) (n : Nat) : Prop := leS (maPre k n n) (maPre k n n)
theorem ma_r (k : MA) : List.map (fun n => List.map (maRound k n) (runN 0 n)) (runN 1 20) = mapL (fun n => mapL (maWant k n) (runN 0 n)) (runN 1 20) := by kernel_rfl
theorem ma_o (k : MA) : List.map (fun n => List.map (maOff k n) (runN 0 n)) (runN 1 20) = mapL (fun n => mapL (maOffW k) (runN 0 n)) (runN 1 20) := by kernel_rfl
theorem ma_l (k : MA) : List.map (maLast k) (runN 1 20) = mapL (maLastW k) (runN 1 20) := by kernel_rfl
theorem hget_same {i : Nat} {b : Blk} {h : Heap} : hget ((i, b) :: h) i = some b := by
  simp only [hget, Nat.beq_refl]
theorem hget_next {i j : Nat} {b : Blk} {h : Heap} (hn : j ≠ i) : hget ((j, b) :: h) i = hget h i := by
  have : Nat.beq j i = false := by
    cases hb : Nat.beq j i with
    | false => rfl
    | true => exact absurd (Nat.eq_of_beq_eq_true hb) hn
  simp only [hget, this]
theorem maPre_refl (k : MA) (n i : Nat) : leS (maPre k n i) (maPre k n i) := by
  refine ⟨leT_refl _, rfl, rfl, rfl, ?_⟩
  cases i with
  | zero => exact trivial
  | succ i =>
    refine ⟨?_, trivial⟩
    change hget ((0, _) :: (1, _) :: (2, _) :: [(112 + 20 * i, _)]) (112 + 20 * i) = _
    rw [hget_next (by omega), hget_next (by omega), hget_next (by omega)]
    exact hget_same
theorem ma_low (k : MA) (n : Nat) : List.map (fun i => low (maPre k n i)) (runN 0 21) = mapL (fun _ => true) (runN 0 21) := by kernel_rfl
theorem maEnd_refl : leS maEnd maEnd := ⟨leT_refl _, trivial⟩
theorem maEnd_low : low maEnd = true := by kernel_rfl
theorem ma_round (k : MA) {n i : Nat} (hn : n ≤ 20) (hi : i < n) (h : bnd (eA k.φ i) LL) : maRound k n i := by
  have key : maRound k n i = maWant k n i := mapL_eq (mapL_eq (ma_r k) n (mem_runN (by omega) (by omega))) i (mem_runN (by omega) (by omega))
  rw [key]
  exact ⟨emit_of (loose_is h), okE1_of (inU_of h), maPre_refl _ _ _⟩
theorem ma_off (k : MA) {n i : Nat} (hn : n ≤ 20) (hi : i < n) (h : looseB (eA k.φ i) = false) : maOff k n i := by
  have key : maOff k n i = maOffW k i := mapL_eq (mapL_eq (ma_o k) n (mem_runN (by omega) (by omega))) i (mem_runN (by omega) (by omega))
  rw [key]
  exact ⟨emit_of h, maEnd_refl⟩
noncomputable def maT (k : MA) (n i : Nat) : AS := maPre k n (min i 20)
theorem maT_low (k : MA) (n i : Nat) : low (maT k n i) = true := mapL_eq (ma_low k n) (min i 20) (mem_runN (by omega) (by omega))
noncomputable def maC (k : MA) (n : Nat) : LoopC := ⟨.loop f14l, maT k n 0, .normal, maT k n n⟩
noncomputable def maCo (k : MA) (n : Nat) : LoopC := ⟨.loop f14l, maT k n 0, .ret, maEnd⟩
theorem maT_is (k : MA) (n : Nat) {i : Nat} (h : i ≤ 20) : maT k n i = maPre k n i := by unfold maT; rw [Nat.min_eq_left h]
theorem ma_lo (k : MA) {n : Nat} (h0 : 0 < n) (hn : n ≤ 20) (h : ∀ i, i < n → bnd (eA k.φ i) LL) : LoOk Try.prog [(0, maC k n)] := by
  refine lo_count (sy := [(36, .b true), (40, .ok)]) (br := []) orcX14_ok (maT k n) n (fun _ => maT_low _ _ _) (fun i hi => ⟨[], 100, ?_⟩) ⟨[], 100, ?_⟩
  · rw [maT_is k n (by omega), maT_is k n (by omega)]
    exact ma_round k hn hi (h i hi)
  · rw [maT_is k n (by omega)]
    have h := mapL_eq (ma_l k) n (mem_runN (by omega) (by omega))
    exact of_eq' h (maPre_refl _ _ _)
theorem ma_lo' (k : MA) {n m : Nat} (hn : n ≤ 20) (hm : m < n) (h : ∀ i, i < m → bnd (eA k.φ i) LL) (hb : looseB (eA k.φ m) = false) : LoOk Try.prog [(0, maCo k n)] := by
  refine lo_ex (sy := [(36, .b true), (40, .ok)]) (br := []) (sy' := [(36, .b false)]) (br' := []) orcX14_ok (maT k n) m maEnd (fun _ => maT_low _ _ _) maEnd_low (fun i hi => ⟨[], 100, ?_⟩) ⟨[], 100, ?_⟩
  · rw [maT_is k n (by omega), maT_is k n (by omega)]
    exact ma_round k hn (by omega) (h i hi)
  · rw [maT_is k n (by omega)]
    exact ma_off k hn hm hb
end Go.Proofs.Ythgefjgbkhkmgaa.Ev