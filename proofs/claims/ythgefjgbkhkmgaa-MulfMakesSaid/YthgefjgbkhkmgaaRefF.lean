/-
  The document's numbers walked: Fold.
-/
import Derived.Test.YthgefjgbkhkmgaaRefA
namespace Go.Proofs.Ythgefjgbkhkmgaa.Ev
open Go Go.RowKit
open Sap (F P toF)
attribute [local irreducible] evC evBody

noncomputable def orcR : Orc := oadd (oadd (oadd orc0 93 (foOf [] primeF)) 91 (foOf numS2 lessF)) 92 (foOf numS2 minusF)
theorem orcR_ok : OrcOk Try.prog orcR := oadd_ok (oadd_ok (oadd_ok orc0_ok prime_ok) less_ok) minus_ok

/-! ## The carries, one round of the inner loop -/
noncomputable def f88i : Code := inB (blockIn 8 (bodyOf Try.f88))
noncomputable def f88c : Code := inB (blockIn 6 (bodyOf Try.f88))
noncomputable def f88d : Code := inB (blockIn 10 (bodyOf Try.f88))
def rHeap (pa : Nat) (d : Nat → Int) : Heap := [(1, ⟨zrep 16 (.int .i64 0), 45, true, 0⟩), (pa, ⟨cellsOf .i64 d 16 0, 45, true, 0⟩)]
def innPre (pa : Nat) (d : Nat → Int) (o c : Int) : AS := ⟨tmps [(2, ptr 1), (5, ptr pa), (7, .int .i64 o), (8, .int .i64 c)] 104 0, rHeap pa d, 2000⟩
def carPre (pa : Nat) (d : Nat → Int) (o : Int) : AS := ⟨tmps [(2, ptr 1), (5, ptr pa), (7, .int .i64 o)] 104 0, rHeap pa d, 2000⟩
def subPre (pa : Nat) (d : Nat → Int) : AS := ⟨tmps [(2, ptr 1), (5, ptr pa)] 104 0, rHeap pa d, 2000⟩
/-- the digits behind round i, to the letter -/
def carX (d : Nat → Int) (i : Nat) : Nat → Int := match Nat.beq i 15 with
  | true => fset (fset d 15 ((d 15).tmod 65536)) 0 (i64w (d 0 + i64w (38 * i64w ((d 15).tdiv 65536))))
  | false => fset (fset d i ((d i).tmod 65536)) (i + 1) (i64w (d (i + 1) + i64w ((d i).tdiv 65536)))
def carO (d : Nat → Int) (o : Int) (i : Nat) : Int := match Nat.beq i 15 with
  | true => i64w ((d 15).tdiv 65536)
  | false => o
def innRound (pa : Nat) (d : Nat → Int) (o : Int) (i : Nat) : Prop := evC tab orcR [] [] [] 100 f88i (fun e _ s' => match e with | .normal => leS (innPre pa (carX d i) (carO d o i) (.ofNat (i + 1))) s' | _ => False) [] (innPre pa d o (.ofNat i))
def innWant (pa : Nat) (d : Nat → Int) (o : Int) (i : Nat) : Prop := leS (innPre pa (carX d i) (carO d o i) (.ofNat (i + 1))) (innPre pa (carX d i) (carO d o i) (.ofNat (i + 1)))
theorem inn5 (d : Nat → Int) (o : Int) : List.map (innRound 5 d o) (runN 0 16) = mapL (innWant 5 d o) (runN 0 16) := by kernel_rfl
theorem inn769 (d : Nat → Int) (o : Int) : List.map (innRound 769 d o) (runN 0 16) = mapL (innWant 769 d o) (runN 0 16) := by kernel_rfl
theorem innl5 (d : Nat → Int) (o : Int) : evC tab orcR [] [] [] 100 f88i (fun e _ s' => match e with | .exit j => (match Nat.beq j 8 with | true => leS (innPre 5 d o 16) s' | false => False) | _ => False) [] (innPre 5 d o 16) = leS (innPre 5 d o 16) (innPre 5 d o 16) := by kernel_rfl
theorem innl769 (d : Nat → Int) (o : Int) : evC tab orcR [] [] [] 100 f88i (fun e _ s' => match e with | .exit j => (match Nat.beq j 8 with | true => leS (innPre 769 d o 16) s' | false => False) | _ => False) [] (innPre 769 d o 16) = leS (innPre 769 d o 16) (innPre 769 d o 16) := by kernel_rfl
/-- where the number's block stands -/
def isPa (pa : Nat) : Prop := pa = 5 ∨ pa = 769
theorem innPre_refl {pa : Nat} (h : isPa pa) (d : Nat → Int) (o c : Int) : leS (innPre pa d o c) (innPre pa d o c) := by
  rcases h with rfl | rfl <;> exact ⟨leT_refl _, rfl, rfl, trivial⟩
theorem innPre_low {pa : Nat} (h : isPa pa) (d : Nat → Int) (o c : Int) : low (innPre pa d o c) = true := by
  rcases h with rfl | rfl
  · kernel_rfl
  · kernel_rfl
theorem inn_round {pa : Nat} (h : isPa pa) (d : Nat → Int) (o : Int) {i : Nat} (hi : i < 16) : innRound pa d o i := by
  rcases h with rfl | rfl
  · rw [mapL_eq (inn5 d o) i (mem_runN (by omega) (by omega))]; exact innPre_refl (Or.inl rfl) _ _ _
  · rw [mapL_eq (inn769 d o) i (mem_runN (by omega) (by omega))]; exact innPre_refl (Or.inr rfl) _ _ _

structure CS where
  d : Nat → Int
  o : Int
def carS (s : CS) (i : Nat) : CS := ⟨carX s.d i, carO s.d s.o i⟩
/-- all sixteen rounds, from digits d -/
def carN (d : Nat → Int) : Nat → CS
  | 0 => ⟨d, 0⟩
  | n + 1 => carS (carN d n) n
def innT (pa : Nat) (d : Nat → Int) (n : Nat) : AS := innPre pa (carN d n).d (carN d n).o (.ofNat n)
noncomputable def innC (pa : Nat) (d : Nat → Int) : LoopC := ⟨.loop f88i, innT pa d 0, .normal, innT pa d 16⟩
theorem inn_lo {pa : Nat} (h : isPa pa) (d : Nat → Int) : LoOk Try.prog [(8, innC pa d)] := by
  refine lo_cnt (sy := []) (br := []) orcR_ok loOk_nil (innT pa d) 16 (fun k => innPre_low h _ _ _) (fun n hn => ⟨[], 100, inn_round h _ _ hn⟩) ⟨[], 100, ?_⟩
  rcases h with rfl | rfl
  · exact of_eq' (innl5 _ _) (innPre_refl (Or.inl rfl) _ _ _)
  · exact of_eq' (innl769 _ _) (innPre_refl (Or.inr rfl) _ _ _)

/-! ## In plain words -/
def isB56 (d : Nat → Int) : Prop := ∀ j, j < 16 → 0 ≤ d j ∧ d j < 72057594037927936
theorem tdm {x : Int} (h : 0 ≤ x) : x.tdiv 65536 = x / 65536 ∧ x.tmod 65536 = x % 65536 := ⟨Int.tdiv_eq_ediv_of_nonneg h, Int.tmod_eq_emod_of_nonneg h⟩
theorem dn_fset (d : Nat → Int) {i : Nat} (v : Int) (hi : i < 16) : dn (fset d i v) 0 16 = dn d 0 16 + 65536 ^ i * (v - d i) := by
  have h1 := dn_add d i (16 - i) 0
  have h2 := dn_add (fset d i v) i (16 - i) 0
  rw [show i + (16 - i) = 16 by omega, Nat.zero_add, show 16 - i = (15 - i) + 1 by omega, dn_step _ i (15 - i)] at h1 h2
  rw [h1, h2, fset_same, dn_congr (f := fset d i v) (g := d) (i := 0) (fun j _ hj => fset_other _ _ (by omega)), dn_congr (f := fset d i v) (g := d) (i := i + 1) (fun j hj _ => fset_other _ _ (by omega))]
  generalize (65536 : Int) ^ i = p
  generalize dn d 0 i = a
  generalize dn d (i + 1) (15 - i) = b
  generalize d i = c
  grind
/-- behind n rounds, n to 15 -/
theorem carN_inv {d : Nat → Int} (hd : isB56 d) : ∀ n, n ≤ 15 → (∀ j, j < n → 0 ≤ (carN d n).d j ∧ (carN d n).d j < 65536) ∧ (0 ≤ (carN d n).d n ∧ (carN d n).d n < 72059793061183488) ∧ (∀ j, n < j → (carN d n).d j = d j) ∧
    dn (carN d n).d 0 16 = dn d 0 16 := by
  intro n
  induction n with
  | zero =>
    intro _
    have := hd 0 (by omega)
    exact ⟨fun j hj => by omega, ⟨this.1, by show d 0 < _; omega⟩, fun _ _ => rfl, rfl⟩
  | succ n ih =>
    intro hn
    obtain ⟨h1, h2, h3, h4⟩ := ih (by omega)
    show (∀ j, j < n + 1 → 0 ≤ carX (carN d n).d n j ∧ carX (carN d n).d n j < 65536) ∧ (0 ≤ carX (carN d n).d n (n + 1) ∧ carX (carN d n).d n (n + 1) < 72059793061183488) ∧ (∀ j, n + 1 < j → carX (carN d n).d n j = d j) ∧ dn (carX (carN d n).d n) 0 16 = dn d 0 16
    have e := h3 (n + 1) (by omega)
    have hb := hd (n + 1) (by omega)
    generalize carN d n = s at *
    obtain ⟨t1, t2⟩ := tdm h2.1
    have hX : carX s.d n = fset (fset s.d n (s.d n % 65536)) (n + 1) (d (n + 1) + s.d n / 65536) := by
      unfold carX
      split
      · rename_i hb'; have := Nat.eq_of_beq_eq_true hb'; omega
      · rw [t1, t2, e, i64w_id (x := s.d n / 65536) (by omega) (by omega), i64w_id (by omega) (by omega)]
    rw [hX]
    refine ⟨fun j hj => ?_, ?_, fun j hj => ?_, ?_⟩
    · rw [fset_other _ _ (by omega)]
      by_cases hjn : j = n
      · subst hjn; rw [fset_same]; omega
      · rw [fset_other _ _ hjn]; exact h1 j (by omega)
    · rw [fset_same]; omega
    · rw [fset_other _ _ (by omega), fset_other _ _ (by omega)]; exact h3 j (by omega)
    · rw [dn_fset _ _ (by omega), dn_fset _ _ (by omega), fset_other _ _ (by omega), e, p16_succ, h4]
      have hm : s.d n = s.d n % 65536 + 65536 * (s.d n / 65536) := by omega
      generalize s.d n % 65536 = a at *
      generalize s.d n / 65536 = b at *
      rw [hm]
      generalize (65536 : Int) ^ n = p
      grind
/-- behind all of them -/
theorem carN_16 {d : Nat → Int} (hd : isB56 d) : ∃ c, (carN d 16).o = c ∧ 0 ≤ c ∧ c < 1099545182208 ∧ isB56 (carN d 16).d ∧ (c = 0 → isD (carN d 16).d) ∧
    dn (carN d 16).d 0 16 = dn d 0 16 - 115792089237316195423570985008687907853269984665640564039457584007913129639936 * c + 38 * c := by
  obtain ⟨h1, h2, h3, h4⟩ := carN_inv hd 15 (Nat.le_refl _)
  have hD : (carN d 16).d = carX (carN d 15).d 15 := rfl
  have hO : (carN d 16).o = i64w (((carN d 15).d 15).tdiv 65536) := rfl
  rw [hD, hO]
  generalize carN d 15 = s at *
  obtain ⟨t1, t2⟩ := tdm h2.1
  have hX : carX s.d 15 = fset (fset s.d 15 ((s.d 15).tmod 65536)) 0 (i64w (s.d 0 + i64w (38 * i64w ((s.d 15).tdiv 65536)))) := rfl
  have h0 := h1 0 (by omega)
  rw [hX, t1, t2, i64w_id (x := s.d 15 / 65536) (by omega) (by omega), i64w_id (x := 38 * (s.d 15 / 65536)) (by omega) (by omega), i64w_id (by omega) (by omega)]
  have key : ∀ j, j < 16 → 0 ≤ fset (fset s.d 15 (s.d 15 % 65536)) 0 (s.d 0 + 38 * (s.d 15 / 65536)) j ∧ fset (fset s.d 15 (s.d 15 % 65536)) 0 (s.d 0 + 38 * (s.d 15 / 65536)) j < 65536 + 38 * (s.d 15 / 65536) := by
    intro j hj
    by_cases hj0 : j = 0
    · subst hj0; rw [fset_same]; omega
    · rw [fset_other _ _ hj0]
      by_cases hj15 : j = 15
      · subst hj15; rw [fset_same]; omega
      · rw [fset_other _ _ hj15]
        have := h1 j (by omega)
        omega
  refine ⟨s.d 15 / 65536, rfl, by omega, by omega, fun j hj => ?_, fun hc j hj => ?_, ?_⟩
  · have := key j hj; omega
  · have := key j hj; omega
  · rw [dn_fset _ _ (by omega), dn_fset _ _ (by omega), fset_other _ _ (by omega), h4, Int.pow_zero]
    have e15 : (65536 : Int) ^ 15 = 1766847064778384329583297500742918515827483896875618958121606201292619776 := by decide
    rw [e15]
    generalize dn d 0 16 = N
    omega

/-! ## The outer loop of the carries -/
def carOutW (pa : Nat) (d : Nat → Int) (o : Int) : Prop :=
  decide (o > 0) = true ∧ Code.loop f88i = Code.loop f88i ∧ leS (innT pa d 0) (innT pa d 0) ∧ leS (carPre pa (carN d 16).d (carN d 16).o) (carPre pa (carN d 16).d (carN d 16).o)
theorem car5 (d : Nat → Int) (o : Int) : evC tab orcR [] [63] [(8, innC 5 d)] 100 f88c (fun e _ s' => match e with | .normal => leS (carPre 5 (carN d 16).d (carN d 16).o) s' | _ => False) [true] (carPre 5 d o) = carOutW 5 d o := by kernel_rfl
theorem car769 (d : Nat → Int) (o : Int) : evC tab orcR [] [63] [(8, innC 769 d)] 100 f88c (fun e _ s' => match e with | .normal => leS (carPre 769 (carN d 16).d (carN d 16).o) s' | _ => False) [true] (carPre 769 d o) = carOutW 769 d o := by kernel_rfl
theorem carl5 (d : Nat → Int) (o : Int) : evC tab orcR [] [63] [] 100 f88c (fun e _ s' => match e with | .exit j => (match Nat.beq j 6 with | true => leS (subPre 5 d) s' | false => False) | _ => False) [false] (carPre 5 d o) = (decide (o > 0) = false ∧ leS (subPre 5 d) (subPre 5 d)) := by kernel_rfl
theorem carl769 (d : Nat → Int) (o : Int) : evC tab orcR [] [63] [] 100 f88c (fun e _ s' => match e with | .exit j => (match Nat.beq j 6 with | true => leS (subPre 769 d) s' | false => False) | _ => False) [false] (carPre 769 d o) = (decide (o > 0) = false ∧ leS (subPre 769 d) (subPre 769 d)) := by kernel_rfl
theorem carPre_refl {pa : Nat} (h : isPa pa) (d : Nat → Int) (o : Int) : leS (carPre pa d o) (carPre pa d o) := by
  rcases h with rfl | rfl <;> exact ⟨leT_refl _, rfl, rfl, trivial⟩
theorem subPre_refl {pa : Nat} (h : isPa pa) (d : Nat → Int) : leS (subPre pa d) (subPre pa d) := by
  rcases h with rfl | rfl <;> exact ⟨leT_refl _, rfl, rfl, trivial⟩
theorem carPre_low {pa : Nat} (h : isPa pa) (d : Nat → Int) (o : Int) : low (carPre pa d o) = true := by
  rcases h with rfl | rfl
  · kernel_rfl
  · kernel_rfl
theorem subPre_low {pa : Nat} (h : isPa pa) (d : Nat → Int) : low (subPre pa d) = true := by
  rcases h with rfl | rfl
  · kernel_rfl
  · kernel_rfl
/-- the rounds of the outer loop -/
def outN (d : Nat → Int) : Nat → CS
  | 0 => ⟨d, 1⟩
  | n + 1 => carN (outN d n).d 16
/-- how a loop ends behind m rounds that are known, in another state -/
theorem lo_end {orc : Orc} {sy : Sy} {br : List Nat} {id : Nat} {b : Code} (hO : OrcOk Try.prog orc) (T : Nat → AS) (m : Nat) (post : AS) (hlow : ∀ n, low (T n) = true) (hpost : low post = true)
    (round : ∀ n, n < m → ∃ lo sc fuel, LoOk Try.prog lo ∧ evC tab orc sy br lo fuel b (fun e _ s' => match e with | .normal => leS (T (n + 1)) s' | _ => False) sc (T n))
    (last : ∃ sc fuel, evC tab orc sy br [] fuel b (fun e _ s' => match e with | .exit j => (match Nat.beq j id with | true => leS post s' | false => False) | _ => False) sc (T m)) :
    LoOk Try.prog [(id, ⟨.loop b, T 0, .normal, post⟩)] := by
  intro id' L h
  simp only [loGet] at h
  split at h
  · rename_i hid
    have := Nat.eq_of_beq_eq_true hid
    subst this
    cases h
    refine ⟨hlow _, hpost, ?_⟩
    let S : {n : Nat // n ≤ m} → AS := fun n => T n.1
    have := lo_of (id := id) (b := b) (ex := .normal) (post := post) S (fun n => m - n.1) (x := ⟨0, Nat.zero_le _⟩) (fun _ => hlow _) ?_
    · exact this
    · rintro ⟨n, hn⟩
      rcases Nat.lt_or_ge n m with hlt | hge
      · obtain ⟨lo, sc, fuel, hL, hr⟩ := round n hlt
        refine (tri_ev hO hL hr).mono ?_
        intro e s' h
        cases e with
        | normal => exact ⟨⟨n + 1, hlt⟩, by show m - (n + 1) < m - n; omega, h⟩
        | _ => exact h.elim
      · have hn' : n = m := by omega
        subst hn'
        obtain ⟨sc, fuel, hl⟩ := last
        refine (tri_ev hO loOk_nil hl).mono ?_
        intro e s' h
        cases e with
        | exit j =>
          simp only at h ⊢
          split at h
          · rename_i hj
            have := Nat.eq_of_beq_eq_true hj
            subst this
            exact ⟨by simp, h⟩
          · exact h.elim
        | _ => exact h.elim
  · cases h
/-- the carries come to an end -/
theorem out_ends : ∀ (k : Nat) (d : Nat → Int), isB56 d → (dn d 0 16).toNat < k → ∃ m c, (∀ n, n < m → 0 < (outN d n).o) ∧ (outN d m).o = 0 ∧ isD (outN d m).d ∧ dn (outN d m).d 0 16 = dn d 0 16 - PP * c := by
  intro k
  induction k with
  | zero => intro d _ h; omega
  | succ k ih =>
    intro d hd hk
    obtain ⟨c, c1, c2, c3, c4, c5, c6⟩ := carN_16 hd
    have shift : ∀ n, (outN d (n + 2)) = outN (carN d 16).d (n + 1) := by
      intro n
      induction n with
      | zero => rfl
      | succ n ihn =>
        show carN (outN d (n + 2)).d 16 = carN (outN (carN d 16).d (n + 1)).d 16
        rw [ihn]
    have e1 : outN d 1 = carN d 16 := rfl
    rcases Int.lt_or_le 0 c with hc | hc
    · have hnn : 0 ≤ dn (carN d 16).d 0 16 := by
        have : ∀ (f : Nat → Int), (∀ j, j < 16 → 0 ≤ f j) → ∀ n i, i + n ≤ 16 → 0 ≤ dn f i n := by
          intro f hf n
          induction n with
          | zero => intro i _; exact Int.le_refl 0
          | succ n ihn =>
            intro i hi
            have := ihn (i + 1) (by omega)
            have := hf i (by omega)
            simp only [dn]
            omega
        exact this _ (fun j hj => (c4 j hj).1) 16 0 (by omega)
      obtain ⟨m, c', m1, m2, m3, m4⟩ := ih (carN d 16).d c4 (by omega)
      have hm0 : m ≠ 0 := by
        intro e
        subst e
        exact absurd m2 (by show ¬ (1 : Int) = 0; decide)
      obtain ⟨m', rfl⟩ := Nat.exists_eq_succ_of_ne_zero hm0
      refine ⟨m' + 2, 2 * c + c', fun n hn => ?_, ?_, ?_, ?_⟩
      · rcases n with _ | n
        · show (0 : Int) < 1; decide
        · rcases n with _ | n
          · rw [e1, c1]; exact hc
          · rw [shift]; exact m1 (n + 1) (by omega)
      · rw [shift]; exact m2
      · rw [shift]; exact m3
      · rw [shift, show dn (outN (carN d 16).d (m' + 1)).d 0 16 = dn (carN d 16).d 0 16 - PP * c' from m4, c6]
        unfold PP
        omega
    · have hc0 : c = 0 := by omega
      subst hc0
      refine ⟨1, 0, fun n hn => ?_, by rw [e1]; exact c1, by rw [e1]; exact c5 rfl, by rw [e1, c6]; omega⟩
      have : n = 0 := by omega
      subst this
      show (0 : Int) < 1; decide
noncomputable def carC (pa : Nat) (d g : Nat → Int) : LoopC := ⟨.loop f88c, carPre pa d 1, .normal, subPre pa g⟩
theorem car_lo {pa : Nat} (hp : isPa pa) {d : Nat → Int} (hd : isB56 d) : ∃ g c, isD g ∧ dn g 0 16 = dn d 0 16 - PP * c ∧ LoOk Try.prog [(6, carC pa d g)] := by
  obtain ⟨m, c, m1, m2, m3, m4⟩ := out_ends _ d hd (Nat.lt_succ_self _)
  refine ⟨(outN d m).d, c, m3, m4, ?_⟩
  refine lo_end (sy := []) (br := [63]) orcR_ok (fun n => carPre pa (outN d n).d (outN d n).o) m (subPre pa (outN d m).d) (fun n => carPre_low hp _ _) (subPre_low hp _) (fun n hn => ⟨[(8, innC pa (outN d n).d)], [true], 100, inn_lo hp _, ?_⟩) ⟨[false], 100, ?_⟩
  · have hw : carOutW pa (outN d n).d (outN d n).o := ⟨decide_eq_true (m1 n hn), rfl, innPre_refl hp _ _ _, carPre_refl hp _ _⟩
    rcases hp with rfl | rfl
    · exact of_eq' (car5 _ _) hw
    · exact of_eq' (car769 _ _) hw
  · have hz : decide ((outN d m).o > 0) = false := decide_eq_false (by rw [m2]; omega)
    rcases hp with rfl | rfl
    · exact of_eq' (carl5 _ _) ⟨hz, subPre_refl (Or.inl rfl) _⟩
    · exact of_eq' (carl769 _ _) ⟨hz, subPre_refl (Or.inr rfl) _⟩

/-! ## Taking the modulus away -/
def subX (d : Nat → Int) : Nat → Int := numD (nI (vN d) - nI pN).toNat
def subW (pa : Nat) (d : Nat → Int) : Prop :=
  ifP (isD (dOf (vN d)) ∧ isD (dOf pN)) = true ∧ (!decide (nI (vN d) < nI pN)) = true ∧ ifP (isD (dOf (vN d)) ∧ isD (dOf pN) ∧ nI pN ≤ nI (vN d)) = true ∧ leS (subPre pa (subX d)) (subPre pa (subX d))
theorem sub5 (d : Nat → Int) : evC tab orcR [(98, .ok), (102, .ok)] [99] [] 100 f88d (fun e _ s' => match e with | .normal => leS (subPre 5 (subX d)) s' | _ => False) [true] (subPre 5 d) = subW 5 d := by kernel_rfl
theorem sub769 (d : Nat → Int) : evC tab orcR [(98, .ok), (102, .ok)] [99] [] 100 f88d (fun e _ s' => match e with | .normal => leS (subPre 769 (subX d)) s' | _ => False) [true] (subPre 769 d) = subW 769 d := by kernel_rfl
theorem subl5 (d : Nat → Int) : evC tab orcR [(98, .ok), (102, .ok)] [99] [] 100 f88d (fun e _ s' => match e with | .exit j => (match Nat.beq j 10 with | true => leS (subPre 5 d) s' | false => False) | _ => False) [false] (subPre 5 d) =
    (ifP (isD (dOf (vN d)) ∧ isD (dOf pN)) = true ∧ (!decide (nI (vN d) < nI pN)) = false ∧ leS (subPre 5 d) (subPre 5 d)) := by kernel_rfl
theorem subl769 (d : Nat → Int) : evC tab orcR [(98, .ok), (102, .ok)] [99] [] 100 f88d (fun e _ s' => match e with | .exit j => (match Nat.beq j 10 with | true => leS (subPre 769 d) s' | false => False) | _ => False) [false] (subPre 769 d) =
    (ifP (isD (dOf (vN d)) ∧ isD (dOf pN)) = true ∧ (!decide (nI (vN d) < nI pN)) = false ∧ leS (subPre 769 d) (subPre 769 d)) := by kernel_rfl
theorem nI_pN : nI pN = PP := by
  show nI (vN (numD P)) = PP
  rw [nI_num (by unfold P; decide)]
  rfl
theorem isD_pN : isD (dOf pN) := isD_vN (isD_num _)
noncomputable def subC (pa : Nat) (g h : Nat → Int) : LoopC := ⟨.loop f88d, subPre pa g, .normal, subPre pa h⟩
theorem sub_lo {pa : Nat} (hp : isPa pa) (N : Nat) (hN : N < 115792089237316195423570985008687907853269984665640564039457584007913129639936) : LoOk Try.prog [(10, subC pa (numD N) (numD (N % P)))] := by
  have hP : P = 57896044618658097711785492504343953926634992332820282019728792003956564819949 := rfl
  have hPP : PP = 57896044618658097711785492504343953926634992332820282019728792003956564819949 := rfl
  have hm : N / P < 3 := by rw [hP]; omega
  have hdm := Nat.div_add_mod N P
  have hlt := Nat.mod_lt N Sap.P_pos
  generalize hq : N / P = m at *
  generalize hr : N % P = r at *
  have hd : ∀ k, k ≤ m → N - P * k < 115792089237316195423570985008687907853269984665640564039457584007913129639936 := fun k _ => by omega
  have hT0 : subPre pa (numD N) = subPre pa (numD (N - P * 0)) := by rw [Nat.mul_zero, Nat.sub_zero]
  unfold subC
  rw [hT0]
  refine lo_end (sy := [(98, .ok), (102, .ok)]) (br := [99]) orcR_ok (fun n => subPre pa (numD (N - P * n))) m (subPre pa (numD r)) (fun n => subPre_low hp _) (subPre_low hp _) (fun n hn => ⟨[], [true], 100, loOk_nil, ?_⟩) ⟨[false], 100, ?_⟩
  · have hv : nI (vN (numD (N - P * n))) = ((N - P * n : Nat) : Int) := nI_num (hd n (by omega))
    have hge : P ≤ N - P * n := by
      rw [hP] at hdm hlt ⊢
      have : n < 3 := by omega
      rcases (by omega : n = 0 ∨ n = 1 ∨ n = 2) with rfl | rfl | rfl <;> omega
    have hx : subX (numD (N - P * n)) = numD (N - P * (n + 1)) := by
      have e : (((N - P * n : Nat) : Int) - PP).toNat = N - P * (n + 1) := by
        rw [hPP]
        rw [hP] at hge ⊢
        omega
      unfold subX
      rw [hv, nI_pN, e]
    have hw : subW pa (numD (N - P * n)) := by
      refine ⟨ifP_of ⟨isD_vN (isD_num _), isD_pN⟩, ?_, ifP_of ⟨isD_vN (isD_num _), isD_pN, ?_⟩, subPre_refl hp _⟩
      · rw [hv, nI_pN, decide_eq_false]
        · rfl
        · rw [hPP]; rw [hP] at hge ⊢; omega
      · rw [hv, nI_pN, hPP]; rw [hP] at hge ⊢; omega
    rw [← hx]
    rcases hp with rfl | rfl
    · exact of_eq' (sub5 _) hw
    · exact of_eq' (sub769 _) hw
  · have er : N - P * m = r := by omega
    simp only [er]
    have hv : nI (vN (numD r)) = (r : Int) := nI_num (by omega)
    have hb : (!decide (nI (vN (numD r)) < nI pN)) = false := by
      rw [hv, nI_pN, decide_eq_true]
      · rfl
      · rw [hPP]; rw [hP] at hlt; omega
    rcases hp with rfl | rfl
    · exact of_eq' (subl5 _) ⟨ifP_of ⟨isD_vN (isD_num _), isD_pN⟩, hb, subPre_refl (Or.inl rfl) _⟩
    · exact of_eq' (subl769 _) ⟨ifP_of ⟨isD_vN (isD_num _), isD_pN⟩, hb, subPre_refl (Or.inr rfl) _⟩

/-! ## Fold -/
def slN (n c : Nat) : Value := .slice (some ⟨0, 0, none⟩) n c
def hpN (f : Nat → Int) (n : Nat) : Heap := [(0, ⟨cellsOf .i64 f n 0, 3, false, 0⟩)]
/-- what stands behind 2^256 is taken in -/
def r32 (f : Nat → Int) : Nat → Int := fun i => i64w (i64w (0 + f i) + i64w (38 * f (i + 16)))
theorem fold16_ev (c : Nat) (f g h : Nat → Int) : evBody tab orcR [] [] [(6, carC 5 f g), (10, subC 5 g h)] 2000 Try.f88 (bodyOf Try.f88) [slN 16 c] (hpN f 16) 1 [] (fun r => r = vN h) =
    (Code.loop f88c = Code.loop f88c ∧ leS (carPre 5 f 1) (carPre 5 f 1) ∧ Code.loop f88d = Code.loop f88d ∧ leS (subPre 5 g) (subPre 5 g) ∧ vN h = vN h) := by kernel_rfl
theorem fold32_ev (c : Nat) (f g h : Nat → Int) : evBody tab orcR [] [] [(6, carC 769 (r32 f) g), (10, subC 769 g h)] 2000 Try.f88 (bodyOf Try.f88) [slN 32 c] (hpN f 32) 1 [] (fun r => r = vN h) =
    (Code.loop f88c = Code.loop f88c ∧ leS (carPre 769 (r32 f) 1) (carPre 769 (r32 f) 1) ∧ Code.loop f88d = Code.loop f88d ∧ leS (subPre 769 g) (subPre 769 g) ∧ vN h = vN h) := by kernel_rfl
end Go.Proofs.Ythgefjgbkhkmgaa.Ev
