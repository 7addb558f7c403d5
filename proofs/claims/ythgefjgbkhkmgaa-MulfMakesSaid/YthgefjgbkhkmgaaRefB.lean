/-
  The document's numbers walked: Fold joined; Small, Add, double, Sub, Of, Key, Limbs.
-/
import Derived.Test.YthgefjgbkhkmgaaRefF
namespace Go.Proofs.Ythgefjgbkhkmgaa.Ev
open Go Go.RowKit
open Sap (F P toF)
attribute [local irreducible] evC evBody

theorem loOk_cons {a : Nat} {A : LoopC} {r : Lo} (h : LoOk Try.prog [(a, A)]) (hr : LoOk Try.prog r) : LoOk Try.prog ((a, A) :: r) := by
  intro id L hid
  simp only [loGet] at hid
  split at hid
  · rename_i hb
    have := Nat.eq_of_beq_eq_true hb
    subst this
    cases hid
    exact h a A (by simp [loGet])
  · exact hr id L hid

theorem atI_cells {k : IntKind} {f : Nat → Int} : ∀ (n i j : Nat), j < n → atI (cellsOf k f n i) j = f (i + j) := by
  intro n
  induction n with
  | zero => intro i j h; omega
  | succ n ih =>
    intro i j h
    cases j with
    | zero => rfl
    | succ j =>
      show atI (cellsOf k f n (i + 1)) j = _
      rw [ih (i + 1) j (by omega)]
      congr 1; omega
/-- digits as Fold takes them -/
def is50 (f : Nat → Int) (n : Nat) : Prop := ∀ j, j < n → 0 ≤ f j ∧ f j ≤ 1125899906842624
noncomputable def foldO : List Value → Blks → Option (Bool × Value)
  | [.slice (some ⟨b, 0, none⟩) n _], g => match g b with
    | some k => match Nat.beq k.ty 3 with
      | true => match Nat.beq n 16 && isA .i64 16 k.cs with
        | true => some (ifP (is50 (atI k.cs) 16), vNum (FI (dn (atI k.cs) 0 16)))
        | false => match Nat.beq n 32 && isA .i64 32 k.cs with
          | true => some (ifP (is50 (atI k.cs) 32), vNum (FI (dn (atI k.cs) 0 32)))
          | false => none
      | false => none
    | none => none
  | _, _ => none
theorem okV_vNum (a : F) : okV (vNum a) = true := by rfl
theorem vNum_small {m : Int} (h0 : 0 ≤ m) (h1 : m < PP) : vN (numD m.toNat) = vNum (FI m) := by
  unfold vNum
  rw [FI_val, Int.emod_eq_of_lt h0 h1]
theorem dn_pos {f : Nat → Int} (hf : ∀ j, j < 16 → 0 ≤ f j) : ∀ n i, i + n ≤ 16 → 0 ≤ dn f i n := by
  intro n
  induction n with
  | zero => intro i _; exact Int.le_refl 0
  | succ n ihn =>
    intro i hi
    have := ihn (i + 1) (by omega)
    have := hf i (by omega)
    simp only [dn]
    omega
/-- both loops -/
theorem fold_los {pa : Nat} (hp : isPa pa) {d : Nat → Int} (hd : isB56 d) : ∃ g h : Nat → Int, LoOk Try.prog [(6, carC pa d g), (10, subC pa g h)] ∧ vN h = vNum (FI (dn d 0 16)) := by
  obtain ⟨g, c, g1, g2, g3⟩ := car_lo hp hd
  obtain ⟨r0, r1⟩ := dn_range (f := g) 16 0 fun i _ hi => g1 i (by omega)
  rw [p16_16] at r1
  have hN : (dn g 0 16).toNat < 115792089237316195423570985008687907853269984665640564039457584007913129639936 := by omega
  have e : subPre pa g = subPre pa (numD (dn g 0 16).toNat) := by
    unfold subPre rHeap
    rw [cells_congr fun j _ hj => digit_of g1 (by omega)]
  refine ⟨numD (dn g 0 16).toNat, numD ((dn g 0 16).toNat % P), loOk_cons ?_ (sub_lo hp _ hN), ?_⟩
  · unfold carC at g3 ⊢
    rw [← e]
    exact g3
  · unfold vNum
    congr 2
    rw [FI_val, show dn d 0 16 = dn g 0 16 + PP * c by omega]
    have hP : P = 57896044618658097711785492504343953926634992332820282019728792003956564819949 := rfl
    unfold PP
    rw [hP]
    generalize dn g 0 16 = x at *
    omega
theorem fold_ctr {f : Nat → Int} {n c : Nat} {v : Value} (g : Blks) {b : Nat} {k : Blk} (hk : g b = some k) (hty : k.ty = 3) (hcs : k.cs = cellsOf .i64 f n 0) {lo : Lo} (hL : LoOk Try.prog lo)
    (hev : evBody tab orcR [] [] lo 2000 Try.f88 (bodyOf Try.f88) [slN n c] (hpN f n) 1 [] (fun r => r = v)) : Ctr Try.prog 88 [.slice (some ⟨b, 0, none⟩) n c] g v := by
  intro ρ w p1 p2 p3
  have key : Ctr Try.prog 88 [slN n c] (fun _ => g b) v := ctr_of_ev tabOk orcR_ok mixed hL Try.func88 (c := bodyOf Try.f88) (by kernel_rfl) hev (by intro i hi; simp [slN, idsOf, idOf] at hi; omega) (by
    intro i blk hib
    unfold hpN at hib
    simp only [hget] at hib
    split at hib
    · rename_i hbeq
      have := Nat.eq_of_beq_eq_true hbeq
      subst this
      cases hib
      refine ⟨by simp [slN, idsOf, idOf], rfl, rfl, k.own, k.ap, ?_⟩
      rw [hk, ← hcs, ← hty]
    · cases hib)
  refine key (fun _ => ρ b) w (fun i hi => ?_) (fun i hi j hj _ => ?_) (fun x hx => ?_)
  · obtain ⟨k', e1, e2⟩ := p1 b (by simp [idsOf, idOf])
    exact ⟨k', e1, e2⟩
  · simp [slN, idsOf, idOf] at hi hj
    omega
  · rw [List.mem_singleton] at hx
    subst hx
    exact trivial
theorem r32_val {f : Nat → Int} (hf : is50 f 32) : (∀ j, j < 16 → r32 f j = f j + 38 * f (j + 16)) ∧ isB56 (r32 f) ∧ FI (dn (r32 f) 0 16) = FI (dn f 0 32) := by
  have h1 : ∀ j, j < 16 → r32 f j = f j + 38 * f (j + 16) := by
    intro j hj
    have a := hf j (by omega)
    have b := hf (j + 16) (by omega)
    unfold r32
    rw [i64w_id (x := 0 + f j) (by omega) (by omega), i64w_id (x := 38 * f (j + 16)) (by omega) (by omega), i64w_id (by omega) (by omega)]
    omega
  refine ⟨h1, fun j hj => ?_, ?_⟩
  · rw [h1 j hj]
    have a := hf j (by omega)
    have b := hf (j + 16) (by omega)
    omega
  · have key : ∀ n i, i + n ≤ 16 → dn (r32 f) i n = dn f i n + 38 * dn f (i + 16) n := by
      intro n
      induction n with
      | zero => intro i _; rfl
      | succ n ih =>
        intro i hi
        simp only [dn]
        rw [ih (i + 1) (by omega), h1 i (by omega), show i + 16 + 1 = i + 1 + 16 by omega]
        omega
    have h2 := dn_add f 16 16 0
    rw [p16_16, Nat.zero_add] at h2
    rw [key 16 0 (by omega), Nat.zero_add, show (32 : Nat) = 16 + 16 from rfl, h2]
    apply FI_eq
    unfold PP
    omega
theorem fold_ok : HoOk 88 foldO := by
  refine ⟨⟨Try.f88, Try.func88, by kernel_rfl, by kernel_rfl⟩, fun args g c v h hc => ?_, fun args g g' hg => ?_⟩
  · unfold foldO at h
    split at h
    · rename_i b n cap
      split at h
      · rename_i k hk
        split at h
        · rename_i hty
          have hty := Nat.eq_of_beq_eq_true hty
          split at h
          · rename_i h16
            simp only [Bool.and_eq_true] at h16
            have hn := Nat.eq_of_beq_eq_true h16.1
            subst hn
            obtain ⟨f, hf⟩ := isA_eq h16.2
            cases h
            have hr := of_ifP hc
            have hdn : dn (atI k.cs) 0 16 = dn f 0 16 := dn_congr fun j _ hj => by rw [hf, atI_cells 16 0 j (by omega), Nat.zero_add]
            have hd : isB56 f := fun j hj => by
              have := hr j hj
              rw [hf, atI_cells 16 0 j hj, Nat.zero_add] at this
              omega
            rw [hdn]
            obtain ⟨q1, q2⟩ := okV_ok (okV_vNum (FI (dn f 0 16)))
            refine ⟨q1, q2, ?_⟩
            obtain ⟨g0, h0, hL, hv⟩ := fold_los (Or.inl rfl) hd
            rw [← hv]
            exact fold_ctr g hk hty hf hL (of_eq' (fold16_ev cap f g0 h0) ⟨rfl, carPre_refl (Or.inl rfl) _ _, rfl, subPre_refl (Or.inl rfl) _, rfl⟩)
          · split at h
            · rename_i h32
              simp only [Bool.and_eq_true] at h32
              have hn := Nat.eq_of_beq_eq_true h32.1
              subst hn
              obtain ⟨f, hf⟩ := isA_eq h32.2
              cases h
              have hr := of_ifP hc
              have hdn : dn (atI k.cs) 0 32 = dn f 0 32 := dn_congr fun j _ hj => by rw [hf, atI_cells 32 0 j (by omega), Nat.zero_add]
              have hd : is50 f 32 := fun j hj => by
                have := hr j hj
                rw [hf, atI_cells 32 0 j hj, Nat.zero_add] at this
                exact this
              obtain ⟨_, d56, hFI⟩ := r32_val hd
              rw [hdn, ← hFI]
              obtain ⟨q1, q2⟩ := okV_ok (okV_vNum (FI (dn (r32 f) 0 16)))
              refine ⟨q1, q2, ?_⟩
              obtain ⟨g0, h0, hL, hv⟩ := fold_los (Or.inr rfl) d56
              rw [← hv]
              exact fold_ctr g hk hty hf hL (of_eq' (fold32_ev cap f g0 h0) ⟨rfl, carPre_refl (Or.inr rfl) _ _, rfl, subPre_refl (Or.inr rfl) _, rfl⟩)
            · cases h
        · cases h
      · cases h
    · cases h
  · unfold foldO
    split
    · rename_i b n cap
      rw [hg b (by simp [idsOf, idOf])]
    · rfl
noncomputable def orcR1 : Orc := oaddH orcR 88 foldO
theorem orcR1_ok : OrcOk Try.prog orcR1 := oaddH_ok orcR_ok fold_ok

/-! ## Small -/
def smN (n : Int) : Nat → Int := fun j => match j with
  | 0 => i64w (n.tmod 65536)
  | 1 => i64w (IntKind.u32.wrap (n.tdiv 65536))
  | _ => 0
theorem smalln_ev (e : Env) : evBody tab orc0 [] [] [] 1000 Try.f42 (bodyOf Try.f42) (mkA smallS e 0) [] 0 [] (fun r => r = vN (smN (intV (a0 e smallS 0)))) = (vN (smN (intV (a0 e smallS 0))) = vN (smN (intV (a0 e smallS 0)))) := by kernel_rfl
noncomputable def smallnF (a : List Value) : Bool × Value := (ifP (0 ≤ intV (getD a 0) ∧ intV (getD a 0) < 4294967296), vNum (FI (intV (getD a 0))))
theorem smN_val {n : Int} (h : 0 ≤ n ∧ n < 4294967296) : vN (smN n) = vNum (FI n) := by
  have e0 : smN n 0 = n % 65536 := by
    show i64w (n.tmod 65536) = _
    rw [(tdm h.1).2, i64w_id (by omega) (by omega)]
  have e1 : smN n 1 = n / 65536 := by
    show i64w (IntKind.u32.wrap (n.tdiv 65536)) = _
    have : IntKind.u32.wrap (n / 65536) = n / 65536 := by
      simp [IntKind.wrap, IntKind.bits, IntKind.signed]
      omega
    rw [(tdm h.1).1, this, i64w_id (by omega) (by omega)]
  have hd : isD (smN n) := by
    intro j _
    rcases j with _ | _ | j
    · rw [e0]; omega
    · rw [e1]; omega
    · show 0 ≤ (0 : Int) ∧ (0 : Int) < 65536; omega
  have hs : dn (smN n) 0 16 = n := by
    have hz : dn (smN n) 2 14 = 0 := rfl
    show smN n 0 + 65536 * (smN n 1 + 65536 * dn (smN n) 2 14) = n
    rw [e0, e1, hz]
    omega
  rw [vN_of hd, hs, vNum_small h.1 (by unfold PP; omega)]
theorem smalln_ok : FoOk 42 (foOf smallS smallnF) := fo_of' Try.func42 (c := bodyOf Try.f42) (by kernel_rfl) (by kernel_rfl) (fun e => okV_vNum _) fun e hc => by
  have h : 0 ≤ intV (a0 e smallS 0) ∧ intV (a0 e smallS 0) < 4294967296 := of_ifP hc
  show ∀ g, Ctr Try.prog 42 (mkA smallS e 0) g (vNum (FI (intV (a0 e smallS 0))))
  rw [← smN_val h]
  exact fo_ctr orc0_ok Try.func42 (by kernel_rfl) ids_mk (of_eq' (smalln_ev e) rfl)

/-! ## Add, double -/
def adD (x y : Value) : Nat → Int := fun j => i64w (lim x j + lim y j)
theorem addn_ev (e : Env) : evBody tab orcR1 [(23, .ok)] [] [] 1000 Try.f51 (bodyOf Try.f51) (mkA numS2 e 0) [] 0 [] (fun r => r = vNum (FI (dn (atI (cellsOf .i64 (adD (a0 e numS2 0) (a0 e numS2 1)) 16 0)) 0 16))) =
    (ifP (is50 (atI (cellsOf .i64 (adD (a0 e numS2 0) (a0 e numS2 1)) 16 0)) 16) = true ∧ vNum (FI (dn (atI (cellsOf .i64 (adD (a0 e numS2 0) (a0 e numS2 1)) 16 0)) 0 16)) = vNum (FI (dn (atI (cellsOf .i64 (adD (a0 e numS2 0) (a0 e numS2 1)) 16 0)) 0 16))) := by kernel_rfl
noncomputable def addnF (a : List Value) : Bool × Value := (ifP (can (getD a 0) ∧ can (getD a 1)), vNum (NF (getD a 0) + NF (getD a 1)))
theorem dn_sum (f g h : Nat → Int) (he : ∀ j, h j = f j + g j) : ∀ n i, dn h i n = dn f i n + dn g i n := by
  intro n
  induction n with
  | zero => intro i; rfl
  | succ n ih =>
    intro i
    simp only [dn]
    rw [ih (i + 1), he]
    omega
theorem addn_val {x y : Value} (hx : can x) (hy : can y) : is50 (atI (cellsOf .i64 (adD x y) 16 0)) 16 ∧ FI (dn (atI (cellsOf .i64 (adD x y) 16 0)) 0 16) = NF x + NF y := by
  have dx := can_isD hx
  have dy := can_isD hy
  have h1 : ∀ j, j < 16 → atI (cellsOf .i64 (adD x y) 16 0) j = lim x j + lim y j := by
    intro j hj
    rw [atI_cells 16 0 j hj, Nat.zero_add]
    have a : 0 ≤ lim x j ∧ lim x j < 65536 := dx j hj
    have b : 0 ≤ lim y j ∧ lim y j < 65536 := dy j hj
    exact i64w_id (by omega) (by omega)
  refine ⟨fun j hj => ?_, ?_⟩
  · rw [h1 j hj]
    have a : 0 ≤ lim x j ∧ lim x j < 65536 := dx j hj
    have b : 0 ≤ lim y j ∧ lim y j < 65536 := dy j hj
    omega
  · have e : dn (atI (cellsOf .i64 (adD x y) 16 0)) 0 16 = dn (fun j => dOf x j + dOf y j) 0 16 := dn_congr fun j _ hj => h1 j (by omega)
    rw [e, dn_sum (dOf x) (dOf y) _ (fun _ => rfl), FI_add]
    rfl
theorem addn_ok : FoOk 51 (foOf numS2 addnF) := fo_of' Try.func51 (c := bodyOf Try.f51) (by kernel_rfl) (by kernel_rfl) (fun e => okV_vNum _) fun e hc => by
  have h := of_ifP hc
  show ∀ g, Ctr Try.prog 51 (mkA numS2 e 0) g (vNum (NF (a0 e numS2 0) + NF (a0 e numS2 1)))
  obtain ⟨v1, v2⟩ := addn_val (x := a0 e numS2 0) (y := a0 e numS2 1) h.1 h.2
  rw [← v2]
  exact fo_ctr orcR1_ok Try.func51 (by kernel_rfl) ids_mk (of_eq' (addn_ev e) ⟨ifP_of v1, rfl⟩)
noncomputable def orcR2 : Orc := oadd orcR1 51 (foOf numS2 addnF)
theorem orcR2_ok : OrcOk Try.prog orcR2 := oadd_ok orcR1_ok addn_ok
def numS1 : List Sh := [.arr .i64 16]
noncomputable def dblF (a : List Value) : Bool × Value := (ifP (can (getD a 0)), vNum (NF (getD a 0) + NF (getD a 0)))
theorem dbl_ev (e : Env) : evBody tab orcR2 [(5, .ok)] [] [] 1000 Try.f89 (bodyOf Try.f89) (mkA numS1 e 0) [] 0 [] (fun r => r = (dblF (mkA numS1 e 0)).2) =
    (ifP (can (a0 e numS1 0) ∧ can (a0 e numS1 0)) = true ∧ (dblF (mkA numS1 e 0)).2 = (dblF (mkA numS1 e 0)).2) := by kernel_rfl
theorem dbl_ok : FoOk 89 (foOf numS1 dblF) := fo_of' Try.func89 (c := bodyOf Try.f89) (by kernel_rfl) (by kernel_rfl) (fun e => okV_vNum _) fun e hc => by
  have h := of_ifP hc
  exact fo_ctr orcR2_ok Try.func89 (by kernel_rfl) ids_mk (of_eq' (dbl_ev e) ⟨ifP_of ⟨h, h⟩, rfl⟩)

/-! ## Sub -/
noncomputable def subnF (a : List Value) : Bool × Value := (ifP (can (getD a 0) ∧ can (getD a 1)), vNum (NF (getD a 0) - NF (getD a 1)))
noncomputable def difV (x y : Value) : Value := vN (numD (nI x - nI y).toNat)
theorem subn_lt (e : Env) : evBody tab orcR1 [(7, .ok), (11, .ok), (12, .ok)] [7] [] 1000 Try.f52 (bodyOf Try.f52) (mkA numS2 e 0) [] 0 [true] (fun r => r = difV pN (difV (a0 e numS2 1) (a0 e numS2 0))) =
    (ifP (isD (dOf (a0 e numS2 0)) ∧ isD (dOf (a0 e numS2 1))) = true ∧ decide (nI (a0 e numS2 0) < nI (a0 e numS2 1)) = true ∧
      ifP (isD (dOf (a0 e numS2 1)) ∧ isD (dOf (a0 e numS2 0)) ∧ nI (a0 e numS2 0) ≤ nI (a0 e numS2 1)) = true ∧
      ifP (isD (dOf pN) ∧ isD (dOf (difV (a0 e numS2 1) (a0 e numS2 0))) ∧ nI (difV (a0 e numS2 1) (a0 e numS2 0)) ≤ nI pN) = true ∧ difV pN (difV (a0 e numS2 1) (a0 e numS2 0)) = difV pN (difV (a0 e numS2 1) (a0 e numS2 0))) := by kernel_rfl
theorem subn_ge (e : Env) : evBody tab orcR1 [(7, .ok), (15, .ok)] [7] [] 1000 Try.f52 (bodyOf Try.f52) (mkA numS2 e 0) [] 0 [false] (fun r => r = difV (a0 e numS2 0) (a0 e numS2 1)) =
    (ifP (isD (dOf (a0 e numS2 0)) ∧ isD (dOf (a0 e numS2 1))) = true ∧ decide (nI (a0 e numS2 0) < nI (a0 e numS2 1)) = false ∧
      ifP (isD (dOf (a0 e numS2 0)) ∧ isD (dOf (a0 e numS2 1)) ∧ nI (a0 e numS2 1) ≤ nI (a0 e numS2 0)) = true ∧ difV (a0 e numS2 0) (a0 e numS2 1) = difV (a0 e numS2 0) (a0 e numS2 1)) := by kernel_rfl
theorem subn_ok : FoOk 52 (foOf numS2 subnF) := fo_of' Try.func52 (c := bodyOf Try.f52) (by kernel_rfl) (by kernel_rfl) (fun e => okV_vNum _) fun e hc => by
  have h := of_ifP (p := can (a0 e numS2 0) ∧ can (a0 e numS2 1)) hc
  show ∀ g, Ctr Try.prog 52 (mkA numS2 e 0) g (vNum (NF (a0 e numS2 0) - NF (a0 e numS2 1)))
  have hl := subn_lt e
  have hg := subn_ge e
  generalize a0 e numS2 0 = x at *
  generalize a0 e numS2 1 = y at *
  obtain ⟨hx, hy⟩ := h
  have dx := can_isD hx
  have dy := can_isD hy
  have nx := can_nI hx
  have ny := can_nI hy
  have lx := F_lt (NF x)
  have ly := F_lt (NF y)
  have hPP : PP = 57896044618658097711785492504343953926634992332820282019728792003956564819949 := rfl
  by_cases hlt : nI x < nI y
  · have e1 : nI (difV y x) = nI y - nI x := by
      unfold difV
      rw [nI_num (by omega)]
      omega
    have hv : difV pN (difV y x) = vNum (NF x - NF y) := by
      show vN (numD (nI pN - nI (difV y x)).toNat) = _
      rw [e1, nI_pN, vNum_small (by rw [hPP]; omega) (by rw [hPP]; omega)]
      congr 1
      show FI (PP - (nI y - nI x)) = FI (nI x) - FI (nI y)
      rw [← FI_sub]
      exact FI_eq (by rw [hPP]; omega)
    rw [← hv]
    exact fo_ctr orcR1_ok Try.func52 (by kernel_rfl) ids_mk (of_eq' hl ⟨ifP_of ⟨dx, dy⟩, decide_eq_true hlt, ifP_of ⟨dy, dx, by omega⟩, ifP_of ⟨isD_pN, isD_vN (isD_num _), by rw [e1, nI_pN, hPP]; omega⟩, rfl⟩)
  · have hv : difV x y = vNum (NF x - NF y) := by
      show vN (numD (nI x - nI y).toNat) = _
      rw [vNum_small (by omega) (by rw [hPP]; omega)]
      congr 1
      exact FI_sub _ _
    rw [← hv]
    exact fo_ctr orcR1_ok Try.func52 (by kernel_rfl) ids_mk (of_eq' hg ⟨ifP_of ⟨dx, dy⟩, decide_eq_false hlt, ifP_of ⟨dx, dy, by omega⟩, rfl⟩)

/-! ## Of -/
def ofD0 (k : Value) (j : Nat) : Int := i64w (i64w (lim k (2 * j)) + i64w (256 * i64w (lim k (2 * j + 1))))
def ofD (k : Value) : Nat → Int := fun j => match Nat.beq j 15 with
  | true => (ofD0 k 15).tmod 32768
  | false => ofD0 k j
theorem ofn_ev (e : Env) : evBody tab orcR1 [(33, .ok)] [] [] 1000 Try.f41 (bodyOf Try.f41) (mkA zeroS e 0) [] 0 [] (fun r => r = vNum (FI (dn (atI (cellsOf .i64 (ofD (a0 e zeroS 0)) 16 0)) 0 16))) =
    (ifP (is50 (atI (cellsOf .i64 (ofD (a0 e zeroS 0)) 16 0)) 16) = true ∧ vNum (FI (dn (atI (cellsOf .i64 (ofD (a0 e zeroS 0)) 16 0)) 0 16)) = vNum (FI (dn (atI (cellsOf .i64 (ofD (a0 e zeroS 0)) 16 0)) 0 16))) := by kernel_rfl
noncomputable def ofnF (a : List Value) : Bool × Value := (ifP (isK (dOf (getD a 0))), vNum (numV (dOf (getD a 0))))
theorem dn_hn (f : Nat → Int) : ∀ n j, dn (fun i => f (2 * i) + 256 * f (2 * i + 1)) j n = hn f (2 * j) (2 * n) := by
  intro n
  induction n with
  | zero => intro j; rfl
  | succ n ih =>
    intro j
    rw [show 2 * (n + 1) = 2 * n + 1 + 1 by omega]
    simp only [dn, hn]
    rw [ih (j + 1), show 2 * (j + 1) = 2 * j + 1 + 1 by omega]
    omega
theorem ofn_val {k : Value} (hk : isK (dOf k)) : is50 (atI (cellsOf .i64 (ofD k) 16 0)) 16 ∧ FI (dn (atI (cellsOf .i64 (ofD k) 16 0)) 0 16) = numV (dOf k) := by
  have h0 : ∀ j, j < 16 → ofD0 k j = dOf k (2 * j) + 256 * dOf k (2 * j + 1) ∧ 0 ≤ ofD0 k j ∧ ofD0 k j < 65536 := by
    intro j hj
    obtain ⟨a1, a2⟩ := hk (2 * j) (by omega)
    obtain ⟨b1, b2⟩ := hk (2 * j + 1) (by omega)
    have e : ofD0 k j = dOf k (2 * j) + 256 * dOf k (2 * j + 1) := by
      show i64w (i64w (dOf k (2 * j)) + i64w (256 * i64w (dOf k (2 * j + 1)))) = _
      rw [i64w_id (x := dOf k (2 * j)) (by omega) (by omega), i64w_id (x := dOf k (2 * j + 1)) (by omega) (by omega), i64w_id (x := 256 * dOf k (2 * j + 1)) (by omega) (by omega), i64w_id (by omega) (by omega)]
    rw [e]
    exact ⟨rfl, by omega, by omega⟩
  have h15 := h0 15 (by omega)
  have e15 : (ofD0 k 15).tmod 32768 = ofD0 k 15 % 32768 := Int.tmod_eq_emod_of_nonneg h15.2.1
  have hA : ∀ j, j < 16 → atI (cellsOf .i64 (ofD k) 16 0) j = ofD k j := fun j hj => by rw [atI_cells 16 0 j hj, Nat.zero_add]
  have hO : ∀ j, j < 15 → ofD k j = dOf k (2 * j) + 256 * dOf k (2 * j + 1) := by
    intro j hj
    unfold ofD
    split
    · rename_i hb; have := Nat.eq_of_beq_eq_true hb; omega
    · exact (h0 j (by omega)).1
  have hO15 : ofD k 15 = ofD0 k 15 % 32768 := e15
  refine ⟨fun j hj => ?_, ?_⟩
  · rw [hA j hj]
    rcases Nat.lt_or_ge j 15 with h | h
    · rw [hO j h, ← (h0 j hj).1]
      have := h0 j hj
      omega
    · have : j = 15 := by omega
      subst this
      rw [hO15]; omega
  · have e1 : dn (atI (cellsOf .i64 (ofD k) 16 0)) 0 16 = dn (ofD k) 0 16 := dn_congr fun j _ hj => hA j (by omega)
    have e2 := dn_add (ofD k) 15 1 0
    have e3 : dn (ofD k) (0 + 15) 1 = ofD0 k 15 % 32768 := by
      rw [← hO15]; simp [dn]
    have e4 : dn (ofD k) 0 15 = hn (dOf k) 0 30 := by
      rw [dn_congr (f := ofD k) (g := fun i => dOf k (2 * i) + 256 * dOf k (2 * i + 1)) fun j _ hj => hO j (by omega)]
      exact dn_hn (dOf k) 15 0
    have e5 := hn_add (dOf k) 30 2 0
    have e6 : hn (dOf k) (0 + 30) 2 = ofD0 k 15 := by
      rw [h15.1]; simp [hn]
    have e30 : (256 : Int) ^ 30 = 1766847064778384329583297500742918515827483896875618958121606201292619776 := by decide
    have p15 : (65536 : Int) ^ 15 = 1766847064778384329583297500742918515827483896875618958121606201292619776 := by decide
    rw [e6, e30] at e5
    rw [e3, e4, p15] at e2
    rw [e1, e2]
    unfold numV
    show _ = FI (hn (dOf k) 0 32 % _)
    rw [show (32 : Nat) = 30 + 2 from rfl, e5]
    obtain ⟨r0, r1⟩ := hn_range hk 30 0 (by omega)
    rw [e30] at r1
    congr 1
    generalize hn (dOf k) 0 30 = a at *
    generalize ofD0 k 15 = b at *
    omega
theorem ofn_ok : FoOk 41 (foOf zeroS ofnF) := fo_of' Try.func41 (c := bodyOf Try.f41) (by kernel_rfl) (by kernel_rfl) (fun e => okV_vNum _) fun e hc => by
  have h := of_ifP hc
  show ∀ g, Ctr Try.prog 41 (mkA zeroS e 0) g (vNum (numV (dOf (a0 e zeroS 0))))
  obtain ⟨v1, v2⟩ := ofn_val (k := a0 e zeroS 0) h
  rw [← v2]
  exact fo_ctr orcR1_ok Try.func41 (by kernel_rfl) ids_mk (of_eq' (ofn_ev e) ⟨ifP_of v1, rfl⟩)

/-! ## Key -/
def knF (a : Value) : Nat → Int := fun j => match Nat.beq (j % 2) 0 with
  | true => IntKind.u8.wrap ((lim a (j / 2)).tmod 256)
  | false => IntKind.u8.wrap (i64w ((lim a (j / 2)).tdiv 256))
theorem keyn_ev (e : Env) : evBody tab orc0 [] [] [] 1000 Try.f43 (bodyOf Try.f43) (mkA numS1 e 0) [] 0 [] (fun r => r = vK (knF (a0 e numS1 0))) = (vK (knF (a0 e numS1 0)) = vK (knF (a0 e numS1 0))) := by kernel_rfl
noncomputable def keynF (a : List Value) : Bool × Value := (ifP (can (getD a 0)), vK (digN (NF (getD a 0)).val))
theorem keyn_val {a : Value} (h : can a) : vK (knF a) = vK (digN (NF a).val) := by
  have key : ∀ j, j < 32 → knF a j = digN (NF a).val j := by
    intro j hj
    have hl : lim a (j / 2) = numD (NF a).val (j / 2) := by
      conv => lhs; rw [h]
      exact lim_vN (by omega)
    have e : 65536 ^ (j / 2) * 256 ^ (j % 2) = 2 ^ (8 * j) := by
      have e1 : (65536 : Nat) = 2 ^ 16 := by decide
      have e2 : (256 : Nat) = 2 ^ 8 := by decide
      rw [e1, e2, ← Nat.pow_mul, ← Nat.pow_mul, ← Nat.pow_add]
      congr 1
      omega
    unfold knF digN
    rw [hl, ← e, ← Nat.div_div_eq_div_mul]
    unfold numD
    generalize (NF a).val / 65536 ^ (j / 2) = m
    have hr : 0 ≤ ((m % 65536 : Nat) : Int) := by omega
    rcases (by omega : j % 2 = 0 ∨ j % 2 = 1) with h2 | h2
    · rw [h2]
      show IntKind.u8.wrap (((m % 65536 : Nat) : Int).tmod 256) = ((m / 256 ^ 0 % 256 : Nat) : Int)
      rw [Int.tmod_eq_emod_of_nonneg hr, wrap_u8, Nat.pow_zero, Nat.div_one]
      omega
    · rw [h2]
      show IntKind.u8.wrap (i64w (((m % 65536 : Nat) : Int).tdiv 256)) = ((m / 256 ^ 1 % 256 : Nat) : Int)
      rw [Int.tdiv_eq_ediv_of_nonneg hr, i64w_id (by omega) (by omega), wrap_u8, Nat.pow_one]
      omega
  show Value.agg _ = Value.agg _
  rw [cells_congr fun j _ hj => key j (by omega)]
theorem okV_vK (f : Nat → Int) : okV (vK f) = true := by rfl
theorem keyn_ok : FoOk 43 (foOf numS1 keynF) := fo_of' Try.func43 (c := bodyOf Try.f43) (by kernel_rfl) (by kernel_rfl) (fun e => okV_vK _) fun e hc => by
  have h := of_ifP hc
  show ∀ g, Ctr Try.prog 43 (mkA numS1 e 0) g (vK (digN (NF (a0 e numS1 0)).val))
  rw [← keyn_val (a := a0 e numS1 0) h]
  exact fo_ctr orc0_ok Try.func43 (by kernel_rfl) ids_mk (of_eq' (keyn_ev e) rfl)

/-! ## Limbs -/
noncomputable def orcR3 : Orc := oadd orcR2 89 (foOf numS1 dblF)
theorem orcR3_ok : OrcOk Try.prog orcR3 := oadd_ok orcR2_ok dbl_ok
noncomputable def f44j : Code := inB (blockIn 2 (bodyOf Try.f44))
noncomputable def f44i : Code := inB (blockIn 0 (bodyOf Try.f44))
def lbH (x : Value) (v : F) : Heap := [(0, ⟨cellsV x, 35, true, 0⟩), (1, ⟨zrep 16 (.int .i64 0), 45, true, 0⟩), (2, ⟨cellsV (vNum v), 45, true, 0⟩)]
def lbPre (x : Value) (v : F) (c : Int) : AS := ⟨tmps [(1, ptr 0), (2, ptr 1), (3, ptr 2), (4, .int .i64 c)] 42 0, lbH x v, 200⟩
def lbIn (x : Value) (v : F) (c j : Int) : AS := ⟨tmps [(1, ptr 0), (2, ptr 1), (3, ptr 2), (4, .int .i64 c), (5, .int .i64 j)] 42 0, lbH x v, 200⟩
theorem lbi_round (f : Nat → Int) (v : F) (c j : Int) : evC tab orcR3 [(17, .ok)] [13] [] 100 f44j (fun e _ s' => match e with | .normal => leS (lbIn (lims f) (NF (vNum v) + NF (vNum v)) c (i64w (j + 1))) s' | _ => False) [true] (lbIn (lims f) v c j) =
    (decide (j < 51) = true ∧ ifP (can (vNum v)) = true ∧ leS (lbIn (lims f) (NF (vNum v) + NF (vNum v)) c (i64w (j + 1))) (lbIn (lims f) (NF (vNum v) + NF (vNum v)) c (i64w (j + 1)))) := by kernel_rfl
theorem lbi_last (f : Nat → Int) (v : F) (c j : Int) : evC tab orcR3 [(17, .ok)] [13] [] 100 f44j (fun e _ s' => match e with | .exit i => (match Nat.beq i 2 with | true => leS (lbIn (lims f) v c j) s' | false => False) | _ => False) [false] (lbIn (lims f) v c j) =
    (decide (j < 51) = false ∧ leS (lbIn (lims f) v c j) (lbIn (lims f) v c j)) := by kernel_rfl
theorem lbIn_refl (x : Value) (v : F) (c j : Int) : leS (lbIn x v c j) (lbIn x v c j) := ⟨leT_refl _, rfl, rfl, rfl, trivial⟩
theorem lbPre_refl (x : Value) (v : F) (c : Int) : leS (lbPre x v c) (lbPre x v c) := ⟨leT_refl _, rfl, rfl, rfl, trivial⟩
theorem lbIn_low (x : Value) (v : F) (c j : Int) : low (lbIn x v c j) = true := by kernel_rfl
theorem lbPre_low (x : Value) (v : F) (c : Int) : low (lbPre x v c) = true := by kernel_rfl
/-- doubled so often -/
def dbN (v : F) : Nat → F
  | 0 => v
  | n + 1 => dbN v n + dbN v n
noncomputable def lbiC (f : Nat → Int) (v : F) (c : Int) : LoopC := ⟨.loop f44j, lbIn (lims f) (dbN v 0) c (.ofNat 0), .normal, lbIn (lims f) (dbN v 51) c (.ofNat 51)⟩
theorem lbi_lo (f : Nat → Int) (v : F) (c : Int) : LoOk Try.prog [(2, lbiC f v c)] := by
  refine lo_cnt (sy := [(17, .ok)]) (br := [13]) orcR3_ok loOk_nil (fun n => lbIn (lims f) (dbN v n) c (.ofNat n)) 51 (fun n => lbIn_low _ _ _ _) (fun n hn => ⟨[true], 100, ?_⟩) ⟨[false], 100, ?_⟩
  · have h := lbi_round f (dbN v n) c (Int.ofNat n)
    have e : i64w (Int.ofNat n + 1) = Int.ofNat (n + 1) := by
      show i64w ((n : Int) + 1) = ((n + 1 : Nat) : Int)
      rw [i64w_id (by omega) (by omega)]; omega
    rw [NF_vNum, e] at h
    exact of_eq' h ⟨decide_eq_true (by show (n : Int) < 51; omega), ifP_of (can_vNum _), lbIn_refl _ _ _ _⟩
  · exact of_eq' (lbi_last f (dbN v 51) c (Int.ofNat 51)) ⟨rfl, lbIn_refl _ _ _ _⟩
/-- a limb's digits -/
def lbD (l : Int) : List Value := [.int .i64 (i64w (l.tmod 65536)), .int .i64 (i64w ((IntKind.u64.wrap (l.tdiv 65536)).tmod 65536)), .int .i64 (i64w ((IntKind.u64.wrap (l.tdiv 4294967296)).tmod 65536)), .int .i64 (i64w (IntKind.u64.wrap (l.tdiv 281474976710656))), .int .i64 0, .int .i64 0, .int .i64 0, .int .i64 0, .int .i64 0, .int .i64 0, .int .i64 0, .int .i64 0, .int .i64 0, .int .i64 0, .int .i64 0, .int .i64 0]
/-- behind a round of the outer loop -/
noncomputable def lbV (v : F) (l : Int) : F := NF (vNum (dbN v 51)) + NF (vNum (FI (dn (atI (lbD l)) 0 16)))
def lbC (n : Nat) : Int := match Nat.ble n 4 with
  | true => .ofNat (4 - n)
  | false => .negSucc 0
noncomputable def lbRound (f : Nat → Int) (v : F) (n : Nat) : Prop := evC tab orcR3 [(39, .ok), (40, .ok)] [] [(2, lbiC f v (lbC n))] 100 f44i (fun e _ s' => match e with | .normal => leS (lbPre (lims f) (lbV v (lim (lims f) (4 - n))) (lbC (n + 1))) s' | _ => False) [] (lbPre (lims f) v (lbC n))
noncomputable def lbWant (f : Nat → Int) (v : F) (n : Nat) : Prop := Code.loop f44j = Code.loop f44j ∧ leS (lbIn (lims f) (dbN v 0) (lbC n) (.ofNat 0)) (lbIn (lims f) (dbN v 0) (lbC n) (.ofNat 0)) ∧
  ifP (is50 (atI (lbD (lim (lims f) (4 - n)))) 16) = true ∧ ifP (can (vNum (dbN v 51)) ∧ can (vNum (FI (dn (atI (lbD (lim (lims f) (4 - n)))) 0 16)))) = true ∧
  leS (lbPre (lims f) (lbV v (lim (lims f) (4 - n))) (lbC (n + 1))) (lbPre (lims f) (lbV v (lim (lims f) (4 - n))) (lbC (n + 1)))
theorem lb_round (f : Nat → Int) (v : F) : List.map (lbRound f v) (runN 0 5) = mapL (lbWant f v) (runN 0 5) := by kernel_rfl
theorem lb_last (f : Nat → Int) (v : F) : evC tab orcR3 [(39, .ok), (40, .ok)] [] [] 100 f44i (fun e _ s' => match e with | .exit i => (match Nat.beq i 0 with | true => leS (lbPre (lims f) v (lbC 5)) s' | false => False) | _ => False) [] (lbPre (lims f) v (lbC 5)) = leS (lbPre (lims f) v (lbC 5)) (lbPre (lims f) v (lbC 5)) := by kernel_rfl
theorem lbD_val {l : Int} (h : 0 ≤ l ∧ l < 18446744073709551616) : is50 (atI (lbD l)) 16 ∧ dn (atI (lbD l)) 0 16 = l := by
  have e0 : i64w (l.tmod 65536) = l % 65536 := by rw [Int.tmod_eq_emod_of_nonneg h.1, i64w_id (by omega) (by omega)]
  have e1 : i64w ((IntKind.u64.wrap (l.tdiv 65536)).tmod 65536) = l / 65536 % 65536 := by
    rw [Int.tdiv_eq_ediv_of_nonneg h.1, wrap_u64, Int.tmod_eq_emod_of_nonneg (by omega), i64w_id (by omega) (by omega)]; omega
  have e2 : i64w ((IntKind.u64.wrap (l.tdiv 4294967296)).tmod 65536) = l / 4294967296 % 65536 := by
    rw [Int.tdiv_eq_ediv_of_nonneg h.1, wrap_u64, Int.tmod_eq_emod_of_nonneg (by omega), i64w_id (by omega) (by omega)]; omega
  have e3 : i64w (IntKind.u64.wrap (l.tdiv 281474976710656)) = l / 281474976710656 := by
    rw [Int.tdiv_eq_ediv_of_nonneg h.1, wrap_u64, i64w_id (by omega) (by omega)]; omega
  have g0 : atI (lbD l) 0 = l % 65536 := e0
  have g1 : atI (lbD l) 1 = l / 65536 % 65536 := e1
  have g2 : atI (lbD l) 2 = l / 4294967296 % 65536 := e2
  have g3 : atI (lbD l) 3 = l / 281474976710656 := e3
  have gz : ∀ j, 4 ≤ j → j < 16 → atI (lbD l) j = 0 := by
    intro j h1 h2
    rcases (by omega : j = 4 ∨ j = 5 ∨ j = 6 ∨ j = 7 ∨ j = 8 ∨ j = 9 ∨ j = 10 ∨ j = 11 ∨ j = 12 ∨ j = 13 ∨ j = 14 ∨ j = 15) with rfl | rfl | rfl | rfl | rfl | rfl | rfl | rfl | rfl | rfl | rfl | rfl <;> rfl
  refine ⟨fun j hj => ?_, ?_⟩
  · rcases (by omega : j = 0 ∨ j = 1 ∨ j = 2 ∨ j = 3 ∨ 4 ≤ j) with rfl | rfl | rfl | rfl | h4
    · rw [g0]; omega
    · rw [g1]; omega
    · rw [g2]; omega
    · rw [g3]; omega
    · rw [gz j h4 hj]; omega
  · have hz : dn (atI (lbD l)) 4 12 = 0 := by
      have : dn (atI (lbD l)) 4 12 = dn (fun _ => 0) 4 12 := dn_congr fun j h1 h2 => gz j h1 (by omega)
      rw [this]; rfl
    show atI (lbD l) 0 + 65536 * (atI (lbD l) 1 + 65536 * (atI (lbD l) 2 + 65536 * (atI (lbD l) 3 + 65536 * dn (atI (lbD l)) 4 12))) = l
    rw [g0, g1, g2, g3, hz]
    omega
/-- behind n rounds -/
noncomputable def lbS (f : Nat → Int) : Nat → F
  | 0 => 0
  | n + 1 => lbV (lbS f n) (lim (lims f) (4 - n))
noncomputable def lbOC (f : Nat → Int) : LoopC := ⟨.loop f44i, lbPre (lims f) (lbS f 0) (lbC 0), .normal, lbPre (lims f) (lbS f 5) (lbC 5)⟩
theorem lb_lo {f : Nat → Int} (hf : ∀ j, j < 5 → 0 ≤ f j ∧ f j < 18446744073709551616) : LoOk Try.prog [(0, lbOC f)] := by
  refine lo_end (sy := [(39, .ok), (40, .ok)]) (br := []) orcR3_ok (fun n => lbPre (lims f) (lbS f n) (lbC n)) 5 _ (fun n => lbPre_low _ _ _) (lbPre_low _ _ _) (fun n hn => ⟨[(2, lbiC f (lbS f n) (lbC n))], [], 100, lbi_lo _ _ _, ?_⟩) ⟨[], 100, ?_⟩
  · have hl : 0 ≤ lim (lims f) (4 - n) ∧ lim (lims f) (4 - n) < 18446744073709551616 := by
      have : lim (lims f) (4 - n) = f (4 - n) := by
        rcases (by omega : n = 0 ∨ n = 1 ∨ n = 2 ∨ n = 3 ∨ n = 4) with rfl | rfl | rfl | rfl | rfl <;> rfl
      rw [this]
      exact hf _ (by omega)
    have hk := mapL_eq (lb_round f (lbS f n)) n (mem_runN (by omega) (by omega))
    exact of_eq' hk ⟨rfl, lbIn_refl _ _ _ _, ifP_of (lbD_val hl).1, ifP_of ⟨can_vNum _, can_vNum _⟩, lbPre_refl _ _ _⟩
  · exact of_eq' (lb_last f (lbS f 5)) (lbPre_refl _ _ _)
theorem dbN_val (v : F) : ∀ n, dbN v n = toF (2 ^ n) * v := by
  intro n
  induction n with
  | zero => show v = toF 1 * v; rw [Sap.toF_one]; grind
  | succ n ih =>
    show dbN v n + dbN v n = _
    rw [ih, Nat.pow_succ, Sap.toF_mul]
    have : toF 2 = 2 := by decide +kernel
    rw [this]
    grind
theorem lbV_val (v : F) {l : Int} (h : 0 ≤ l ∧ l < 18446744073709551616) : lbV v l = FI 2251799813685248 * v + FI l := by
  unfold lbV
  rw [NF_vNum, NF_vNum, dbN_val, (lbD_val h).2, show (2251799813685248 : Int) = ((2 ^ 51 : Nat) : Int) by decide, FI_nat]
def inU (x : Value) : Prop := bnd x 18446744073709551615
theorem lbS_val {f : Nat → Int} (hf : ∀ j, j < 5 → 0 ≤ f j ∧ f j < 18446744073709551616) : lbS f 5 = FV (lims f) := by
  have e : lbS f 5 = lbV (lbV (lbV (lbV (lbV 0 (f 4)) (f 3)) (f 2)) (f 1)) (f 0) := rfl
  rw [e, lbV_val _ (hf 4 (by omega)), lbV_val _ (hf 3 (by omega)), lbV_val _ (hf 2 (by omega)), lbV_val _ (hf 1 (by omega)), lbV_val _ (hf 0 (by omega))]
  have hv : FV (lims f) = FI (f 0 + 2251799813685248 * (f 1 + 2251799813685248 * (f 2 + 2251799813685248 * (f 3 + 2251799813685248 * f 4)))) := by
    unfold FV
    congr 1
    show f 0 + 2251799813685248 * f 1 + 5070602400912917605986812821504 * f 2 + 11417981541647679048466287755595961091061972992 * f 3 + 25711008708143844408671393477458601640355247900524685364822016 * f 4 = _
    omega
  rw [hv, FI_add, FI_mul, FI_add, FI_mul, FI_add, FI_mul, FI_add, FI_mul]
  generalize FI 2251799813685248 = B
  grind
noncomputable def limbsF (a : List Value) : Bool × Value := (ifP (inU (getD a 0)), vNum (FV (getD a 0)))
theorem limbs_ev (e : Env) : evBody tab orcR3 [] [] [(0, lbOC (e.i 0))] 1000 Try.f44 (bodyOf Try.f44) (mkA elS e 0) [] 0 [] (fun r => r = vNum (lbS (e.i 0) 5)) =
    (Code.loop f44i = Code.loop f44i ∧ leS (lbPre (lims (e.i 0)) (lbS (e.i 0) 0) (lbC 0)) (lbPre (lims (e.i 0)) (lbS (e.i 0) 0) (lbC 0)) ∧ vNum (lbS (e.i 0) 5) = vNum (lbS (e.i 0) 5)) := by kernel_rfl
theorem limbs_ok : FoOk 44 (foOf elS limbsF) := fo_of' Try.func44 (c := bodyOf Try.f44) (by kernel_rfl) (by kernel_rfl) (fun e => okV_vNum _) fun e hc => by
  have h : inU (lims (e.i 0)) := of_ifP hc
  show ∀ g, Ctr Try.prog 44 (mkA elS e 0) g (vNum (FV (lims (e.i 0))))
  have hf : ∀ j, j < 5 → 0 ≤ e.i 0 j ∧ e.i 0 j < 18446744073709551616 := by
    obtain ⟨⟨a0, a1⟩, ⟨b0, b1⟩, ⟨c0, c1⟩, ⟨d0, d1⟩, ⟨e0, e1⟩⟩ := h
    have q0 : lim (lims (e.i 0)) 0 = e.i 0 0 := rfl
    have q1 : lim (lims (e.i 0)) 1 = e.i 0 1 := rfl
    have q2 : lim (lims (e.i 0)) 2 = e.i 0 2 := rfl
    have q3 : lim (lims (e.i 0)) 3 = e.i 0 3 := rfl
    have q4 : lim (lims (e.i 0)) 4 = e.i 0 4 := rfl
    rw [q0] at a0 a1
    rw [q1] at b0 b1
    rw [q2] at c0 c1
    rw [q3] at d0 d1
    rw [q4] at e0 e1
    intro j hj
    rcases (by omega : j = 0 ∨ j = 1 ∨ j = 2 ∨ j = 3 ∨ j = 4) with rfl | rfl | rfl | rfl | rfl
    · exact ⟨a0, by omega⟩
    · exact ⟨b0, by omega⟩
    · exact ⟨c0, by omega⟩
    · exact ⟨d0, by omega⟩
    · exact ⟨e0, by omega⟩
  rw [← lbS_val hf]
  exact fo_ctr orcR3_ok Try.func44 (by kernel_rfl) ids_mk (of_eq' (limbs_ev e) ⟨rfl, lbPre_refl _ _ _, rfl⟩) (lb_lo hf)
end Go.Proofs.Ythgefjgbkhkmgaa.Ev
