/-
  The document's numbers walked: Fold joined; Small, Add, double, Sub.
-/
import Derived.Test.YthgefjgbkhkmgaaRefF
namespace Go.Proofs.Ythgefjgbkhkmgaa.Ev
open Go Go.RowKit
open Sap (F P toF)
attribute [local irreducible] evC evBody

theorem loOk_cons {a : Nat} {A : LoopC} {r : Lo} (h : LoOk Try.prog [(a, A)]) (hr : LoOk Try.prog r) : LoOk Try.prog ((a, A) :: r) := by
  intro id L hid
  simp only [loGet] at hid
  split at hid
  · rename_i hb
    have := Nat.eq_of_beq_eq_true hb
    subst this
    cases hid
    exact h a A (by simp [loGet])
  · exact hr id L hid

theorem atI_cells {k : IntKind} {f : Nat → Int} : ∀ (n i j : Nat), j < n → atI (cellsOf k f n i) j = f (i + j) := by
  intro n
  induction n with
  | zero => intro i j h; omega
  | succ n ih =>
    intro i j h
    cases j with
    | zero => rfl
    | succ j =>
      show atI (cellsOf k f n (i + 1)) j = _
      rw [ih (i + 1) j (by omega)]
      congr 1; omega
/-- digits as Fold takes them -/
def is50 (f : Nat → Int) (n : Nat) : Prop := ∀ j, j < n → 0 ≤ f j ∧ f j ≤ 1125899906842624
noncomputable def foldO : List Value → Blks → Option (Bool × Value)
  | [.slice (some ⟨b, 0, none⟩) n _], g => match g b with
    | some k => match Nat.beq k.ty 3 with
      | true => match Nat.beq n 16 && isA .i64 16 k.cs with
        | true => some (ifP (is50 (atI k.cs) 16), vNum (FI (dn (atI k.cs) 0 16)))
        | false => match Nat.beq n 32 && isA .i64 32 k.cs with
          | true => some (ifP (is50 (atI k.cs) 32), vNum (FI (dn (atI k.cs) 0 32)))
          | false => none
      | false => none
    | none => none
  | _, _ => none
theorem okV_vNum (a : F) : okV (vNum a) = true := by rfl
theorem vNum_small {m : Int} (h0 : 0 ≤ m) (h1 : m < PP) : vN (numD m.toNat) = vNum (FI m) := by
  unfold vNum
  rw [FI_val, Int.emod_eq_of_lt h0 h1]
theorem dn_pos {f : Nat → Int} (hf : ∀ j, j < 16 → 0 ≤ f j) : ∀ n i, i + n ≤ 16 → 0 ≤ dn f i n := by
  intro n
  induction n with
  | zero => intro i _; exact Int.le_refl 0
  | succ n ihn =>
    intro i hi
    have := ihn (i + 1) (by omega)
    have := hf i (by omega)
    simp only [dn]
    omega
/-- both loops -/
theorem fold_los {pa : Nat} (hp : isPa pa) {d : Nat → Int} (hd : isB56 d) : ∃ g h : Nat → Int, LoOk Try.prog [(6, carC pa d g), (10, subC pa g h)] ∧ vN h = vNum (FI (dn d 0 16)) := by
  obtain ⟨g, c, g1, g2, g3⟩ := car_lo hp hd
  obtain ⟨r0, r1⟩ := dn_range (f := g) 16 0 fun i _ hi => g1 i (by omega)
  rw [p16_16] at r1
  have hN : (dn g 0 16).toNat < 115792089237316195423570985008687907853269984665640564039457584007913129639936 := by omega
  have e : subPre pa g = subPre pa (numD (dn g 0 16).toNat) := by
    unfold subPre rHeap
    rw [cells_congr fun j _ hj => digit_of g1 (by omega)]
  refine ⟨numD (dn g 0 16).toNat, numD ((dn g 0 16).toNat % P), loOk_cons ?_ (sub_lo hp _ hN), ?_⟩
  · unfold carC at g3 ⊢
    rw [← e]
    exact g3
  · unfold vNum
    congr 2
    rw [FI_val, show dn d 0 16 = dn g 0 16 + PP * c by omega]
    have hP : P = 57896044618658097711785492504343953926634992332820282019728792003956564819949 := rfl
    unfold PP
    rw [hP]
    generalize dn g 0 16 = x at *
    omega
theorem fold_ctr {f : Nat → Int} {n c : Nat} {v : Value} (g : Blks) {b : Nat} {k : Blk} (hk : g b = some k) (hty : k.ty = 3) (hcs : k.cs = cellsOf .i64 f n 0) {lo : Lo} (hL : LoOk Try.prog lo)
    (hev : evBody tab orcR [] [] lo 2000 Try.f88 (bodyOf Try.f88) [slN n c] (hpN f n) 1 [] (fun r => r = v)) : Ctr Try.prog 88 [.slice (some ⟨b, 0, none⟩) n c] g v := by
  intro ρ w p1 p2 p3
  have key : Ctr Try.prog 88 [slN n c] (fun _ => g b) v := ctr_of_ev tabOk orcR_ok mixed hL Try.func88 (c := bodyOf Try.f88) (by kernel_rfl) hev (by intro i hi; simp [slN, idsOf, idOf] at hi; omega) (by
    intro i blk hib
    unfold hpN at hib
    simp only [hget] at hib
    split at hib
    · rename_i hbeq
      have := Nat.eq_of_beq_eq_true hbeq
      subst this
      cases hib
      refine ⟨by simp [slN, idsOf, idOf], rfl, rfl, k.own, k.ap, ?_⟩
      rw [hk, ← hcs, ← hty]
    · cases hib)
  refine key (fun _ => ρ b) w (fun i hi => ?_) (fun i hi j hj _ => ?_) (fun x hx => ?_)
  · obtain ⟨k', e1, e2⟩ := p1 b (by simp [idsOf, idOf])
    exact ⟨k', e1, e2⟩
  · simp [slN, idsOf, idOf] at hi hj
    omega
  · rw [List.mem_singleton] at hx
    subst hx
    exact trivial
theorem r32_val {f : Nat → Int} (hf : is50 f 32) : (∀ j, j < 16 → r32 f j = f j + 38 * f (j + 16)) ∧ isB56 (r32 f) ∧ FI (dn (r32 f) 0 16) = FI (dn f 0 32) := by
  have h1 : ∀ j, j < 16 → r32 f j = f j + 38 * f (j + 16) := by
    intro j hj
    have a := hf j (by omega)
    have b := hf (j + 16) (by omega)
    unfold r32
    rw [i64w_id (x := 0 + f j) (by omega) (by omega), i64w_id (x := 38 * f (j + 16)) (by omega) (by omega), i64w_id (by omega) (by omega)]
    omega
  refine ⟨h1, fun j hj => ?_, ?_⟩
  · rw [h1 j hj]
    have a := hf j (by omega)
    have b := hf (j + 16) (by omega)
    omega
  · have key : ∀ n i, i + n ≤ 16 → dn (r32 f) i n = dn f i n + 38 * dn f (i + 16) n := by
      intro n
      induction n with
      | zero => intro i _; rfl
      | succ n ih =>
        intro i hi
        simp only [dn]
        rw [ih (i + 1) (by omega), h1 i (by omega), show i + 16 + 1 = i + 1 + 16 by omega]
        omega
    have h2 := dn_add f 16 16 0
    rw [p16_16, Nat.zero_add] at h2
    rw [key 16 0 (by omega), Nat.zero_add, show (32 : Nat) = 16 + 16 from rfl, h2]
    apply FI_eq
    unfold PP
    omega
theorem fold_ok : HoOk 88 foldO := by
  refine ⟨⟨Try.f88, Try.func88, by kernel_rfl, by kernel_rfl⟩, fun args g c v h hc => ?_, fun args g g' hg => ?_⟩
  · unfold foldO at h
    split at h
    · rename_i b n cap
      split at h
      · rename_i k hk
        split at h
        · rename_i hty
          have hty := Nat.eq_of_beq_eq_true hty
          split at h
          · rename_i h16
            simp only [Bool.and_eq_true] at h16
            have hn := Nat.eq_of_beq_eq_true h16.1
            subst hn
            obtain ⟨f, hf⟩ := isA_eq h16.2
            cases h
            have hr := of_ifP hc
            have hdn : dn (atI k.cs) 0 16 = dn f 0 16 := dn_congr fun j _ hj => by rw [hf, atI_cells 16 0 j (by omega), Nat.zero_add]
            have hd : isB56 f := fun j hj => by
              have := hr j hj
              rw [hf, atI_cells 16 0 j hj, Nat.zero_add] at this
              omega
            rw [hdn]
            obtain ⟨q1, q2⟩ := okV_ok (okV_vNum (FI (dn f 0 16)))
            refine ⟨q1, q2, ?_⟩
            obtain ⟨g0, h0, hL, hv⟩ := fold_los (Or.inl rfl) hd
            rw [← hv]
            exact fold_ctr g hk hty hf hL (of_eq' (fold16_ev cap f g0 h0) ⟨rfl, carPre_refl (Or.inl rfl) _ _, rfl, subPre_refl (Or.inl rfl) _, rfl⟩)
          · split at h
            · rename_i h32
              simp only [Bool.and_eq_true] at h32
              have hn := Nat.eq_of_beq_eq_true h32.1
              subst hn
              obtain ⟨f, hf⟩ := isA_eq h32.2
              cases h
              have hr := of_ifP hc
              have hdn : dn (atI k.cs) 0 32 = dn f 0 32 := dn_congr fun j _ hj => by rw [hf, atI_cells 32 0 j (by omega), Nat.zero_add]
              have hd : is50 f 32 := fun j hj => by
                have := hr j hj
                rw [hf, atI_cells 32 0 j hj, Nat.zero_add] at this
                exact this
              obtain ⟨_, d56, hFI⟩ := r32_val hd
              rw [hdn, ← hFI]
              obtain ⟨q1, q2⟩ := okV_ok (okV_vNum (FI (dn (r32 f) 0 16)))
              refine ⟨q1, q2, ?_⟩
              obtain ⟨g0, h0, hL, hv⟩ := fold_los (Or.inr rfl) d56
              rw [← hv]
              exact fold_ctr g hk hty hf hL (of_eq' (fold32_ev cap f g0 h0) ⟨rfl, carPre_refl (Or.inr rfl) _ _, rfl, subPre_refl (Or.inr rfl) _, rfl⟩)
            · cases h
        · cases h
      · cases h
    · cases h
  · unfold foldO
    split
    · rename_i b n cap
      rw [hg b (by simp [idsOf, idOf])]
    · rfl
noncomputable def orcR1 : Orc := oaddH orcR 88 foldO
theorem orcR1_ok : OrcOk Try.prog orcR1 := oaddH_ok orcR_ok fold_ok

/-! ## Small -/
def smN (n : Int) : Nat → Int := fun j => match j with
  | 0 => i64w (n.tmod 65536)
  | 1 => i64w (IntKind.u32.wrap (n.tdiv 65536))
  | _ => 0
theorem smalln_ev (e : Env) : evBody tab orc0 [] [] [] 1000 Try.f42 (bodyOf Try.f42) (mkA smallS e 0) [] 0 [] (fun r => r = vN (smN (intV (a0 e smallS 0)))) = (vN (smN (intV (a0 e smallS 0))) = vN (smN (intV (a0 e smallS 0)))) := by kernel_rfl
noncomputable def smallnF (a : List Value) : Bool × Value := (ifP (0 ≤ intV (getD a 0) ∧ intV (getD a 0) < 4294967296), vNum (FI (intV (getD a 0))))
theorem smN_val {n : Int} (h : 0 ≤ n ∧ n < 4294967296) : vN (smN n) = vNum (FI n) := by
  have e0 : smN n 0 = n % 65536 := by
    show i64w (n.tmod 65536) = _
    rw [(tdm h.1).2, i64w_id (by omega) (by omega)]
  have e1 : smN n 1 = n / 65536 := by
    show i64w (IntKind.u32.wrap (n.tdiv 65536)) = _
    have : IntKind.u32.wrap (n / 65536) = n / 65536 := by
      simp [IntKind.wrap, IntKind.bits, IntKind.signed]
      omega
    rw [(tdm h.1).1, this, i64w_id (by omega) (by omega)]
  have hd : isD (smN n) := by
    intro j _
    rcases j with _ | _ | j
    · rw [e0]; omega
    · rw [e1]; omega
    · show 0 ≤ (0 : Int) ∧ (0 : Int) < 65536; omega
  have hs : dn (smN n) 0 16 = n := by
    have hz : dn (smN n) 2 14 = 0 := rfl
    show smN n 0 + 65536 * (smN n 1 + 65536 * dn (smN n) 2 14) = n
    rw [e0, e1, hz]
    omega
  rw [vN_of hd, hs, vNum_small h.1 (by unfold PP; omega)]
theorem smalln_ok : FoOk 42 (foOf smallS smallnF) := fo_of' Try.func42 (c := bodyOf Try.f42) (by kernel_rfl) (by kernel_rfl) (fun e => okV_vNum _) fun e hc => by
  have h : 0 ≤ intV (a0 e smallS 0) ∧ intV (a0 e smallS 0) < 4294967296 := of_ifP hc
  show ∀ g, Ctr Try.prog 42 (mkA smallS e 0) g (vNum (FI (intV (a0 e smallS 0))))
  rw [← smN_val h]
  exact fo_ctr orc0_ok Try.func42 (by kernel_rfl) ids_mk (of_eq' (smalln_ev e) rfl)

/-! ## Add, double -/
def adD (x y : Value) : Nat → Int := fun j => i64w (lim x j + lim y j)
theorem addn_ev (e : Env) : evBody tab orcR1 [(23, .ok)] [] [] 1000 Try.f51 (bodyOf Try.f51) (mkA numS2 e 0) [] 0 [] (fun r => r = vNum (FI (dn (atI (cellsOf .i64 (adD (a0 e numS2 0) (a0 e numS2 1)) 16 0)) 0 16))) =
    (ifP (is50 (atI (cellsOf .i64 (adD (a0 e numS2 0) (a0 e numS2 1)) 16 0)) 16) = true ∧ vNum (FI (dn (atI (cellsOf .i64 (adD (a0 e numS2 0) (a0 e numS2 1)) 16 0)) 0 16)) = vNum (FI (dn (atI (cellsOf .i64 (adD (a0 e numS2 0) (a0 e numS2 1)) 16 0)) 0 16))) := by kernel_rfl
noncomputable def addnF (a : List Value) : Bool × Value := (ifP (can (getD a 0) ∧ can (getD a 1)), vNum (NF (getD a 0) + NF (getD a 1)))
theorem dn_sum (f g h : Nat → Int) (he : ∀ j, h j = f j + g j) : ∀ n i, dn h i n = dn f i n + dn g i n := by
  intro n
  induction n with
  | zero => intro i; rfl
  | succ n ih =>
    intro i
    simp only [dn]
    rw [ih (i + 1), he]
    omega
theorem addn_val {x y : Value} (hx : can x) (hy : can y) : is50 (atI (cellsOf .i64 (adD x y) 16 0)) 16 ∧ FI (dn (atI (cellsOf .i64 (adD x y) 16 0)) 0 16) = NF x + NF y := by
  have dx := can_isD hx
  have dy := can_isD hy
  have h1 : ∀ j, j < 16 → atI (cellsOf .i64 (adD x y) 16 0) j = lim x j + lim y j := by
    intro j hj
    rw [atI_cells 16 0 j hj, Nat.zero_add]
    have a : 0 ≤ lim x j ∧ lim x j < 65536 := dx j hj
    have b : 0 ≤ lim y j ∧ lim y j < 65536 := dy j hj
    exact i64w_id (by omega) (by omega)
  refine ⟨fun j hj => ?_, ?_⟩
  · rw [h1 j hj]
    have a : 0 ≤ lim x j ∧ lim x j < 65536 := dx j hj
    have b : 0 ≤ lim y j ∧ lim y j < 65536 := dy j hj
    omega
  · have e : dn (atI (cellsOf .i64 (adD x y) 16 0)) 0 16 = dn (fun j => dOf x j + dOf y j) 0 16 := dn_congr fun j _ hj => h1 j (by omega)
    rw [e, dn_sum (dOf x) (dOf y) _ (fun _ => rfl), FI_add]
    rfl
theorem addn_ok : FoOk 51 (foOf numS2 addnF) := fo_of' Try.func51 (c := bodyOf Try.f51) (by kernel_rfl) (by kernel_rfl) (fun e => okV_vNum _) fun e hc => by
  have h := of_ifP hc
  show ∀ g, Ctr Try.prog 51 (mkA numS2 e 0) g (vNum (NF (a0 e numS2 0) + NF (a0 e numS2 1)))
  obtain ⟨v1, v2⟩ := addn_val (x := a0 e numS2 0) (y := a0 e numS2 1) h.1 h.2
  rw [← v2]
  exact fo_ctr orcR1_ok Try.func51 (by kernel_rfl) ids_mk (of_eq' (addn_ev e) ⟨ifP_of v1, rfl⟩)
noncomputable def orcR2 : Orc := oadd orcR1 51 (foOf numS2 addnF)
theorem orcR2_ok : OrcOk Try.prog orcR2 := oadd_ok orcR1_ok addn_ok
def numS1 : List Sh := [.arr .i64 16]
noncomputable def dblF (a : List Value) : Bool × Value := (ifP (can (getD a 0)), vNum (NF (getD a 0) + NF (getD a 0)))
theorem dbl_ev (e : Env) : evBody tab orcR2 [(5, .ok)] [] [] 1000 Try.f89 (bodyOf Try.f89) (mkA numS1 e 0) [] 0 [] (fun r => r = (dblF (mkA numS1 e 0)).2) =
    (ifP (can (a0 e numS1 0) ∧ can (a0 e numS1 0)) = true ∧ (dblF (mkA numS1 e 0)).2 = (dblF (mkA numS1 e 0)).2) := by kernel_rfl
theorem dbl_ok : FoOk 89 (foOf numS1 dblF) := fo_of' Try.func89 (c := bodyOf Try.f89) (by kernel_rfl) (by kernel_rfl) (fun e => okV_vNum _) fun e hc => by
  have h := of_ifP hc
  exact fo_ctr orcR2_ok Try.func89 (by kernel_rfl) ids_mk (of_eq' (dbl_ev e) ⟨ifP_of ⟨h, h⟩, rfl⟩)

/-! ## Sub -/
noncomputable def subnF (a : List Value) : Bool × Value := (ifP (can (getD a 0) ∧ can (getD a 1)), vNum (NF (getD a 0) - NF (getD a 1)))
noncomputable def difV (x y : Value) : Value := vN (numD (nI x - nI y).toNat)
theorem subn_lt (e : Env) : evBody tab orcR1 [(7, .ok), (11, .ok), (12, .ok)] [7] [] 1000 Try.f52 (bodyOf Try.f52) (mkA numS2 e 0) [] 0 [true] (fun r => r = difV pN (difV (a0 e numS2 1) (a0 e numS2 0))) =
    (ifP (isD (dOf (a0 e numS2 0)) ∧ isD (dOf (a0 e numS2 1))) = true ∧ decide (nI (a0 e numS2 0) < nI (a0 e numS2 1)) = true ∧
      ifP (isD (dOf (a0 e numS2 1)) ∧ isD (dOf (a0 e numS2 0)) ∧ nI (a0 e numS2 0) ≤ nI (a0 e numS2 1)) = true ∧
      ifP (isD (dOf pN) ∧ isD (dOf (difV (a0 e numS2 1) (a0 e numS2 0))) ∧ nI (difV (a0 e numS2 1) (a0 e numS2 0)) ≤ nI pN) = true ∧ difV pN (difV (a0 e numS2 1) (a0 e numS2 0)) = difV pN (difV (a0 e numS2 1) (a0 e numS2 0))) := by kernel_rfl
theorem subn_ge (e : Env) : evBody tab orcR1 [(7, .ok), (15, .ok)] [7] [] 1000 Try.f52 (bodyOf Try.f52) (mkA numS2 e 0) [] 0 [false] (fun r => r = difV (a0 e numS2 0) (a0 e numS2 1)) =
    (ifP (isD (dOf (a0 e numS2 0)) ∧ isD (dOf (a0 e numS2 1))) = true ∧ decide (nI (a0 e numS2 0) < nI (a0 e numS2 1)) = false ∧
      ifP (isD (dOf (a0 e numS2 0)) ∧ isD (dOf (a0 e numS2 1)) ∧ nI (a0 e numS2 1) ≤ nI (a0 e numS2 0)) = true ∧ difV (a0 e numS2 0) (a0 e numS2 1) = difV (a0 e numS2 0) (a0 e numS2 1)) := by kernel_rfl
theorem subn_ok : FoOk 52 (foOf numS2 subnF) := fo_of' Try.func52 (c := bodyOf Try.f52) (by kernel_rfl) (by kernel_rfl) (fun e => okV_vNum _) fun e hc => by
  have h := of_ifP (p := can (a0 e numS2 0) ∧ can (a0 e numS2 1)) hc
  show ∀ g, Ctr Try.prog 52 (mkA numS2 e 0) g (vNum (NF (a0 e numS2 0) - NF (a0 e numS2 1)))
  have hl := subn_lt e
  have hg := subn_ge e
  generalize a0 e numS2 0 = x at *
  generalize a0 e numS2 1 = y at *
  obtain ⟨hx, hy⟩ := h
  have dx := can_isD hx
  have dy := can_isD hy
  have nx := can_nI hx
  have ny := can_nI hy
  have lx := F_lt (NF x)
  have ly := F_lt (NF y)
  have hPP : PP = 57896044618658097711785492504343953926634992332820282019728792003956564819949 := rfl
  by_cases hlt : nI x < nI y
  · have e1 : nI (difV y x) = nI y - nI x := by
      unfold difV
      rw [nI_num (by omega)]
      omega
    have hv : difV pN (difV y x) = vNum (NF x - NF y) := by
      show vN (numD (nI pN - nI (difV y x)).toNat) = _
      rw [e1, nI_pN, vNum_small (by rw [hPP]; omega) (by rw [hPP]; omega)]
      congr 1
      show FI (PP - (nI y - nI x)) = FI (nI x) - FI (nI y)
      rw [← FI_sub]
      exact FI_eq (by rw [hPP]; omega)
    rw [← hv]
    exact fo_ctr orcR1_ok Try.func52 (by kernel_rfl) ids_mk (of_eq' hl ⟨ifP_of ⟨dx, dy⟩, decide_eq_true hlt, ifP_of ⟨dy, dx, by omega⟩, ifP_of ⟨isD_pN, isD_vN (isD_num _), by rw [e1, nI_pN, hPP]; omega⟩, rfl⟩)
  · have hv : difV x y = vNum (NF x - NF y) := by
      show vN (numD (nI x - nI y).toNat) = _
      rw [vNum_small (by omega) (by rw [hPP]; omega)]
      congr 1
      exact FI_sub _ _
    rw [← hv]
    exact fo_ctr orcR1_ok Try.func52 (by kernel_rfl) ids_mk (of_eq' hg ⟨ifP_of ⟨dx, dy⟩, decide_eq_false hlt, ifP_of ⟨dx, dy, by omega⟩, rfl⟩)
end Go.Proofs.Ythgefjgbkhkmgaa.Ev
