/-
  The document's numbers walked: Of, Key, Limbs, and Is.
-/
import Derived.Test.YthgefjgbkhkmgaaRefB
namespace Go.Proofs.Ythgefjgbkhkmgaa.Ev
open Go Go.RowKit
open Sap (F P toF)
attribute [local irreducible] evC evBody

/-! ## Of -/
def ofD0 (k : Value) (j : Nat) : Int := i64w (i64w (lim k (2 * j)) + i64w (256 * i64w (lim k (2 * j + 1))))
def ofD (k : Value) : Nat → Int := fun j => match Nat.beq j 15 with
  | true => (ofD0 k 15).tmod 32768
  | false => ofD0 k j
theorem ofn_ev (e : Env) : evBody tab orcR1 [(33, .ok)] [] [] 1000 Try.f41 (bodyOf Try.f41) (mkA zeroS e 0) [] 0 [] (fun r => r = vNum (FI (dn (atI (cellsOf .i64 (ofD (a0 e zeroS 0)) 16 0)) 0 16))) =
    (ifP (is50 (atI (cellsOf .i64 (ofD (a0 e zeroS 0)) 16 0)) 16) = true ∧ vNum (FI (dn (atI (cellsOf .i64 (ofD (a0 e zeroS 0)) 16 0)) 0 16)) = vNum (FI (dn (atI (cellsOf .i64 (ofD (a0 e zeroS 0)) 16 0)) 0 16))) := by kernel_rfl
noncomputable def ofnF (a : List Value) : Bool × Value := (ifP (isK (dOf (getD a 0))), vNum (numV (dOf (getD a 0))))
theorem dn_hn (f : Nat → Int) : ∀ n j, dn (fun i => f (2 * i) + 256 * f (2 * i + 1)) j n = hn f (2 * j) (2 * n) := by
  intro n
  induction n with
  | zero => intro j; rfl
  | succ n ih =>
    intro j
    rw [show 2 * (n + 1) = 2 * n + 1 + 1 by omega]
    simp only [dn, hn]
    rw [ih (j + 1), show 2 * (j + 1) = 2 * j + 1 + 1 by omega]
    omega
theorem ofn_val {k : Value} (hk : isK (dOf k)) : is50 (atI (cellsOf .i64 (ofD k) 16 0)) 16 ∧ FI (dn (atI (cellsOf .i64 (ofD k) 16 0)) 0 16) = numV (dOf k) := by
  have h0 : ∀ j, j < 16 → ofD0 k j = dOf k (2 * j) + 256 * dOf k (2 * j + 1) ∧ 0 ≤ ofD0 k j ∧ ofD0 k j < 65536 := by
    intro j hj
    obtain ⟨a1, a2⟩ := hk (2 * j) (by omega)
    obtain ⟨b1, b2⟩ := hk (2 * j + 1) (by omega)
    have e : ofD0 k j = dOf k (2 * j) + 256 * dOf k (2 * j + 1) := by
      show i64w (i64w (dOf k (2 * j)) + i64w (256 * i64w (dOf k (2 * j + 1)))) = _
      rw [i64w_id (x := dOf k (2 * j)) (by omega) (by omega), i64w_id (x := dOf k (2 * j + 1)) (by omega) (by omega), i64w_id (x := 256 * dOf k (2 * j + 1)) (by omega) (by omega), i64w_id (by omega) (by omega)]
    rw [e]
    exact ⟨rfl, by omega, by omega⟩
  have h15 := h0 15 (by omega)
  have e15 : (ofD0 k 15).tmod 32768 = ofD0 k 15 % 32768 := Int.tmod_eq_emod_of_nonneg h15.2.1
  have hA : ∀ j, j < 16 → atI (cellsOf .i64 (ofD k) 16 0) j = ofD k j := fun j hj => by rw [atI_cells 16 0 j hj, Nat.zero_add]
  have hO : ∀ j, j < 15 → ofD k j = dOf k (2 * j) + 256 * dOf k (2 * j + 1) := by
    intro j hj
    unfold ofD
    split
    · rename_i hb; have := Nat.eq_of_beq_eq_true hb; omega
    · exact (h0 j (by omega)).1
  have hO15 : ofD k 15 = ofD0 k 15 % 32768 := e15
  refine ⟨fun j hj => ?_, ?_⟩
  · rw [hA j hj]
    rcases Nat.lt_or_ge j 15 with h | h
    · rw [hO j h, ← (h0 j hj).1]
      have := h0 j hj
      omega
    · have : j = 15 := by omega
      subst this
      rw [hO15]; omega
  · have e1 : dn (atI (cellsOf .i64 (ofD k) 16 0)) 0 16 = dn (ofD k) 0 16 := dn_congr fun j _ hj => hA j (by omega)
    have e2 := dn_add (ofD k) 15 1 0
    have e3 : dn (ofD k) (0 + 15) 1 = ofD0 k 15 % 32768 := by
      rw [← hO15]; simp [dn]
    have e4 : dn (ofD k) 0 15 = hn (dOf k) 0 30 := by
      rw [dn_congr (f := ofD k) (g := fun i => dOf k (2 * i) + 256 * dOf k (2 * i + 1)) fun j _ hj => hO j (by omega)]
      exact dn_hn (dOf k) 15 0
    have e5 := hn_add (dOf k) 30 2 0
    have e6 : hn (dOf k) (0 + 30) 2 = ofD0 k 15 := by
      rw [h15.1]; simp [hn]
    have e30 : (256 : Int) ^ 30 = 1766847064778384329583297500742918515827483896875618958121606201292619776 := by decide
    have p15 : (65536 : Int) ^ 15 = 1766847064778384329583297500742918515827483896875618958121606201292619776 := by decide
    rw [e6, e30] at e5
    rw [e3, e4, p15] at e2
    rw [e1, e2]
    unfold numV
    show _ = FI (hn (dOf k) 0 32 % _)
    rw [show (32 : Nat) = 30 + 2 from rfl, e5]
    obtain ⟨r0, r1⟩ := hn_range hk 30 0 (by omega)
    rw [e30] at r1
    congr 1
    generalize hn (dOf k) 0 30 = a at *
    generalize ofD0 k 15 = b at *
    omega
theorem ofn_ok : FoOk 41 (foOf zeroS ofnF) := fo_of' Try.func41 (c := bodyOf Try.f41) (by kernel_rfl) (by kernel_rfl) (fun e => okV_vNum _) fun e hc => by
  have h := of_ifP hc
  show ∀ g, Ctr Try.prog 41 (mkA zeroS e 0) g (vNum (numV (dOf (a0 e zeroS 0))))
  obtain ⟨v1, v2⟩ := ofn_val (k := a0 e zeroS 0) h
  rw [← v2]
  exact fo_ctr orcR1_ok Try.func41 (by kernel_rfl) ids_mk (of_eq' (ofn_ev e) ⟨ifP_of v1, rfl⟩)

/-! ## Key -/
def knF (a : Value) : Nat → Int := fun j => match Nat.beq (j % 2) 0 with
  | true => IntKind.u8.wrap ((lim a (j / 2)).tmod 256)
  | false => IntKind.u8.wrap (i64w ((lim a (j / 2)).tdiv 256))
theorem keyn_ev (e : Env) : evBody tab orc0 [] [] [] 1000 Try.f43 (bodyOf Try.f43) (mkA numS1 e 0) [] 0 [] (fun r => r = vK (knF (a0 e numS1 0))) = (vK (knF (a0 e numS1 0)) = vK (knF (a0 e numS1 0))) := by kernel_rfl
noncomputable def keynF (a : List Value) : Bool × Value := (ifP (can (getD a 0)), vK (digN (NF (getD a 0)).val))
theorem keyn_val {a : Value} (h : can a) : vK (knF a) = vK (digN (NF a).val) := by
  have key : ∀ j, j < 32 → knF a j = digN (NF a).val j := by
    intro j hj
    have hl : lim a (j / 2) = numD (NF a).val (j / 2) := by
      conv => lhs; rw [h]
      exact lim_vN (by omega)
    have e : 65536 ^ (j / 2) * 256 ^ (j % 2) = 2 ^ (8 * j) := by
      have e1 : (65536 : Nat) = 2 ^ 16 := by decide
      have e2 : (256 : Nat) = 2 ^ 8 := by decide
      rw [e1, e2, ← Nat.pow_mul, ← Nat.pow_mul, ← Nat.pow_add]
      congr 1
      omega
    unfold knF digN
    rw [hl, ← e, ← Nat.div_div_eq_div_mul]
    unfold numD
    generalize (NF a).val / 65536 ^ (j / 2) = m
    have hr : 0 ≤ ((m % 65536 : Nat) : Int) := by omega
    rcases (by omega : j % 2 = 0 ∨ j % 2 = 1) with h2 | h2
    · rw [h2]
      show IntKind.u8.wrap (((m % 65536 : Nat) : Int).tmod 256) = ((m / 256 ^ 0 % 256 : Nat) : Int)
      rw [Int.tmod_eq_emod_of_nonneg hr, wrap_u8, Nat.pow_zero, Nat.div_one]
      omega
    · rw [h2]
      show IntKind.u8.wrap (i64w (((m % 65536 : Nat) : Int).tdiv 256)) = ((m / 256 ^ 1 % 256 : Nat) : Int)
      rw [Int.tdiv_eq_ediv_of_nonneg hr, i64w_id (by omega) (by omega), wrap_u8, Nat.pow_one]
      omega
  show Value.agg _ = Value.agg _
  rw [cells_congr fun j _ hj => key j (by omega)]
theorem okV_vK (f : Nat → Int) : okV (vK f) = true := by rfl
theorem keyn_ok : FoOk 43 (foOf numS1 keynF) := fo_of' Try.func43 (c := bodyOf Try.f43) (by kernel_rfl) (by kernel_rfl) (fun e => okV_vK _) fun e hc => by
  have h := of_ifP hc
  show ∀ g, Ctr Try.prog 43 (mkA numS1 e 0) g (vK (digN (NF (a0 e numS1 0)).val))
  rw [← keyn_val (a := a0 e numS1 0) h]
  exact fo_ctr orc0_ok Try.func43 (by kernel_rfl) ids_mk (of_eq' (keyn_ev e) rfl)

/-! ## Limbs -/
noncomputable def orcR3 : Orc := oadd orcR2 89 (foOf numS1 dblF)
theorem orcR3_ok : OrcOk Try.prog orcR3 := oadd_ok orcR2_ok dbl_ok
noncomputable def f44j : Code := inB (blockIn 2 (bodyOf Try.f44))
noncomputable def f44i : Code := inB (blockIn 0 (bodyOf Try.f44))
def lbH (x : Value) (v : F) : Heap := [(0, ⟨cellsV x, 35, true, 0⟩), (1, ⟨zrep 16 (.int .i64 0), 45, true, 0⟩), (2, ⟨cellsV (vNum v), 45, true, 0⟩)]
def lbPre (x : Value) (v : F) (c : Int) : AS := ⟨tmps [(1, ptr 0), (2, ptr 1), (3, ptr 2), (4, .int .i64 c)] 42 0, lbH x v, 200⟩
def lbIn (x : Value) (v : F) (c j : Int) : AS := ⟨tmps [(1, ptr 0), (2, ptr 1), (3, ptr 2), (4, .int .i64 c), (5, .int .i64 j)] 42 0, lbH x v, 200⟩
theorem lbi_round (f : Nat → Int) (v : F) (c j : Int) : evC tab orcR3 [(17, .ok)] [13] [] 100 f44j (fun e _ s' => match e with | .normal => leS (lbIn (lims f) (NF (vNum v) + NF (vNum v)) c (i64w (j + 1))) s' | _ => False) [true] (lbIn (lims f) v c j) =
    (decide (j < 51) = true ∧ ifP (can (vNum v)) = true ∧ leS (lbIn (lims f) (NF (vNum v) + NF (vNum v)) c (i64w (j + 1))) (lbIn (lims f) (NF (vNum v) + NF (vNum v)) c (i64w (j + 1)))) := by kernel_rfl
theorem lbi_last (f : Nat → Int) (v : F) (c j : Int) : evC tab orcR3 [(17, .ok)] [13] [] 100 f44j (fun e _ s' => match e with | .exit i => (match Nat.beq i 2 with | true => leS (lbIn (lims f) v c j) s' | false => False) | _ => False) [false] (lbIn (lims f) v c j) =
    (decide (j < 51) = false ∧ leS (lbIn (lims f) v c j) (lbIn (lims f) v c j)) := by kernel_rfl
theorem lbIn_refl (x : Value) (v : F) (c j : Int) : leS (lbIn x v c j) (lbIn x v c j) := ⟨leT_refl _, rfl, rfl, rfl, trivial⟩
theorem lbPre_refl (x : Value) (v : F) (c : Int) : leS (lbPre x v c) (lbPre x v c) := ⟨leT_refl _, rfl, rfl, rfl, trivial⟩
theorem lbIn_low (x : Value) (v : F) (c j : Int) : low (lbIn x v c j) = true := by kernel_rfl
theorem lbPre_low (x : Value) (v : F) (c : Int) : low (lbPre x v c) = true := by kernel_rfl
/-- doubled so often -/
def dbN (v : F) : Nat → F
  | 0 => v
  | n + 1 => dbN v n + dbN v n
noncomputable def lbiC (f : Nat → Int) (v : F) (c : Int) : LoopC := ⟨.loop f44j, lbIn (lims f) (dbN v 0) c (.ofNat 0), .normal, lbIn (lims f) (dbN v 51) c (.ofNat 51)⟩
theorem lbi_lo (f : Nat → Int) (v : F) (c : Int) : LoOk Try.prog [(2, lbiC f v c)] := by
  refine lo_cnt (sy := [(17, .ok)]) (br := [13]) orcR3_ok loOk_nil (fun n => lbIn (lims f) (dbN v n) c (.ofNat n)) 51 (fun n => lbIn_low _ _ _ _) (fun n hn => ⟨[true], 100, ?_⟩) ⟨[false], 100, ?_⟩
  · have h := lbi_round f (dbN v n) c (Int.ofNat n)
    have e : i64w (Int.ofNat n + 1) = Int.ofNat (n + 1) := by
      show i64w ((n : Int) + 1) = ((n + 1 : Nat) : Int)
      rw [i64w_id (by omega) (by omega)]; omega
    rw [NF_vNum, e] at h
    exact of_eq' h ⟨decide_eq_true (by show (n : Int) < 51; omega), ifP_of (can_vNum _), lbIn_refl _ _ _ _⟩
  · exact of_eq' (lbi_last f (dbN v 51) c (Int.ofNat 51)) ⟨rfl, lbIn_refl _ _ _ _⟩
/-- a limb's digits -/
def lbD (l : Int) : List Value := [.int .i64 (i64w (l.tmod 65536)), .int .i64 (i64w ((IntKind.u64.wrap (l.tdiv 65536)).tmod 65536)), .int .i64 (i64w ((IntKind.u64.wrap (l.tdiv 4294967296)).tmod 65536)), .int .i64 (i64w (IntKind.u64.wrap (l.tdiv 281474976710656))), .int .i64 0, .int .i64 0, .int .i64 0, .int .i64 0, .int .i64 0, .int .i64 0, .int .i64 0, .int .i64 0, .int .i64 0, .int .i64 0, .int .i64 0, .int .i64 0]
/-- behind a round of the outer loop -/
noncomputable def lbV (v : F) (l : Int) : F := NF (vNum (dbN v 51)) + NF (vNum (FI (dn (atI (lbD l)) 0 16)))
def lbC (n : Nat) : Int := match Nat.ble n 4 with
  | true => .ofNat (4 - n)
  | false => .negSucc 0
noncomputable def lbRound (f : Nat → Int) (v : F) (n : Nat) : Prop := evC tab orcR3 [(39, .ok), (40, .ok)] [] [(2, lbiC f v (lbC n))] 100 f44i (fun e _ s' => match e with | .normal => leS (lbPre (lims f) (lbV v (lim (lims f) (4 - n))) (lbC (n + 1))) s' | _ => False) [] (lbPre (lims f) v (lbC n))
noncomputable def lbWant (f : Nat → Int) (v : F) (n : Nat) : Prop := Code.loop f44j = Code.loop f44j ∧ leS (lbIn (lims f) (dbN v 0) (lbC n) (.ofNat 0)) (lbIn (lims f) (dbN v 0) (lbC n) (.ofNat 0)) ∧
  ifP (is50 (atI (lbD (lim (lims f) (4 - n)))) 16) = true ∧ ifP (can (vNum (dbN v 51)) ∧ can (vNum (FI (dn (atI (lbD (lim (lims f) (4 - n)))) 0 16)))) = true ∧
  leS (lbPre (lims f) (lbV v (lim (lims f) (4 - n))) (lbC (n + 1))) (lbPre (lims f) (lbV v (lim (lims f) (4 - n))) (lbC (n + 1)))
theorem lb_round (f : Nat → Int) (v : F) : List.map (lbRound f v) (runN 0 5) = mapL (lbWant f v) (runN 0 5) := by kernel_rfl
theorem lb_last (f : Nat → Int) (v : F) : evC tab orcR3 [(39, .ok), (40, .ok)] [] [] 100 f44i (fun e _ s' => match e with | .exit i => (match Nat.beq i 0 with | true => leS (lbPre (lims f) v (lbC 5)) s' | false => False) | _ => False) [] (lbPre (lims f) v (lbC 5)) = leS (lbPre (lims f) v (lbC 5)) (lbPre (lims f) v (lbC 5)) := by kernel_rfl
theorem lbD_val {l : Int} (h : 0 ≤ l ∧ l < 18446744073709551616) : is50 (atI (lbD l)) 16 ∧ dn (atI (lbD l)) 0 16 = l := by
  have e0 : i64w (l.tmod 65536) = l % 65536 := by rw [Int.tmod_eq_emod_of_nonneg h.1, i64w_id (by omega) (by omega)]
  have e1 : i64w ((IntKind.u64.wrap (l.tdiv 65536)).tmod 65536) = l / 65536 % 65536 := by
    rw [Int.tdiv_eq_ediv_of_nonneg h.1, wrap_u64, Int.tmod_eq_emod_of_nonneg (by omega), i64w_id (by omega) (by omega)]; omega
  have e2 : i64w ((IntKind.u64.wrap (l.tdiv 4294967296)).tmod 65536) = l / 4294967296 % 65536 := by
    rw [Int.tdiv_eq_ediv_of_nonneg h.1, wrap_u64, Int.tmod_eq_emod_of_nonneg (by omega), i64w_id (by omega) (by omega)]; omega
  have e3 : i64w (IntKind.u64.wrap (l.tdiv 281474976710656)) = l / 281474976710656 := by
    rw [Int.tdiv_eq_ediv_of_nonneg h.1, wrap_u64, i64w_id (by omega) (by omega)]; omega
  have g0 : atI (lbD l) 0 = l % 65536 := e0
  have g1 : atI (lbD l) 1 = l / 65536 % 65536 := e1
  have g2 : atI (lbD l) 2 = l / 4294967296 % 65536 := e2
  have g3 : atI (lbD l) 3 = l / 281474976710656 := e3
  have gz : ∀ j, 4 ≤ j → j < 16 → atI (lbD l) j = 0 := by
    intro j h1 h2
    rcases (by omega : j = 4 ∨ j = 5 ∨ j = 6 ∨ j = 7 ∨ j = 8 ∨ j = 9 ∨ j = 10 ∨ j = 11 ∨ j = 12 ∨ j = 13 ∨ j = 14 ∨ j = 15) with rfl | rfl | rfl | rfl | rfl | rfl | rfl | rfl | rfl | rfl | rfl | rfl <;> rfl
  refine ⟨fun j hj => ?_, ?_⟩
  · rcases (by omega : j = 0 ∨ j = 1 ∨ j = 2 ∨ j = 3 ∨ 4 ≤ j) with rfl | rfl | rfl | rfl | h4
    · rw [g0]; omega
    · rw [g1]; omega
    · rw [g2]; omega
    · rw [g3]; omega
    · rw [gz j h4 hj]; omega
  · have hz : dn (atI (lbD l)) 4 12 = 0 := by
      have : dn (atI (lbD l)) 4 12 = dn (fun _ => 0) 4 12 := dn_congr fun j h1 h2 => gz j h1 (by omega)
      rw [this]; rfl
    show atI (lbD l) 0 + 65536 * (atI (lbD l) 1 + 65536 * (atI (lbD l) 2 + 65536 * (atI (lbD l) 3 + 65536 * dn (atI (lbD l)) 4 12))) = l
    rw [g0, g1, g2, g3, hz]
    omega
/-- behind n rounds -/
noncomputable def lbS (f : Nat → Int) : Nat → F
  | 0 => 0
  | n + 1 => lbV (lbS f n) (lim (lims f) (4 - n))
noncomputable def lbOC (f : Nat → Int) : LoopC := ⟨.loop f44i, lbPre (lims f) (lbS f 0) (lbC 0), .normal, lbPre (lims f) (lbS f 5) (lbC 5)⟩
theorem lb_lo {f : Nat → Int} (hf : ∀ j, j < 5 → 0 ≤ f j ∧ f j < 18446744073709551616) : LoOk Try.prog [(0, lbOC f)] := by
  refine lo_end (sy := [(39, .ok), (40, .ok)]) (br := []) orcR3_ok (fun n => lbPre (lims f) (lbS f n) (lbC n)) 5 _ (fun n => lbPre_low _ _ _) (lbPre_low _ _ _) (fun n hn => ⟨[(2, lbiC f (lbS f n) (lbC n))], [], 100, lbi_lo _ _ _, ?_⟩) ⟨[], 100, ?_⟩
  · have hl : 0 ≤ lim (lims f) (4 - n) ∧ lim (lims f) (4 - n) < 18446744073709551616 := by
      have : lim (lims f) (4 - n) = f (4 - n) := by
        rcases (by omega : n = 0 ∨ n = 1 ∨ n = 2 ∨ n = 3 ∨ n = 4) with rfl | rfl | rfl | rfl | rfl <;> rfl
      rw [this]
      exact hf _ (by omega)
    have hk := mapL_eq (lb_round f (lbS f n)) n (mem_runN (by omega) (by omega))
    exact of_eq' hk ⟨rfl, lbIn_refl _ _ _ _, ifP_of (lbD_val hl).1, ifP_of ⟨can_vNum _, can_vNum _⟩, lbPre_refl _ _ _⟩
  · exact of_eq' (lb_last f (lbS f 5)) (lbPre_refl _ _ _)
theorem dbN_val (v : F) : ∀ n, dbN v n = toF (2 ^ n) * v := by
  intro n
  induction n with
  | zero => show v = toF 1 * v; rw [Sap.toF_one]; grind
  | succ n ih =>
    show dbN v n + dbN v n = _
    rw [ih, Nat.pow_succ, Sap.toF_mul]
    have : toF 2 = 2 := by decide +kernel
    rw [this]
    grind
theorem lbV_val (v : F) {l : Int} (h : 0 ≤ l ∧ l < 18446744073709551616) : lbV v l = FI 2251799813685248 * v + FI l := by
  unfold lbV
  rw [NF_vNum, NF_vNum, dbN_val, (lbD_val h).2, show (2251799813685248 : Int) = ((2 ^ 51 : Nat) : Int) by decide, FI_nat]
def inU (x : Value) : Prop := bnd x 18446744073709551615
theorem lbS_val {f : Nat → Int} (hf : ∀ j, j < 5 → 0 ≤ f j ∧ f j < 18446744073709551616) : lbS f 5 = FV (lims f) := by
  have e : lbS f 5 = lbV (lbV (lbV (lbV (lbV 0 (f 4)) (f 3)) (f 2)) (f 1)) (f 0) := rfl
  rw [e, lbV_val _ (hf 4 (by omega)), lbV_val _ (hf 3 (by omega)), lbV_val _ (hf 2 (by omega)), lbV_val _ (hf 1 (by omega)), lbV_val _ (hf 0 (by omega))]
  have hv : FV (lims f) = FI (f 0 + 2251799813685248 * (f 1 + 2251799813685248 * (f 2 + 2251799813685248 * (f 3 + 2251799813685248 * f 4)))) := by
    unfold FV
    congr 1
    show f 0 + 2251799813685248 * f 1 + 5070602400912917605986812821504 * f 2 + 11417981541647679048466287755595961091061972992 * f 3 + 25711008708143844408671393477458601640355247900524685364822016 * f 4 = _
    omega
  rw [hv, FI_add, FI_mul, FI_add, FI_mul, FI_add, FI_mul, FI_add, FI_mul]
  generalize FI 2251799813685248 = B
  grind
noncomputable def limbsF (a : List Value) : Bool × Value := (ifP (inU (getD a 0)), vNum (FV (getD a 0)))
theorem limbs_ev (e : Env) : evBody tab orcR3 [] [] [(0, lbOC (e.i 0))] 1000 Try.f44 (bodyOf Try.f44) (mkA elS e 0) [] 0 [] (fun r => r = vNum (lbS (e.i 0) 5)) =
    (Code.loop f44i = Code.loop f44i ∧ leS (lbPre (lims (e.i 0)) (lbS (e.i 0) 0) (lbC 0)) (lbPre (lims (e.i 0)) (lbS (e.i 0) 0) (lbC 0)) ∧ vNum (lbS (e.i 0) 5) = vNum (lbS (e.i 0) 5)) := by kernel_rfl
theorem limbs_ok : FoOk 44 (foOf elS limbsF) := fo_of' Try.func44 (c := bodyOf Try.f44) (by kernel_rfl) (by kernel_rfl) (fun e => okV_vNum _) fun e hc => by
  have h : inU (lims (e.i 0)) := of_ifP hc
  show ∀ g, Ctr Try.prog 44 (mkA elS e 0) g (vNum (FV (lims (e.i 0))))
  have hf : ∀ j, j < 5 → 0 ≤ e.i 0 j ∧ e.i 0 j < 18446744073709551616 := by
    obtain ⟨⟨a0, a1⟩, ⟨b0, b1⟩, ⟨c0, c1⟩, ⟨d0, d1⟩, ⟨e0, e1⟩⟩ := h
    have q0 : lim (lims (e.i 0)) 0 = e.i 0 0 := rfl
    have q1 : lim (lims (e.i 0)) 1 = e.i 0 1 := rfl
    have q2 : lim (lims (e.i 0)) 2 = e.i 0 2 := rfl
    have q3 : lim (lims (e.i 0)) 3 = e.i 0 3 := rfl
    have q4 : lim (lims (e.i 0)) 4 = e.i 0 4 := rfl
    rw [q0] at a0 a1
    rw [q1] at b0 b1
    rw [q2] at c0 c1
    rw [q3] at d0 d1
    rw [q4] at e0 e1
    intro j hj
    rcases (by omega : j = 0 ∨ j = 1 ∨ j = 2 ∨ j = 3 ∨ j = 4) with rfl | rfl | rfl | rfl | rfl
    · exact ⟨a0, by omega⟩
    · exact ⟨b0, by omega⟩
    · exact ⟨c0, by omega⟩
    · exact ⟨d0, by omega⟩
    · exact ⟨e0, by omega⟩
  rw [← lbS_val hf]
  exact fo_ctr orcR3_ok Try.func44 (by kernel_rfl) ids_mk (of_eq' (limbs_ev e) ⟨rfl, lbPre_refl _ _ _, rfl⟩) (lb_lo hf)
end Go.Proofs.Ythgefjgbkhkmgaa.Ev
