/-
  The law CtOnce, walked, and its row.
-/
import Derived.Test.YthgefjgbkhkmgaaSame
import Derived.Test.YthgefjgbkhkmgaaRow
import Derived.Test.YthgefjgbkhkmgaaHead
namespace Go.Proofs.Ythgefjgbkhkmgaa
open Go Go.ChangeShapes Go.WideShapes Go.ChangeAt Go.RowKit Ev
attribute [local irreducible] evC evBody

def onceS : List Sh := [.int .i64, .arr .u8 32, .arr .u8 32, .int .u8, .str]
def upto : Nat → List Nat
  | 0 => []
  | n + 1 => n :: upto n
def mapL {α : Type} (f : Nat → α) : List Nat → List α
  | [] => []
  | x :: r => f x :: mapL f r
theorem mem_upto {n q : Nat} (h : q < n) : q ∈ upto n := by
  induction n with
  | zero => omega
  | succ n ih =>
    rcases Nat.lt_succ_iff_lt_or_eq.1 h with h | h
    · exact List.mem_cons_of_mem _ (ih h)
    · rw [h]; exact List.mem_cons_self

def bitM (n : Int) : Int := IntKind.u8.wrap (1 * 2 ^ (min (n.tmod 8).toNat 8))
def flipV (x : Value) (q : Nat) (m : Int) : Value := .agg (put1 (cellsV x) q (.int .u8 (bxor (intV (getD (cellsV x) q)) m))).toArray

theorem l5_long (e : Env) : evBody tab orcZ [(20, .b true)] [] [] 1000 Try.f5 (bodyOf Try.f5) (mkA onceS e 0) [] 0 [] (fun r => r = .bool true) =
    (emit (decide (((e.s 4).size : Int) > 2000)) true ∧ Value.bool true = .bool true) := by kernel_rfl
def l5_R (e : Env) (q : Nat) : Prop :=
  let b := a0 e onceS 0
  let x := a0 e onceS 1
  let y := a0 e onceS 2
  let s := e.s 4
  emit (decide ((s.size : Int) > 2000)) false ∧ (true && (IntKind.u8.wrap ((e.i 3 0).tdiv 8) == Int.ofNat q)) = true ∧ decide (0 ≤ (e.i 3 0).tmod 8) = true ∧
  emit (eqV (pickV b (pickV b x y) (pickV b y x)) x) true ∧ emit (eqV (pickV b (pickV b y x) (pickV b x y)) y) true ∧
  emit (sameB x (flipV x q (bitM (e.i 3 0)))) false ∧ (true && decide (((s.size + (⟨#[120]⟩ : ByteArray).size : Nat) : Int) ≤ IntKind.i64.max)) = true ∧
  (Nat.ble s.size 1099511627776 && (txtEq s (s ++ ⟨#[120]⟩) == false)) = true ∧ emit (eqV (pickV b x x) x) true ∧ Value.bool true = .bool true
theorem l5_run (e : Env) : (upto 32).map (fun q => evBody tab orcZ [(20, .b false), (37, .i (Int.ofNat q)), (42, .ok), (47, .b true), (51, .b true), (56, .b false), (62, .ok), (63, .b false), (72, .b true)] [] [] 1000 Try.f5 (bodyOf Try.f5) (mkA onceS e 0) [] 0 [] (fun r => r = .bool true)) =
    mapL (l5_R e) (upto 32) := by kernel_rfl

theorem mapL_eq {α : Type} {f g : Nat → α} : ∀ {l : List Nat}, l.map f = mapL g l → ∀ q ∈ l, f q = g q := by
  intro l
  induction l with
  | nil => intro _ q h; cases h
  | cons x r ih =>
    intro h q hq
    simp only [List.map_cons, mapL, List.cons.injEq] at h
    rcases List.mem_cons.1 hq with e | e
    · subst e; exact h.1
    · exact ih h.2 q e

/-! ## Plain words -/
theorem getD_cells {k : IntKind} {f : Nat → Int} : ∀ {n i q : Nat}, q < n → getD (cellsOf k f n i) q = .int k (f (i + q)) := by
  intro n
  induction n with
  | zero => intro i q h; omega
  | succ n ih =>
    intro i q h
    cases q with
    | zero => rfl
    | succ q =>
      simp only [cellsOf, getD]
      rw [ih (by omega)]
      congr 2; omega
theorem put_cells {k : IntKind} {f : Nat → Int} {y : Int} : ∀ {n i q : Nat}, put1 (cellsOf k f n i) q (.int k y) = cellsOf k (fun j => if j = i + q then y else f j) n i := by
  have same : ∀ (n i p : Nat), p < i → cellsOf k (fun j => if j = p then y else f j) n i = cellsOf k f n i := by
    intro n
    induction n with
    | zero => intros; rfl
    | succ n ih =>
      intro i p h
      simp only [cellsOf]
      rw [if_neg (by omega), ih (i + 1) p (by omega)]
  intro n
  induction n with
  | zero => intros; rfl
  | succ n ih =>
    intro i q
    cases q with
    | zero =>
      simp only [cellsOf, put1, Nat.add_zero, if_true]
      rw [same n (i + 1) i (by omega)]
    | succ q =>
      simp only [cellsOf, put1]
      rw [if_neg (by omega), ih]
      have : i + 1 + q = i + (q + 1) := by omega
      rw [this]
theorem eqL_at {k : IntKind} {f g : Nat → Int} : ∀ {n i : Nat}, eqL (cellsOf k f n i) (cellsOf k g n i) = true → ∀ j, i ≤ j → j < i + n → f j = g j := by
  intro n
  induction n with
  | zero => intro i _ j h1 h2; omega
  | succ n ih =>
    intro i h j h1 h2
    simp only [cellsOf, eqL, Bool.and_eq_true, beq_iff_eq] at h
    rcases Nat.eq_or_lt_of_le h1 with e | e
    · rw [← e]; exact h.1
    · exact ih h.2 j (by omega) (by omega)

theorem pow_u8 : ∀ r : Nat, r < 8 → isB (IntKind.u8.wrap (1 * 2 ^ (min r 8))) ∧ IntKind.u8.wrap (1 * 2 ^ (min r 8)) ≠ 0 := by
  intro r h
  match r, h with
  | 0, _ => exact ⟨⟨by decide, by decide⟩, by decide⟩
  | 1, _ => exact ⟨⟨by decide, by decide⟩, by decide⟩
  | 2, _ => exact ⟨⟨by decide, by decide⟩, by decide⟩
  | 3, _ => exact ⟨⟨by decide, by decide⟩, by decide⟩
  | 4, _ => exact ⟨⟨by decide, by decide⟩, by decide⟩
  | 5, _ => exact ⟨⟨by decide, by decide⟩, by decide⟩
  | 6, _ => exact ⟨⟨by decide, by decide⟩, by decide⟩
  | 7, _ => exact ⟨⟨by decide, by decide⟩, by decide⟩
theorem bxor_other {x m : Int} (hm : isB m) (h0 : m ≠ 0) : bxor x m ≠ x := by
  intro h
  apply h0
  rw [bxor_bv] at h
  have h1 : BitVec.ofInt 8 x ^^^ BitVec.ofInt 8 m = BitVec.ofInt 8 x := by
    rw [← ofInt_toNat8 (BitVec.ofInt 8 x ^^^ BitVec.ofInt 8 m), h]
  have h2 : BitVec.ofInt 8 m = 0#8 := by
    have := congrArg (fun z => BitVec.ofInt 8 x ^^^ z) h1
    simpa [← BitVec.xor_assoc] using this
  rw [← toNat_ofInt8 hm.1 hm.2, h2]; rfl

theorem flip_other {f : Nat → Int} (hf : ∀ j, j < 32 → isB (f j)) {q : Nat} (hq : q < 32) {m : Int} (hm : isB m) (h0 : m ≠ 0) : sameB (vK f) (flipV (vK f) q m) = false := by
  have e : flipV (vK f) q m = vK (fun j => if j = 0 + q then bxor (f q) m else f j) := by
    unfold flipV
    simp only [cellsV, arrOf]
    rw [getD_cells hq, put_cells]
    simp only [intV, Nat.zero_add]
  rw [e, sameB_eq hf ?_]
  · rw [← Bool.not_eq_true]
    intro h
    have := eqL_at (k := .u8) (f := f) (g := fun j => if j = 0 + q then bxor (f q) m else f j) (n := 32) (i := 0) h q (by omega) (by omega)
    simp only [Nat.zero_add, if_true] at this
    exact bxor_other hm h0 this.symm
  · intro j hj
    show isB (if j = 0 + q then bxor (f q) m else f j)
    split
    · exact bxor_isB _ _
    · exact hf j hj

theorem pick_same {b : Int} {f g : Nat → Int} (hf : ∀ j, j < 32 → isB (f j)) (hg : ∀ j, j < 32 → isB (g j)) :
    (pickV (.int .i64 b) (vK f) (vK g) = vK f ∧ pickV (.int .i64 b) (vK g) (vK f) = vK g) ∨ (pickV (.int .i64 b) (vK f) (vK g) = vK g ∧ pickV (.int .i64 b) (vK g) (vK f) = vK f) := by
  have h12 : b % 2 = 1 ∨ b % 2 = 0 := by omega
  rcases h12 with h | h
  · exact Or.inr ⟨pickV_odd h hg, pickV_odd h hf⟩
  · exact Or.inl ⟨pickV_even h hf, pickV_even h hg⟩

theorem txt_longer (s : ByteArray) : txtEq s (s ++ ⟨#[120]⟩) = false := by
  unfold txtEq
  rw [beq_eq_false_iff_ne]
  intro h
  have := congrArg List.length h
  simp at this

theorem l5_ctr (b : Int) (f g : Nat → Int) (n : Int) (s : ByteArray) (hf : ∀ j, j < 32 → isB (f j)) (hg : ∀ j, j < 32 → isB (g j)) (hn : isB n) :
    ∀ h, Ctr Try.prog 5 (mkA onceS (mkE [fun _ => b, f, g, fun _ => n] [s, s, s, s, s]) 0) h (.bool true) := by
  have h0 : a0 (mkE [fun _ => b, f, g, fun _ => n] [s, s, s, s, s]) onceS 0 = .int .i64 b := rfl
  have h1 : a0 (mkE [fun _ => b, f, g, fun _ => n] [s, s, s, s, s]) onceS 1 = vK f := rfl
  have h2 : a0 (mkE [fun _ => b, f, g, fun _ => n] [s, s, s, s, s]) onceS 2 = vK g := rfl
  have h3 : (mkE [fun _ => b, f, g, fun _ => n] [s, s, s, s, s]).i 3 0 = n := rfl
  have h4 : (mkE [fun _ => b, f, g, fun _ => n] [s, s, s, s, s]).s 4 = s := rfl
  generalize mkE [fun _ => b, f, g, fun _ => n] [s, s, s, s, s] = e at h0 h1 h2 h3 h4
  rcases Nat.lt_or_ge 2000 s.size with hs | hs
  · have hev := l5_long e
    rw [h4] at hev
    exact fo_ctr orcZ_ok Try.func5 (by kernel_rfl) ids_mk (of_eq hev ⟨emit_of (decide_eq_true (by omega)), rfl⟩)
  · obtain ⟨n0, n1⟩ := hn
    have hd : n.tdiv 8 = n / 8 := Int.tdiv_eq_ediv_of_nonneg n0
    have hm : n.tmod 8 = n % 8 := Int.tmod_eq_emod_of_nonneg n0
    have hq : (n / 8).toNat < 32 := by omega
    have hev := mapL_eq (l5_run e) (n / 8).toNat (mem_upto hq)
    unfold l5_R at hev
    simp only [h0, h1, h2, h3, h4] at hev
    obtain ⟨m1, m2⟩ := pow_u8 (n % 8).toNat (by omega)
    have q1 : (true && (IntKind.u8.wrap (n.tdiv 8) == Int.ofNat (n / 8).toNat)) = true := by
      rw [hd, wrap_u8, Bool.true_and, beq_iff_eq]
      show n / 8 % 256 = ((n / 8).toNat : Int)
      omega
    have q2 : decide (0 ≤ n.tmod 8) = true := decide_eq_true (by rw [hm]; omega)
    have q3 : sameB (vK f) (flipV (vK f) (n / 8).toNat (bitM n)) = false := by
      refine flip_other hf hq ?_ ?_
      · unfold bitM; rw [hm]; exact m1
      · unfold bitM; rw [hm]; exact m2
    have q4 : (true && decide (((s.size + (⟨#[120]⟩ : ByteArray).size : Nat) : Int) ≤ IntKind.i64.max)) = true := by
      have e1 : IntKind.i64.max = 9223372036854775807 := by decide
      have e2 : (⟨#[120]⟩ : ByteArray).size = 1 := rfl
      rw [e1, e2]
      rw [Bool.true_and]
      exact decide_eq_true (by omega)
    have q5 : (Nat.ble s.size 1099511627776 && (txtEq s (s ++ ⟨#[120]⟩) == false)) = true := by
      rw [txt_longer, Nat.ble_eq_true_of_le (by omega)]; rfl
    have q0 : emit (decide ((s.size : Int) > 2000)) false := emit_of (decide_eq_false (by omega))
    have q6 : pickV (.int .i64 b) (vK f) (vK f) = vK f := by
      rcases pick_same (b := b) hf hf with ⟨h, _⟩ | ⟨h, _⟩ <;> exact h
    rw [q6] at hev
    rcases pick_same (b := b) hf hg with ⟨p1, p2⟩ | ⟨p1, p2⟩
    · rw [p1, p2, p1, p2] at hev
      exact fo_ctr orcZ_ok Try.func5 (by kernel_rfl) ids_mk (of_eq hev ⟨q0, q1, q2, emit_of (eqV_refl _), emit_of (eqV_refl _), emit_of q3, q4, q5, emit_of (eqV_refl _), trivial⟩)
    · rw [p1, p2, p1, p2] at hev
      exact fo_ctr orcZ_ok Try.func5 (by kernel_rfl) ids_mk (of_eq hev ⟨q0, q1, q2, emit_of (eqV_refl _), emit_of (eqV_refl _), emit_of q3, q4, q5, emit_of (eqV_refl _), trivial⟩)

set_option maxRecDepth 100000 in
theorem ctOnce_lifted (os : Os) (started : os.Started) (H : Type) (enc : TypeId × Value → H) :
    ReturnsInHanded {} Try.checked os 5 .any (Rows.ctOnceSpec.pre6 enc Try.prog Try.f5 Rows.ctOnceRow.domain false) (Rows.ctOnceSpec.post enc Try.prog Try.f5 false true false false) := by
  refine returnsInHanded_of_change (C := Try.checked) own started (by kernel_rfl) Try.func5
    (ChangeSpec.witness6 (enc := enc) (C := Try.checked) false ⟨#[], #[.int .i64 0, arrOf .u8 32 (fun _ => 0), arrOf .u8 32 (fun _ => 0), .int .u8 0, .string ByteArray.empty], []⟩ 8 (by kernel_rfl) (by kernel_rfl) (by kernel_rfl) (by kernel_rfl)) ?_
  intro W base args ds gs before hval0 hW hcnd _
  have hval : ∀ (j : Nat) t v, Try.f5.params[j]? = some t → args[j]? = some v → Value.okWide Try.prog W .any base t v := hval0
  have hW' := hW
  obtain ⟨p, q, hA0, hV, rfl, hfz, hnd⟩ := hW
  have hA : DataW.TrodAll enc Try.prog W 0 (fun _ => true) true Try.f5.params.toList args.toList ds p := hA0
  rw [Try.params5] at hA hval
  obtain ⟨v0, v1, v2, v3, v4, d0, d1, d2, d3, d4, p0, p1, p2, p3, p4, rfl, rfl, rfl, h0, h1, h2, h3, h4⟩ := trodAll_five hA
  obtain ⟨rfl, rfl⟩ := trodVars_none hV
  obtain ⟨x0, rfl, rfl, rfl, w0⟩ := open_int Try.underlying3 (hval 0 3 v0 rfl rfl) h0
  obtain ⟨x1, rfl, w1⟩ := open_arr Try.underlying23 Try.underlying5 (by kernel_rfl) (by kernel_rfl) (hval 1 23 v1 rfl rfl) h1
  obtain ⟨x2, rfl, w2⟩ := open_arr Try.underlying23 Try.underlying5 (by kernel_rfl) (by kernel_rfl) (hval 2 23 v2 rfl rfl) h2
  obtain ⟨x3, rfl, rfl, rfl, w3⟩ := open_int Try.underlying5 (hval 3 5 v3 rfl rfl) h3
  obtain ⟨x4, rfl, rfl, rfl, w4⟩ := Go.ChangeMaps.open_string Try.underlying9 (hval 4 9 v4 rfl rfl) h4
  refine (plain_calls (l5_ctr x0 x1 x2 x3 x4 (fun j hj => isB_of (w1 j hj)) (fun j hj => isB_of (w2 j hj)) (isB_of w3)) W).mono fun e W' ⟨he, hb⟩ => ?_
  exact ⟨_, he, law_post hW' hb rfl (by kernel_rfl) (reads_of (by kernel_rfl)) ⟨rfl, rfl, rfl⟩⟩

theorem ctOnce_closed : joinedFacts Try.prog 5 Try.f5 Rows.ctOnceSpec Rows.ctOnceRow = true := by
  refine (joinedFacts.eq_1 ..).trans ?_
  rw [enters_ok, no_finals, make_is]
  kernel_rfl

theorem ctOnce_holds : Rows.CtOnceSaid :=
  OpenClaim.holds_of_wide 5 Try.f5 rfl rfl rfl rfl rfl rfl rfl ⟨rfl, rfl, rfl, rfl, rfl⟩ rfl rfl rfl rfl rfl (by kernel_rfl) Try.func5 ctOnce_closed
    (of_decide_eq_true (by kernel_rfl)) (by unfold Func.isWrapper; rw [if_neg (by decide +kernel)]; exact ⟨rfl, rfl⟩)
    (fun os started H enc _ => ctOnce_lifted os started H enc)

end Go.Proofs.Ythgefjgbkhkmgaa
