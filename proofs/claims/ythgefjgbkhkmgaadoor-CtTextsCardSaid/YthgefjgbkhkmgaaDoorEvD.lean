/-
  Each operation's reckoning is the model's: the operations on values, and calls.
-/
import Derived.Test.YthgefjgbkhkmgaaDoorEvC
import Derived.ChangeKeysEq
namespace Go.Proofs.YthgefjgbkhkmgaaDoor.Ev
open Go Go.RowKit

section
variable {P : Program} {tab : Tab} {orc : Orc} {sy : Sy} {w0 : World} {A : Nat → Prop} {ρ : Nat → Nat × Nat × Nat} {N : Nat} {t : Slots} {g : Blks} {a : Act} {w : World} {id : Nat} {out : Out} {o : Oper}

theorem case_move (hR : Rel w0 A ρ N t g a w) {x : Operand} (hop : o.op = .move x ∨ o.op = .assign x) (ho : (match look t x with | none => none | some v => some (⟨true, v, []⟩ : Out)) = some out) : Ends P o a w w0 A N t g id out := by
  split at ho
  · cases ho
  · rename_i v hx
    cases ho
    obtain ⟨h1, h2, h3⟩ := hR.eval hx
    refine ends_val hR h2 h3 ?_
    rcases hop with hop | hop <;> simp only [execOp, hop, h1, Sem.run_pure]

theorem case_pick (hR : Rel w0 A ρ N t g a w) {c x y : Operand} (hop : o.op = .pick c x y) (ho : opF tab orc sy id t g (.pick c x y) = some out) (hc : out.c = true) : Ends P o a w w0 A N t g id out := by
  simp only [opF] at ho
  split at ho
  · rename_i s q hq
    obtain ⟨h1, _, _⟩ := hR.eval hq
    have hqv : a.eval (.tmp s) = .bool q := h1
    have hsy : ∀ b, (syBool sy s q).1 = true → (syBool sy s q).2 = b → q = b := by
      intro b
      unfold syBool
      split
      · rename_i e _
        simp only [beq_iff_eq]
        intro h h'; rw [h, h']
      · intro _ h'; exact h'
    split at ho
    · rename_i hb
      split at ho
      · rename_i v v' hv hv'
        cases ho
        obtain ⟨e1, e2, e3⟩ := hR.eval hv
        refine ends_val hR e2 e3 ?_
        simp only [execOp, hop, hqv, asBool, Sem.run_bind, Sem.run_pure, Result.andThen_ok, hsy true hc hb, if_true, e1]
      · cases ho
    · rename_i hb
      split at ho
      · rename_i v v' hv hv'
        cases ho
        obtain ⟨e1, e2, e3⟩ := hR.eval hv'
        refine ends_val hR e2 e3 ?_
        simp only [execOp, hop, hqv, asBool, Sem.run_bind, Sem.run_pure, Result.andThen_ok, hsy false hc hb, e1]
        simp
      · cases ho
  · cases ho

theorem intOp_run {op : BinOp} {k k' : IntKind} {x y : Int} {c : Bool} {v : Value} {ty : Nat} (h : intOp op k x k' y = some (c, v)) (hc : c = true) :
    (binOp op ty (.int k x) (.int k' y)).run P w = .ok v w ∧ vok v ∧ adr v = false := by
  subst hc
  cases op <;> simp only [intOp] at h <;>
    first
      | (split at h
         · rename_i hk
           have hk := kindEq_spec hk
           subst hk
           simp only [Option.some.injEq, Prod.mk.injEq, true_and, Bool.not_eq_true', beq_eq_false_iff_ne, ne_eq] at h
           first
             | (subst h
                refine ⟨?_, trivial, rfl⟩
                simp [binOp, Op.intArith, Op.intBits, Op.intCmp])
             | (obtain ⟨hz, rfl⟩ := h
                refine ⟨?_, trivial, rfl⟩
                simp [binOp, Op.intDiv, hz])
         · cases h)
      | (simp only [Option.some.injEq, Prod.mk.injEq, decide_eq_true_eq] at h
         obtain ⟨hz, rfl⟩ := h
         refine ⟨?_, trivial, rfl⟩
         simp [binOp, Op.shift, Int.not_lt.2 hz])
      | cases h
theorem isArrInt_spec (hT : TabOk P tab) {ty n : Nat} (h : isArrInt tab ty n = true) : ∃ el k, P.underlying ty = some (.array n el) ∧ P.underlying el = some (.int k) ∧ ∀ w, (sizeOf el).run P w = .ok 1 w := by
  unfold isArrInt at h
  split at h
  · rename_i y hy
    split at h
    · rename_i len e hd
      split at h
      · rename_i z hz
        split at h
        · rename_i k hk
          simp only [Bool.and_eq_true, Nat.beq_eq] at h
          refine ⟨e, k, ?_, ?_, fun w => ?_⟩
          · rw [(hT _ _ hy).und, hd, h.1]
          · rw [(hT _ _ hz).und, hk]
          · rw [sizeOf_run (hT _ _ hz), h.2]
        · cases h
      · cases h
    · cases h
  · cases h

theorem isBoolT_spec (hT : TabOk P tab) {ty : Nat} (h : isBoolT tab ty = true) : P.underlying ty = some .bool := by
  unfold isBoolT at h
  split at h
  · rename_i y hy
    split at h
    · rename_i hd; rw [(hT _ _ hy).und, hd]
    · cases h
  · cases h

theorem eqGuard_int {op : BinOp} {ty : Nat} {x y : Operand} {k k' : IntKind} {u v : Int} : (eqGuard op ty x y (.int k u) (.int k' v)).run P w = .ok () w := by
  cases op <;> rfl
theorem eqGuard_string {op : BinOp} {ty : Nat} {x y : Operand} {u v : ByteArray} : (eqGuard op ty x y (.string u) (.string v)).run P w = .ok () w := by
  cases op <;> rfl
theorem eqGuard_bool {op : BinOp} {ty : Nat} {x y : Operand} {u v : Bool} : (eqGuard op ty x y (.bool u) (.bool v)).run P w = .ok () w := by
  cases op <;> rfl

theorem eqGuardType_arr {ty el n : Nat} {k : IntKind} (h1 : P.underlying ty = some (.array n el)) (h2 : P.underlying el = some (.int k)) (d : Nat) : P.eqGuardType (d + 2) ty = false := by
  simp [Program.eqGuardType, h1, h2]

theorem eqGuard_arr {op : BinOp} {ty el n : Nat} {k : IntKind} {x y : Operand} {xs ys : Array Value} (h1 : P.underlying ty = some (.array n el)) (h2 : P.underlying el = some (.int k)) : (eqGuard op ty x y (.agg xs) (.agg ys)).run P w = .ok () w := by
  have : P.eqGuardType P.depth ty = false := by
    unfold Program.depth
    exact eqGuardType_arr h1 h2 _
  cases op <;> first | rfl | simp [eqGuard, this]

theorem eqCells_spec : ∀ (xs ys : List Value) (e : Bool), eqCells xs ys = some e → xs.length = ys.length ∧
    (∀ i, i < xs.length → ∃ (k : IntKind) (a b : Int), xs[i]? = some (.int k a) ∧ ys[i]? = some (.int k b)) ∧
    (e = true ↔ ∀ (i : Nat) (k : IntKind) (a b : Int), xs[i]? = some (.int k a) → ys[i]? = some (.int k b) → a = b) := by
  intro xs
  induction xs with
  | nil =>
    intro ys e h
    cases ys with
    | nil => simp only [eqCells, Option.some.injEq] at h; subst h; simp
    | cons y r => cases y <;> cases h
  | cons x r ih =>
    intro ys e h
    cases ys with
    | nil => cases x <;> cases h
    | cons y r' =>
      cases x <;> cases y <;> first | (cases h; done) | skip
      rename_i k a k' b
      simp only [eqCells] at h
      split at h
      · cases h
      · rename_i hk
        have hk := kindEq_spec hk
        subst hk
        split at h
        · cases h
        · rename_i e' he'
          simp only [Option.some.injEq] at h
          subst h
          obtain ⟨i1, i2, i3⟩ := ih r' e' he'
          refine ⟨by simp [i1], ?_, ?_⟩
          · intro i hi
            cases i with
            | zero => exact ⟨k, a, b, by simp, by simp⟩
            | succ i => simpa using i2 i (by simpa using hi)
          · rw [Bool.and_eq_true, beq_iff_eq, i3]
            constructor
            · intro ⟨hab, hr⟩ i
              cases i with
              | zero =>
                intro k2 a2 b2 h1 h2
                simp at h1 h2
                rw [← h1.2, ← h2.2]; exact hab
              | succ i => simpa using hr i
            · intro hr
              exact ⟨hr 0 k a b (by simp) (by simp), fun i => by simpa using hr (i + 1)⟩

theorem eqItems_run {el : Nat} {k : IntKind} (he : P.underlying el = some (.int k)) (d : Nat) {xs ys : Array Value} (p : Nat → Bool) : ∀ (l : List Nat),
    (∀ i ∈ l, ∃ (k' : IntKind) (a b : Int), xs[i]? = some (.int k' a) ∧ ys[i]? = some (.int k' b) ∧ (a == b) = p i) →
    (Op.eqItems (d + 1) el 1 xs ys l).run P w = .ok (l.all p) w := by
  intro l
  induction l with
  | nil => intro _; simp [Op.eqItems]
  | cons i r ih =>
    intro hl
    obtain ⟨k', a, b, h1, h2, h3⟩ := hl i (by simp)
    have hp : ∀ (zs : Array Value) (c : Int), zs[i]? = some (.int k' c) → (part el zs (i * 1)).run P w = .ok (.int k' c) w := by
      intro zs c hz
      simp [part, isAgg_run he, isAggD, hz]
    have he2 : (Op.equalIn (d + 1) el (.int k' a) (.int k' b)).run P w = .ok (a == b) w := by
      simp [Op.equalIn, run_underlying he]
    simp only [Op.eqItems, Sem.run_bind, hp xs a h1, hp ys b h2, he2, Result.andThen_ok, h3, List.all_cons]
    cases p i with
    | true => simpa using ih fun j hj => hl j (List.mem_cons_of_mem _ hj)
    | false => simp

theorem equal_arr (hT : TabOk P tab) {ty : Nat} {xs ys : Array Value} (h : isArrInt tab ty xs.toList.length = true) {e : Bool} (he : eqCells xs.toList ys.toList = some e) : (Op.equal ty (.agg xs) (.agg ys)).run P w = .ok e w := by
  obtain ⟨el, k, h1, h2, h3⟩ := isArrInt_spec hT h
  obtain ⟨q1, q2, q3⟩ := eqCells_spec _ _ _ he
  have hi : ∃ i, P.info? el = some i := by
    have := h3 w
    cases hq : P.info? el with
    | none => simp [sizeOf, typeInfo, hq, stuck] at this
    | some i => exact ⟨i, rfl⟩
  obtain ⟨i, hi⟩ := hi
  have hc : P.cellsOf el = 1 := by
    have := h3 w
    simp [sizeOf, typeInfo, hi] at this
    simp [Program.cellsOf, hi, this]
  unfold Op.equal
  rw [show Op.maxDepth = 9998 + 1 + 1 from rfl, run_equalIn_array w (9998 + 1) xs ys h1 hi, hc]
  have key := eqItems_run (w := w) h2 9998 (xs := xs) (ys := ys) (fun i => match xs[i]?, ys[i]? with | some (.int _ a), some (.int _ b) => a == b | _, _ => false) (List.range xs.toList.length) (by
    intro j hj
    obtain ⟨k', a, b, r1, r2⟩ := q2 j (by simpa using hj)
    have r1 : xs[j]? = some (.int k' a) := by simpa using r1
    have r2 : ys[j]? = some (.int k' b) := by simpa using r2
    exact ⟨k', a, b, r1, r2, by simp [r1, r2]⟩)
  rw [key]
  congr 1
  rw [Bool.eq_iff_iff, List.all_eq_true, q3]
  constructor
  · intro hall j k' a b r1 r2
    have hj : j < xs.toList.length := (List.getElem?_eq_some_iff.1 r1).1
    have r1 : xs[j]? = some (.int k' a) := by simpa using r1
    have r2 : ys[j]? = some (.int k' b) := by simpa using r2
    have := hall j (by simpa using hj)
    simpa [r1, r2] using this
  · intro hall j hj
    obtain ⟨k', a, b, r1, r2⟩ := q2 j (by simpa using hj)
    have := hall j k' a b r1 r2
    have r1 : xs[j]? = some (.int k' a) := by simpa using r1
    have r2 : ys[j]? = some (.int k' b) := by simpa using r2
    simp [r1, r2, this]

theorem binF_run (hT : TabOk P tab) {op : BinOp} {ty : Nat} {u v r : Value} {c : Bool} {x y : Operand} (h : binF tab op ty u v = some (c, r)) (hc : c = true) :
    (eqGuard op ty x y u v).run P w = .ok () w ∧ (binOp op ty u v).run P w = .ok r w ∧ vok r ∧ adr r = false := by
  unfold binF at h
  split at h
  · exact ⟨eqGuard_int, intOp_run h hc⟩
  · rename_i s1 s2
    refine ⟨eqGuard_string, ?_⟩
    cases op <;> simp only at h <;> first | (cases h; done) | skip
    · cases h
      simp only [decide_eq_true_eq] at hc
      refine ⟨?_, trivial, rfl⟩
      have : ¬ ((s1.size + s2.size : Nat) : Int) > IntKind.i64.max := by omega
      simp only [binOp, Op.stringOp]
      rw [if_neg this]
      rfl
    · cases h; exact ⟨by simp [binOp, Op.stringOp], trivial, rfl⟩
    · cases h; exact ⟨by simp [binOp, Op.stringOp], trivial, rfl⟩
  · split at h
    · cases h
    · rename_i hb
      have hb := isBoolT_spec hT hb
      refine ⟨eqGuard_bool, ?_⟩
      cases op <;> simp only at h <;> first | (cases h; done) | skip
      · cases h; exact ⟨by simp only [binOp, Sem.run_bind, run_equal_bool w ty _ _ hb, Result.andThen_ok, Sem.run_pure], trivial, rfl⟩
      · cases h; exact ⟨by simp only [binOp, Sem.run_bind, run_equal_bool w ty _ _ hb, Result.andThen_ok, Sem.run_pure], trivial, rfl⟩
  · split at h
    · cases h
    · rename_i ha
      split at h
      · cases h
      · rename_i e he
        obtain ⟨el, k, h1, h2, h3⟩ := isArrInt_spec hT ha
        have heq := equal_arr (w := w) hT ha he
        refine ⟨eqGuard_arr h1 h2, ?_⟩
        cases op <;> simp only at h <;> first | (cases h; done) | skip
        · cases h; exact ⟨by simp only [binOp, Sem.run_bind, heq, Result.andThen_ok, Sem.run_pure], trivial, rfl⟩
        · cases h; exact ⟨by simp only [binOp, Sem.run_bind, heq, Result.andThen_ok, Sem.run_pure], trivial, rfl⟩
  · cases h

theorem case_binOp (hT : TabOk P tab) (hR : Rel w0 A ρ N t g a w) {op : BinOp} {ty ty' : Nat} {x y : Operand} (hop : o.op = .binOp op ty x y ty') (ho : opF tab orc sy id t g (.binOp op ty x y ty') = some out) (hc : out.c = true) : Ends P o a w w0 A N t g id out := by
  simp only [opF] at ho
  split at ho
  · rename_i u v hu hv
    unfold ofBV at ho
    split at ho
    · cases ho
    · rename_i c r hb
      cases ho
      obtain ⟨e1, _, _⟩ := hR.eval hu
      obtain ⟨e2, _, _⟩ := hR.eval hv
      have hpl : adr u = false ∧ adr v = false := by
        unfold binF at hb
        split at hb <;> first | exact ⟨rfl, rfl⟩ | cases hb
      rw [ren_plain hpl.1] at e1
      rw [ren_plain hpl.2] at e2
      obtain ⟨r1, r2, r3, r4⟩ := binF_run (w := w) (P := P) (x := x) (y := y) hT hb hc
      refine ends_plain hR r3 r4 ?_
      simp only [execOp, hop, e1, e2, Sem.run_bind, r1, r2, Result.andThen_ok, Sem.run_pure]
  · cases ho

theorem case_unOp (hR : Rel w0 A ρ N t g a w) {op : UnOp} {ty : Nat} {x : Operand} (hop : o.op = .unOp op ty x) (ho : opF tab orc sy id t g (.unOp op ty x) = some out) : Ends P o a w w0 A N t g id out := by
  simp only [opF] at ho
  split at ho
  · rename_i u hu
    split at ho
    · cases ho
    · rename_i r hr
      cases ho
      obtain ⟨e1, _, _⟩ := hR.eval hu
      unfold unF at hr
      split at hr
      · cases hr
        refine ends_plain hR trivial rfl ?_
        simp only [execOp, hop, e1, ren, Op.unary, Op.intArith, Sem.run_bind, Sem.run_pure, Result.andThen_ok]
      · cases hr
        refine ends_plain hR trivial rfl ?_
        simp only [execOp, hop, e1, ren, Op.unary, Sem.run_bind, Sem.run_pure, Result.andThen_ok]
      · cases hr
  · cases ho
end
end Go.Proofs.YthgefjgbkhkmgaaDoor.Ev
