/-
  Shapes of plain values: rows of numbers of one kind.
-/
import Derived.Test.YthgefjgbkhkmgaaDoorBase
namespace Go.Proofs.YthgefjgbkhkmgaaDoor.Ev
open Go Go.RowKit

/-- n numbers of one kind -/
def isA (k : IntKind) : Nat → List Value → Bool
  | 0, [] => true
  | n + 1, .int k' _ :: r => match kindEq k' k with | true => isA k n r | false => false
  | _, _ => false

def atI : List Value → Nat → Int
  | .int _ x :: _, 0 => x
  | _ :: r, n + 1 => atI r n
  | _, _ => 0

theorem isA_cells {k : IntKind} : ∀ {n : Nat} {l : List Value} (i : Nat) (f : Nat → Int), isA k n l = true → (∀ j, j < n → f (i + j) = atI l j) → l = cellsOf k f n i := by
  intro n
  induction n with
  | zero => intro l i f h _; cases l with
    | nil => rfl
    | cons x r => cases h
  | succ n ih =>
    intro l i f h hf
    cases l with
    | nil => cases h
    | cons x r =>
      cases x with
      | int k' x =>
        simp only [isA] at h
        split at h
        · rename_i hk
          have := kindEq_spec hk
          subst this
          simp only [cellsOf]
          have h0 := hf 0 (by omega)
          simp only [Nat.add_zero, atI] at h0
          rw [h0, ih (i + 1) f h fun j hj => by
            have := hf (j + 1) (by omega)
            simp only [atI] at this
            rw [← this]; congr 1; omega]
        · cases h
      | _ => cases h

/-- a row of numbers, by its numbers -/
theorem isA_eq {k : IntKind} {n : Nat} {l : List Value} (h : isA k n l = true) : ∃ f, l = cellsOf k f n 0 :=
  ⟨fun j => atI l j, isA_cells 0 _ h fun j _ => by rw [Nat.zero_add]⟩

theorem cellsOf_ok {k : IntKind} {f : Nat → Int} : ∀ {n i : Nat}, ∀ c ∈ cellsOf k f n i, cok c := by
  intro n
  induction n with
  | zero => intro i c h; cases h
  | succ n ih =>
    intro i c h
    rcases List.mem_cons.1 h with e | e
    · subst e; exact ⟨rfl, rfl⟩
    · exact ih c e

theorem vok_ints {k : IntKind} {n : Nat} {l : List Value} (h : isA k n l = true) : vok (.agg l.toArray) := by
  obtain ⟨f, rfl⟩ := isA_eq h
  intro c hc
  exact cellsOf_ok c hc

def bodyOf (f : Func) : Code := match f.body with | some c => c | none => .skip

theorem fo_ctr {orc : Orc} {sy : Sy} {br : List Nat} {lo : Lo} {fuel : Nat} {f : Nat} {fn : Func} {c : Code} {args : List Value} {v : Value} {sc : List Bool} (hO : OrcOk Tryd.prog orc) (hf : Tryd.prog.funcs[f]? = some fn) (hb : fn.body = some c)
    (hids : idsOf args = []) (hev : evBody tab orc sy br lo fuel fn c args [] 0 sc (fun r => r = v)) (hL : LoOk Tryd.prog lo := by exact loOk_nil) : ∀ g, Ctr Tryd.prog f args g v := fun g =>
  ctr_of_ev tabOk hO mixed hL hf hb hev (by rw [hids]; intro i h; cases h) (by intro i b h; cases h)

/-! ## Arguments by their shapes -/
inductive Sh where
  | int (k : IntKind)
  | arr (k : IntKind) (n : Nat)
  | bool
  | str

/-- what the arguments hold -/
structure Env where
  i : Nat → Nat → Int
  b : Nat → Bool
  s : Nat → ByteArray

def ithF : List (Nat → Int) → Nat → Nat → Int
  | [], _ => fun _ => 0
  | f :: _, 0 => f
  | _ :: r, n + 1 => ithF r n
def ithS : List ByteArray → Nat → ByteArray
  | [], _ => ByteArray.empty
  | s :: _, 0 => s
  | _ :: r, n + 1 => ithS r n
/-- by rows: numbers, texts -/
def mkE (fs : List (Nat → Int)) (ss : List ByteArray) : Env := ⟨ithF fs, fun _ => false, ithS ss⟩

def fits1 : Sh → Value → Bool
  | .int k, .int k' _ => kindEq k' k
  | .arr k n, .agg cs => isA k n cs.toList
  | .bool, .bool _ => true
  | .str, .string _ => true
  | _, _ => false

def fits : List Sh → List Value → Bool
  | [], [] => true
  | s :: r, v :: vs => match fits1 s v with | true => fits r vs | false => false
  | _, _ => false

def mk1 (e : Env) (j : Nat) : Sh → Value
  | .int k => .int k (e.i j 0)
  | .arr k n => arrOf k n (e.i j)
  | .bool => .bool (e.b j)
  | .str => .string (e.s j)

def mkA : List Sh → Env → Nat → List Value
  | [], _, _ => []
  | s :: r, e, j => mk1 e j s :: mkA r e (j + 1)

theorem fits1_mk {s : Sh} {v : Value} (h : fits1 s v = true) : ∃ (f : Nat → Int) (b : Bool) (x : ByteArray), ∀ (e : Env) (j : Nat), e.i j = f → e.b j = b → e.s j = x → v = mk1 e j s := by
  cases s with
  | int k =>
    cases v with
    | int k' x =>
      have := kindEq_spec h
      subst this
      exact ⟨fun _ => x, false, ByteArray.empty, fun e j h1 _ _ => by simp [mk1, h1]⟩
    | _ => cases h
  | arr k n =>
    cases v with
    | agg cs =>
      obtain ⟨f, hf⟩ := isA_eq h
      refine ⟨f, false, ByteArray.empty, fun e j h1 _ _ => ?_⟩
      simp only [mk1, h1, arrOf, ← hf]
    | _ => cases h
  | bool => cases v with
    | bool b => exact ⟨fun _ => 0, b, ByteArray.empty, fun e j _ h2 _ => by simp [mk1, h2]⟩
    | _ => cases h
  | str => cases v with
    | string x => exact ⟨fun _ => 0, false, x, fun e j _ _ h3 => by simp [mk1, h3]⟩
    | _ => cases h

theorem fits_mk : ∀ {sh : List Sh} {vs : List Value} (j : Nat), fits sh vs = true → ∃ e, vs = mkA sh e j := by
  intro sh
  induction sh with
  | nil => intro vs j h; cases vs with
    | nil => exact ⟨⟨fun _ _ => 0, fun _ => false, fun _ => ByteArray.empty⟩, rfl⟩
    | cons v r => cases h
  | cons s sh ih =>
    intro vs j h
    cases vs with
    | nil => cases h
    | cons v vs =>
      simp only [fits] at h
      split at h
      · rename_i h1
        obtain ⟨f, b, x, hv⟩ := fits1_mk h1
        obtain ⟨e, he⟩ := ih (j + 1) h
        have key : ∀ (e e' : Env) (sh : List Sh) (k : Nat), j + 1 ≤ k → (∀ m, m ≠ j → e'.i m = e.i m ∧ e'.b m = e.b m ∧ e'.s m = e.s m) → mkA sh e' k = mkA sh e k := by
          intro e e' sh
          induction sh with
          | nil => intro k _ _; rfl
          | cons s sh ih =>
            intro k hk hm
            have h0 := hm k (by omega)
            simp only [mkA]
            rw [ih (k + 1) (by omega) hm]
            congr 1
            cases s <;> simp [mk1, h0]
        refine ⟨⟨fun m => if m = j then f else e.i m, fun m => if m = j then b else e.b m, fun m => if m = j then x else e.s m⟩, ?_⟩
        simp only [mkA]
        congr 1
        · exact hv _ _ (by simp) (by simp) (by simp)
        · rw [he]
          exact (key _ _ sh (j + 1) (Nat.le_refl _) fun m hm => by simp [hm]).symm
      · cases h

theorem ids_mk : ∀ {sh : List Sh} {e : Env} {j : Nat}, idsOf (mkA sh e j) = [] := by
  intro sh
  induction sh with
  | nil => intros; rfl
  | cons s sh ih =>
    intro e j
    simp only [mkA, idsOf, ih, List.append_nil]
    cases s <;> rfl

/-- a function by the shapes of its arguments -/
def foOf (sh : List Sh) (F : List Value → Bool × Value) : Fo := fun args =>
  match fits sh args with
  | true => some (F args)
  | false => none

def okC : Value → Bool
  | .agg _ => false
  | .tuple _ => false
  | .pointer (some _) => false
  | .slice (some _) _ _ => false
  | _ => true
def allC (p : Value → Bool) : List Value → Bool
  | [] => true
  | c :: r => match p c with | true => allC p r | false => false
def okT : Value → Bool
  | .agg cs => allC okC cs.toList
  | v => okC v
def okV : Value → Bool
  | .tuple vs => allC okT vs.toList
  | v => okT v

theorem allC_mem {p : Value → Bool} : ∀ {l : List Value}, allC p l = true → ∀ c ∈ l, p c = true := by
  intro l
  induction l with
  | nil => intro _ c h; cases h
  | cons x r ih =>
    intro h c hc
    simp only [allC] at h
    split at h
    · rename_i hx
      rcases List.mem_cons.1 hc with e | e
      · subst e; exact hx
      · exact ih h c e
    · cases h

theorem okC_cok {v : Value} (h : okC v = true) : cok v := by
  cases v <;> first | exact ⟨rfl, rfl⟩ | cases h | skip
  · rename_i p; cases p with
    | none => exact ⟨rfl, rfl⟩
    | some p => cases h
  · rename_i p _ _; cases p with
    | none => exact ⟨rfl, rfl⟩
    | some p => cases h

theorem okT_tok {v : Value} (h : okT v = true) : tok v := by
  cases v <;> first | exact okC_cok h | skip
  exact fun c hc => okC_cok (allC_mem h c hc)

theorem okV_ok {v : Value} (h : okV v = true) : adr v = false ∧ vok v := by
  cases v
  case tuple vs => exact ⟨rfl, fun c hc => okT_tok (allC_mem (l := vs.toList) h c hc)⟩
  all_goals
    unfold okV at h
    exact ⟨(okT_tok h).adr, (okT_tok h).vok⟩

/-- **a function joined** -/
theorem fo_of' {f : Nat} {fn : Func} {c : Code} {sh : List Sh} {F : List Value → Bool × Value} (hf : Tryd.prog.funcs[f]? = some fn) (hb : fn.body = some c) (hn : (fn.name == "runtime.NumGoroutine") = false)
    (hv : ∀ e, okV (F (mkA sh e 0)).2 = true) (hev : ∀ e, (F (mkA sh e 0)).1 = true → ∀ g, Ctr Tryd.prog f (mkA sh e 0) g (F (mkA sh e 0)).2) : FoOk f (foOf sh F) := by
  refine ⟨⟨fn, hf, by rw [hb]; rfl, hn⟩, fun args c v h hc => ?_⟩
  unfold foOf at h
  split at h
  · rename_i hfit
    obtain ⟨e, rfl⟩ := fits_mk 0 hfit
    have h1 : (F (mkA sh e 0)).1 = true := by rw [Option.some.inj h]; exact hc
    have h2 : (F (mkA sh e 0)).2 = v := by rw [Option.some.inj h]
    have h3 := hv e
    rw [h2] at h3
    obtain ⟨h4, h5⟩ := okV_ok h3
    have hev := hev e h1
    rw [h2] at hev
    exact ⟨h4, h5, hev⟩
  · cases h

theorem fo_of {orc : Orc} {sy : Sy} {br : List Nat} {fuel : Nat} {f : Nat} {fn : Func} {c : Code} {sh : List Sh} {F : List Value → Bool × Value} (hO : OrcOk Tryd.prog orc) (hf : Tryd.prog.funcs[f]? = some fn) (hb : fn.body = some c) (hn : (fn.name == "runtime.NumGoroutine") = false)
    (hv : ∀ e, okV (F (mkA sh e 0)).2 = true) (hev : ∀ e, (F (mkA sh e 0)).1 = true → ∃ sc, evBody tab orc sy br [] fuel fn c (mkA sh e 0) [] 0 sc (fun r => r = (F (mkA sh e 0)).2)) : FoOk f (foOf sh F) :=
  fo_of' hf hb hn hv fun e h1 => by
    obtain ⟨sc, hev⟩ := hev e h1
    exact fo_ctr hO hf hb ids_mk hev

end Go.Proofs.YthgefjgbkhkmgaaDoor.Ev
