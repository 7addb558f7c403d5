/-
  Each operation's reckoning is the model's: the operations that make or touch blocks.
-/
import Derived.Test.YthgefjgbkhkmgaaDoorEvB
namespace Go.Proofs.YthgefjgbkhkmgaaDoor.Ev
open Go Go.RowKit

section
variable {P : Program} {tab : Tab} {orc : Orc} {sy : Sy} {w0 : World} {A : Nat → Prop} {ρ : Nat → Nat × Nat × Nat} {N : Nat} {t : Slots} {g : Blks} {a : Act} {w : World} {id : Nat} {out : Out} {o : Oper}

theorem case_alloc (hT : TabOk P tab) (hR : Rel w0 A ρ N t g a w) (hid : ¬ A id) {e : Nat} (hop : o.op = .alloc e) (ho : opF tab orc sy id t g (.alloc e) = some out) : Ends P o a w w0 A N t g id out := by
  simp only [opF] at ho
  split at ho
  · cases ho
  · rename_i y hy
    cases ho
    have hy := hT _ _ hy
    obtain ⟨z, hz, hzz⟩ := zero_run hy w
    refine ends_new hR hid hy.zok [] (Or.inl rfl) ?_
    simp only [execOp, hop, Instr.alloc, Sem.run_bind, hz, Result.andThen_ok, newVar, newRow, newObj, Sem.run]
    simp [ren, ← hzz]

theorem case_box (hR : Rel w0 A ρ N t g a w) (hid : ¬ A id) {e : Nat} {x : Operand} (hop : o.op = .box e x) (ho : opF tab orc sy id t g (.box e x) = some out) : Ends P o a w w0 A N t g id out := by
  simp only [opF] at ho
  split at ho
  · cases ho
  · rename_i v hx
    split at ho
    · cases ho
    · rename_i hb
      cases ho
      simp only [Bool.or_eq_false_iff] at hb
      obtain ⟨h1, h2, h3⟩ := hR.eval hx
      rw [ren_plain hb.1] at h1
      refine ends_new hR hid (vcells_cok h2 hb.1 hb.2) [] (Or.inl rfl) ?_
      simp only [execOp, hop, Instr.box, Sem.run_bind, newVar, newRow, newObj, Sem.run, h1]
      simp [ren, ← vcells_eq]

theorem case_build (hT : TabOk P tab) (hR : Rel w0 A ρ N t g a w) {e : Nat} {parts : Array (Nat × Operand)} (hop : o.op = .build e parts) (ho : opF tab orc sy id t g (.build e parts) = some out) : Ends P o a w w0 A N t g id out := by
  simp only [opF] at ho
  split at ho
  · rename_i y ps hy hps
    have hy := hT _ _ hy
    obtain ⟨z, hz, hzz⟩ := zero_run hy w
    obtain ⟨q1, q2⟩ := hR.parts hps
    have hzc : z.cells = y.zero.toArray := by rw [← hzz]
    split at ho
    · rename_i len el hd
      split at ho
      · cases ho
      · rename_i zt hzt
        have hzt := hT _ _ hzt
        split at ho
        · cases ho
        · rename_i cs hf
          cases ho
          obtain ⟨f1, f2, f3⟩ := fill_run _ _ _ _ hf q2 hy.zok
          rw [ps_plain f3] at q1
          have hpl := map_parts parts ps q1
          refine ends_plain hR (vok_arr f2) rfl ?_
          simp only [execOp, hop, Instr.build, Sem.run_bind, hz, Result.andThen_ok, run_underlying hy.und, hd, sizeOf_run hzt, hpl, hzc, f1, Sem.run_pure]
    · rename_i fs hd
      split at ho
      · cases ho
      · rename_i pl hpls
        split at ho
        · cases ho
        · rename_i cs hf
          cases ho
          obtain ⟨f1, f2, f3⟩ := fill_run _ _ _ _ hf q2 hy.zok
          rw [ps_plain f3] at q1
          have hpl := map_parts parts ps q1
          have hm := places_run (P := P) (w := w) hT fs.toList pl hpls
          have hm' : (fs.mapM fun f => (do pure (f.offset, ← sizeOf f.type) : Sem (Nat × Nat))).run P w = .ok pl.toArray w := by
            rw [Array.mapM_eq_mapM_toList]
            simp only [Sem.run_map, hm, Result.andThen_ok]
          refine ends_plain hR (vok_arr f2) rfl ?_
          have hn : (fun i => pl.toArray[i]?) = nth pl := by funext i; rw [nth_eq]; simp
          simp only [execOp, hop, Instr.build, Sem.run_bind, hz, Result.andThen_ok, run_underlying hy.und, hd]
          simp only [hm', Result.andThen_ok, hpl, hzc, hn, f1, Sem.run_pure]
    · cases ho
  · cases ho

theorem case_buildSlice (hT : TabOk P tab) (hR : Rel w0 A ρ N t g a w) (hid : ¬ A id) {e len : Nat} {parts : Array (Nat × Operand)} (hop : o.op = .buildSlice e len parts) (ho : opF tab orc sy id t g (.buildSlice e len parts) = some out) : Ends P o a w w0 A N t g id out := by
  simp only [opF] at ho
  split at ho
  · rename_i y ps hy hps
    have hy := hT _ _ hy
    obtain ⟨q1, q2⟩ := hR.parts hps
    split at ho
    · rename_i el hd
      split at ho
      · cases ho
      · rename_i zt hzt
        have hzt := hT _ _ hzt
        split at ho
        · rename_i cs hb hf
          cases ho
          simp only [Bool.and_eq_true, Nat.ble_eq, Bool.not_eq_true', Nat.beq_eq] at hb
          obtain ⟨⟨hb1, hb2⟩, hb3⟩ := hb
          have hb3 : len * zt.size ≠ 0 := by intro e; rw [e] at hb3; cases hb3
          obtain ⟨f1, f2, f3⟩ := fill_run _ _ _ _ hf q2 (fun c hc => hzt.zok c (zeroRow_mem hc))
          rw [ps_plain f3] at q1
          have hpl := map_parts parts ps q1
          obtain ⟨z, hz, hzz⟩ := zero_run hzt w
          have hzs : z.cells.size = zt.size := by rw [← hb1, ← hzz]; simp
          have hrow := zeroRow_range z.cells len zt.size hzs hb3
          rw [hzz] at hrow
          refine ends_new hR hid f2 [] (Or.inr ⟨_, _, rfl⟩) ?_
          simp only [execOp, hop, Instr.buildSlice, Sem.run_bind, Result.andThen_ok, run_underlying hy.und, hd, sizeOf_run hzt]
          have hlc : ¬ len = capX := by
            have : len ≤ len * zt.size := Nat.le_mul_of_pos_right _ (by rcases Nat.eq_zero_or_pos zt.size with e | e; (rw [e] at hb3; simp at hb3); exact e)
            unfold capX
            omega
          rw [if_neg (by simpa using hb2), if_neg hb3]
          simp only [Sem.run_bind, hz, Result.andThen_ok, Sem.run_pure, hrow, hpl, f1, newRow, newObj, Sem.run]
          simp [ren, hlc]
        · cases ho
    · cases ho
  · cases ho

theorem case_load (hT : TabOk P tab) (hR : Rel w0 A ρ N t g a w) {e : Nat} {x : Operand} (hop : o.op = .load e x) (ho : opF tab orc sy id t g (.load e x) = some out) (hc : out.c = true) : Ends P o a w w0 A N t g id out := by
  simp only [opF] at ho
  split at ho
  · rename_i b off y hx hy
    split at ho
    · cases ho
    · rename_i k hk
      cases ho
      obtain ⟨h1, h2, h3⟩ := hR.eval hx
      obtain ⟨l1, l2⟩ := load_run (P := P) (hR.hp b k hk).2 (hT _ _ hy) hc
      refine ends_plain hR l2.vok l2.adr ?_
      simp only [execOp, hop, Instr.loadAt, Instr.sureAddr, h1, ren, Sem.run_bind, Sem.run_pure, Result.andThen_ok, l1]
  · cases ho

theorem case_store (hT : TabOk P tab) (hR : Rel w0 A ρ N t g a w) {e : Nat} {x y : Operand} (hop : o.op = .store e x y) (ho : opF tab orc sy id t g (.store e x y) = some out) (hc : out.c = true) : Ends P o a w w0 A N t g id out := by
  simp only [opF] at ho
  split at ho
  · rename_i b off v ty hx hv hy
    have hy := hT _ _ hy
    split at ho
    · cases ho
    · rename_i k hk
      obtain ⟨h1, _, _⟩ := hR.eval hx
      obtain ⟨e1, e2, e3⟩ := hR.eval hv
      split at ho
      · cases ho
      · rename_i hb
        simp only [Bool.and_eq_true, Bool.not_eq_true'] at hb
        obtain ⟨⟨b1, b2⟩, b3⟩ := hb
        rw [ren_plain b2] at e1
        have hok := vcells_cok e2 b2 b3
        have run : ∀ w', v.cells.size = ty.size → (storeCells ⟨(ρ b).1, off + (ρ b).2.2, none⟩ (vcells v) 0).run P w = .ok () w' → (execOp a.eval o).run P w = .ok .skip w' := by
          intro w' hs hw
          simp only [execOp, hop, Instr.storeAt, Instr.sureAddr, h1, ren, Sem.run_bind, Sem.run_pure, Result.andThen_ok, storeVar, e1, sizeOf_run hy]
          rw [if_neg (by simp [hs]), vcells_eq, hw]
          simp
        split at ho
        · rename_i cs
          cases ho
          simp only [Bool.and_eq_true, Nat.ble_eq, Nat.beq_eq] at hc
          refine ends_store hR hk b1 (off := off) (vs := cs.toList) (by rw [hc.2]; exact hc.1) hok rfl ?_
          intro w' hw
          exact run w' (by simpa [Value.cells] using hc.2) hw
        · rename_i hna
          cases ho
          simp only [Bool.and_eq_true, Nat.ble_eq, Nat.beq_eq] at hc
          have hvc : vcells v = [v] := by
            cases v with
            | agg cs => exact absurd rfl (hna cs)
            | _ => rfl
          refine ends_store hR hk b1 (off := off) (vs := [v]) (by simpa using hc.1) (by rw [← hvc]; exact hok) (put1_eq _ _ _ (by have := hc.1; omega)) ?_
          intro w' hw
          refine run w' ?_ (by rw [hvc]; exact hw)
          have : v.cells.toList.length = 1 := by rw [vcells_eq, hvc]; rfl
          rw [hc.2]; simpa using this
  · cases ho
end
end Go.Proofs.YthgefjgbkhkmgaaDoor.Ev
