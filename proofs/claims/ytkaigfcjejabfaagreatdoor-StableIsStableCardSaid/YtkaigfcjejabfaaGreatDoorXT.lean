/- The engine's operations are sound, one by one: literals of slices, slices that are made. No condition. -/
import Derived.Test.YtkaigfcjejabfaaGreatDoorXU
set_option linter.unusedSimpArgs false
set_option linter.unusedVariables false
namespace Go.Proofs.YtkaigfcjejabfaaGreatDoor
open Go
namespace X

section
variable {P : Program} {G : Nat → Option AV} {w : World} {σ : Nat → Prop} {μ : Mu}
variable {X : Prog} {C : Oracle} {B : Nat} {H : Heap} {e : Env} {a : Act} {o : Oper} {r : AV × Heap}

theorem RVs.each {μ' : Mu} {vs : List AV} {xs : List Value} (h : RVs w σ μ vs xs) (hv : ∀ v ∈ vs, ∀ x, RV w σ μ v x → RV w σ μ' v x) : RVs w σ μ' vs xs := by
  induction vs generalizing xs with
  | nil => cases h; exact .nil _
  | cons v vs ih =>
    cases h with
    | cons _ _ x _ xs h hs => exact .cons _ _ _ _ _ (hv v (by simp) x h) (ih hs fun u hu => hv u (by simp [hu]))

/-- What has no reference into the heap stands for the same whatever the heap. -/
theorem RV.unref : ∀ {k : Nat} {v : AV}, noRef k v = true → ∀ {x : Value} {μ' : Mu}, RV w σ μ v x → RV w σ μ' v x
  | 0, v, h, _, _, _ => by simp [noRef] at h
  | k + 1, v, h, x, μ', hr => by
    cases hr with
    | undef => exact .undef _ _
    | bool => exact .bool _ _
    | int => exact .int _ _ _
    | str => exact .str _ _
    | nilptr => exact .nilptr _
    | nilslice => exact .nilslice _
    | nilmap => exact .nilmap _
    | nilfunc => exact .nilfunc _
    | niliface => exact .niliface _
    | ptr => simp [noRef] at h
    | slice => simp [noRef] at h
    | map => simp [noRef] at h
    | iter => simp [noRef] at h
    | vptr _ _ _ _ _ _ _ _ h1 h2 h3 h4 => exact .vptr _ _ _ _ _ _ _ _ h1 h2 h3 h4
    | vslice0 => exact .vslice0 _ _ _
    | vslice _ _ _ _ _ _ _ _ _ _ h1 h2 h3 h4 h5 h6 => exact .vslice _ _ _ _ _ _ _ _ _ _ h1 h2 h3 h4 h5 h6
    | vmap _ _ _ _ _ _ h1 h2 hb h3 h4 => exact .vmap _ _ _ _ _ _ h1 h2 hb h3 h4
    | func _ _ _ _ hs => simp only [noRef, List.all_eq_true] at h; exact .func _ _ _ _ (hs.each fun u hu y hy => RV.unref (h u hu) hy)
    | iface _ _ _ _ hv => simp only [noRef] at h; exact .iface _ _ _ _ (RV.unref h hv)
    | agg _ _ _ hs => simp only [noRef, List.all_eq_true] at h; exact .agg _ _ _ (hs.each fun u hu y hy => RV.unref (h u hu) hy)
    | tuple _ _ _ hs => simp only [noRef, List.all_eq_true] at h; exact .tuple _ _ _ (hs.each fun u hu y hy => RV.unref (h u hu) hy)

theorem RVs.unref {k : Nat} {vs : List AV} {xs : List Value} {μ' : Mu} (h : RVs w σ μ vs xs) (hv : vs.all (noRef k) = true) : RVs w σ μ' vs xs :=
  h.each fun v hm x hx => hx.unref (List.all_eq_true.1 hv v hm)

theorem cells_noRef {k : Nat} {v u : AV} (h : noRef k v = true) (hu : u ∈ v.cells) : ∃ k, noRef k u = true := by
  cases k with
  | zero => simp [noRef] at h
  | succ k =>
    cases v with
    | agg cs => simp only [noRef, List.all_eq_true] at h; exact ⟨k, h u hu⟩
    | _ => simp only [AV.cells, List.mem_singleton] at hu; subst hu; exact ⟨k + 1, h⟩

theorem flat_replicate {v : AV} {sz n i : Nat} (hv : v.cells.length = sz) (h0 : 0 < sz) (hi : i < n * sz) : ((List.replicate n v).flatMap AV.cells)[i]? = v.cells[i % sz]? := by
  have h1 : i / sz < n := by rw [Nat.div_lt_iff_lt_mul h0]; exact hi
  have h2 : (i / sz) * sz + i % sz = i := by rw [Nat.mul_comm]; exact Nat.div_add_mod i sz
  have := flat_get (off := i % sz) (Nat.mod_lt _ h0) (es := List.replicate n v) (i := i / sz) (x := v) (fun e he => by rw [List.eq_of_mem_replicate he]; exact hv) (by simp [h1])
  rwa [h2] at this

theorem zeros_ok {v : AV} {z : Value} {sz n : Nat} (h : RVs w σ μ v.cells z.cells.toList) (hv : v.cells.length = sz) (h0 : 0 < sz) :
    RVs w σ μ ((List.replicate n v).flatMap AV.cells) ((Array.range (n * sz)).map (z.cells[· % z.cells.size]!)).toList := by
  have hz : z.cells.size = sz := by rw [← hv, h.length]; simp
  refine RVs.of_get ?_ ?_
  · rw [flat_length (sz := sz) (fun e he => by rw [List.eq_of_mem_replicate he]; exact hv)]; simp
  · intro i u x hu hx
    have hi : i < n * sz := by have := (List.getElem?_eq_some_iff.1 hx).1; simpa using this
    rw [flat_replicate hv h0 hi] at hu
    obtain ⟨y, hy, hr⟩ := h.get hu
    simp only [Array.toList_map, Array.toList_range, List.getElem?_map, List.getElem?_range hi, Option.map_some, Option.some.injEq] at hx
    have hm : i % sz < z.cells.size := by rw [hz]; exact Nat.mod_lt _ h0
    rw [hz] at hx
    rw [← hx, getElem!_pos z.cells (i % sz) hm]
    simp at hy
    rw [Array.getElem?_eq_getElem hm] at hy
    cases hy
    exact hr

theorem fillLit_fill {sz : Nat} : ∀ {ps : List (Nat × AV)} {es es' : List AV}, (∀ e ∈ es, e.cells.length = sz ∧ e.cells.all AV.storable = true) → fillLit sz es ps = some es' →
    fillAV (es.flatMap AV.cells) (ps.map fun p => (p.1 * sz, sz, p.2)) = some (es'.flatMap AV.cells) ∧ (∀ e ∈ es', e.cells.length = sz ∧ e.cells.all AV.storable = true) ∧ es'.length = es.length
  | [], es, es', he, h => by simp [fillLit] at h; subst h; exact ⟨by simp [fillAV], he, rfl⟩
  | (i, v) :: ps, es, es', he, h => by
    simp only [fillLit] at h
    split at h
    · rename_i hc
      obtain ⟨c1, c2, c3⟩ := hc
      have hall : ∀ e ∈ es, e.cells.length = sz := fun e h => (he e h).1
      have he2 : ∀ e ∈ es.set i v, e.cells.length = sz ∧ e.cells.all AV.storable = true := by
        intro e hm
        rcases List.mem_or_eq_of_mem_set hm with h | rfl
        · exact he e h
        · exact ⟨c1, c2⟩
      obtain ⟨h1, h2, h3⟩ := fillLit_fill he2 h
      have hx : es[i]? = some es[i] := List.getElem?_eq_getElem c3
      refine ⟨?_, h2, by rw [h3]; simp⟩
      have hle : i * sz + sz ≤ (es.flatMap AV.cells).length := by rw [flat_length hall, ← Nat.succ_mul]; exact Nat.mul_le_mul_right _ c3
      simp only [List.map_cons, fillAV]
      rw [if_pos ⟨c1, c2, hle⟩, ← flat_set hall hx c1]
      exact h1
    · cases h

theorem compLit_parts {sz : Nat} : ∀ {l : List (Nat × Operand)} {ps : List (Nat × Arg)}, (l.mapM fun p => (compArg G p.2).map fun x => (p.1, x)) = some ps →
    compParts G (fun i => some (i * sz, sz)) l = some (ps.map fun p => (p.1 * sz, sz, p.2))
  | [], ps, h => by simp at h; subst h; simp [compParts]
  | p :: l, ps, h => by
    simp only [List.mapM_cons, Option.pure_def, Option.bind_eq_bind, Option.bind_eq_some_iff, Option.map_eq_some_iff, Option.some.injEq] at h
    obtain ⟨_, ⟨y, hy, rfl⟩, qs, hqs, rfl⟩ := h
    have := compLit_parts (sz := sz) hqs
    simp only [compParts, Option.bind_some] at this ⊢
    rw [List.mapM_cons, this]
    simp [hy]

theorem ok_buildSlice {t : TypeId} {len : Nat} {parts : Array (Nat × Operand)} {own : Bool} {xo : XOp} (hc : compOp P G own (.buildSlice t len parts) = some xo) (hx : xop X C xo e H = some r) (hr : HR G B σ μ H w)
    (he : ER σ μ e w a) : OpOK P (.buildSlice t len parts) o a w (Post G B σ μ w r) := by
  simp only [compOp] at hc
  split at hc
  · rename_i el hu
    simp only [Option.bind_eq_some_iff] at hc
    obtain ⟨inf, hinf, z, hz, v, hv, hc⟩ := hc
    split at hc
    · rename_i hcond
      obtain ⟨c1, c2, c3, c4⟩ := hcond
      rw [Option.map_eq_some_iff] at hc
      obtain ⟨ps, hps, rfl⟩ := hc
      simp only [xop, Option.bind_eq_some_iff] at hx
      obtain ⟨es, hes, hx⟩ := hx
      have hvz := RV.ofValue (w := w) (σ := σ) (μ := μ) hv
      have hcs := hvz.cellsOf c3
      have hz0 := zeros_ok (n := len) hcs c2 c4
      obtain ⟨f1, f2, f3⟩ := fillLit_fill (sz := inf.size) (es := List.replicate len v) (fun e he => by rw [List.eq_of_mem_replicate he]; exact ⟨c2, c3⟩) hes
      obtain ⟨Z', h1, h2⟩ := fill_ok (place := fun i => some (i * inf.size, inf.size)) (pl := fun i => some (i * inf.size, inf.size)) (fun _ _ h => h) hr he (Z := (Array.range (len * inf.size)).map (z.cells[· % z.cells.size]!)) (compLit_parts hps)
        (by rw [List.map_map] at f1 ⊢; exact f1) hz0
      have hlen : es.length = len := by rw [f3]; simp
      have hn : ¬ len * inf.size > 2 ^ 24 := by omega
      have hrun : (execOp a.eval { o with op := .buildSlice t len parts }).run P w = .ok (.value (.slice (some ⟨w.heap.size, 0, none⟩) len len)) (w.alloc (.cells Z' el)) := by
        have h1' : Instr.fill (fun i => some (i * inf.size, inf.size)) ((Array.range (len * inf.size)).map (z.cells[· % z.cells.size]!)) (parts.map fun (i, x) => (i, a.eval x)).toList = some Z' := by simpa using h1
        by_cases h0 : len * inf.size = 0
        · have h1'' : Instr.fill (fun i => some (i * inf.size, inf.size)) #[] (parts.map fun (i, x) => (i, a.eval x)).toList = some Z' := by rw [h0, Array.range_zero', Array.map_empty] at h1'; exact h1'
          simp only [execOp, Instr.buildSlice, Sem.run_bind, run_underlying hu, Result.andThen_ok, sizeOf, typeInfo, run_program, hinf, Sem.run_pure, h0, if_true, Sem.run_ite, Array.range_zero', Array.map_empty, h1'', newRow]
          rfl
        · simp only [execOp, Instr.buildSlice, Sem.run_bind, run_underlying hu, Result.andThen_ok, sizeOf, typeInfo, run_program, hinf, Sem.run_pure, zeroValue, hz, h0, if_false, Sem.run_ite, hn, h1', newRow]
          rfl
      have hZ : (es.flatMap AV.cells).length = Z'.size := by rw [h2.length]; simp
      have hfl := flat_length fun e h => (f2 e h).1
      cases own with
      | true =>
        simp only [if_true, Option.some.injEq] at hx
        subst hx
        obtain ⟨g1, g2⟩ := hr.row (w' := w.alloc (.cells Z' el)) (sz := inf.size) (es := es) (c := Z') (ty := el) (vs := Z'.toList) (by simp) (fun b hb => alloc_old _ hb) (alloc_new _) f2 h2 (fun i hi => by simp) (by omega)
        refine .value hrun ⟨_, _, g1, ?_, g2⟩
        have := RV.slice (w := w.alloc (.cells Z' el)) (σ := σ) _ H.length 0 es.length es.length _ (put_new (μ := μ) (H := H) ⟨w.heap.size, 0, inf.size, es.length, Z'.size⟩) (Nat.le_refl _) (by simp) (by simp; omega)
        rw [← hlen]; simpa using this
      | false =>
        simp only [Bool.false_eq_true, if_false] at hx
        split at hx
        · rename_i hnr
          cases hx
          obtain ⟨g1, g2⟩ := hr.more (w' := w.alloc (.cells Z' el)) (σ' := fun b => σ b ∨ b = w.heap.size) (by simp) (fun b hb => alloc_old _ hb) (fun b h => .inl h) (fun b h => by
            rcases h with h | rfl
            · exact .inl h
            · exact .inr (by simp))
          refine .value hrun ⟨_, _, g1, ?_, g2⟩
          by_cases h0 : es = []
          · subst h0
            rw [← hlen]
            exact .vslice0 _ _ _
          · have hcells : RVs w σ noMu (es.flatMap AV.cells) Z'.toList := h2.each (fun u hu y hy => by
              obtain ⟨e0, he0, hu0⟩ := List.mem_flatMap.1 hu
              obtain ⟨k0, hk0⟩ := cells_noRef (List.all_eq_true.1 hnr e0 he0) hu0
              exact hy.unref hk0)
            rw [← hlen]
            exact .vslice _ es w.heap.size 0 Z' el (0, 0) Z'.toList inf.size es.length (.inr rfl) (alloc_new _) (fun i hi => by simp) f2 (hcells.mono g2.sub fun _ _ h => by cases h) (Nat.le_refl _)
        · cases hx
    · cases hc
  · cases hc
end
end X
end Go.Proofs.YtkaigfcjejabfaaGreatDoor
