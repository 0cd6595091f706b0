/- The engine's operations are sound, one by one: aggregates, literals and slices that are made. No condition. -/
import Derived.Test.YtkaigfcjejabfaaGreatDoorXV
set_option linter.unusedSimpArgs false
set_option linter.unusedVariables false
namespace Go.Proofs.YtkaigfcjejabfaaGreatDoor
open Go
namespace X

section
variable {P : Program} {G : Nat → Option AV} {w : World} {σ : Nat → Prop} {μ : Mu}
variable {X : Prog} {C : Oracle} {B : Nat} {H : Heap} {e : Env} {a : Act} {o : Oper} {r : AV × Heap}

theorem set_splice {α : Type} (A l : List α) (v : α) (m : Nat) (h : m + (l.length + 1) ≤ A.length) :
    (A.set m v).take (m + 1) ++ l ++ (A.set m v).drop (m + 1 + l.length) = A.take m ++ v :: l ++ A.drop (m + (l.length + 1)) := by
  have h0 : m < A.length := by omega
  have h1 : (A.set m v).take (m + 1) = A.take m ++ [v] := by
    rw [List.take_succ_eq_append_getElem (by simpa using h0), List.take_set_of_le (Nat.le_refl _)]
    simp
  have h2 : (A.set m v).drop (m + 1 + l.length) = A.drop (m + (l.length + 1)) := by
    rw [List.drop_set_of_lt (by omega)]
    congr 1; omega
  rw [h1, h2]
  simp

theorem foldSet : ∀ (l : List Value) (k : Nat) (cs : Array Value) (off : Nat), off + k + l.length ≤ cs.size →
    ((l.zipIdx k).foldl (fun (cs : Array Value) (p : Value × Nat) => cs.setIfInBounds (off + p.2) p.1) cs).toList = cs.toList.take (off + k) ++ l ++ cs.toList.drop (off + k + l.length)
  | [], k, cs, off, _ => by simp
  | v :: l, k, cs, off, h => by
    simp only [List.length_cons] at h
    rw [List.zipIdx_cons, List.foldl_cons, foldSet l (k + 1) _ off (by simp; omega)]
    simp only [Array.toList_setIfInBounds, List.length_cons]
    exact set_splice cs.toList l v (off + k) (by simp; omega)

theorem fill_ok {place pl : Nat → Option (Nat × Nat)} (hpl : ∀ i q, pl i = some q → place i = some q) (hr : HR G B σ μ H w) (he : ER σ μ e w a) : ∀ {l : List (Nat × Operand)} {ps : List (Nat × Nat × Arg)} {zs cs : List AV} {Z : Array Value},
    compParts G pl l = some ps → fillAV zs (ps.map fun p => (p.1, p.2.1, p.2.2.ev e)) = some cs → RVs w σ μ zs Z.toList →
    ∃ Z', Instr.fill place Z (l.map fun p => (p.1, a.eval p.2)) = some Z' ∧ RVs w σ μ cs Z'.toList
  | [], ps, zs, cs, Z, hps, hf, hz => by
    simp [compParts] at hps; subst hps
    simp [fillAV] at hf; subst hf
    exact ⟨Z, by simp [Instr.fill], hz⟩
  | p :: l, ps, zs, cs, Z, hps, hf, hz => by
    simp only [compParts, List.mapM_cons, Option.pure_def, Option.bind_eq_bind, Option.bind_eq_some_iff, Option.map_eq_some_iff, Option.some.injEq] at hps
    obtain ⟨_, ⟨q, hq, y, hy, rfl⟩, qs, hqs, rfl⟩ := hps
    simp only [List.map_cons, fillAV] at hf
    split at hf
    · rename_i hcond
      obtain ⟨c1, c2, c3⟩ := hcond
      have hv := RV.arg hr he hy
      have hcs := hv.cellsOf c2
      have hl := hcs.length
      have hzl := hz.length
      have hsz : (a.eval p.2).cells.size = q.2 := by rw [← c1, hl]; simp
      have hZ : Z.size = zs.length := by rw [hzl]; simp
      have hfold := foldSet (a.eval p.2).cells.toList 0 Z q.1 (by simp only [Array.length_toList]; omega)
      have key : ((a.eval p.2).cells.zipIdx.foldl (fun cs (x : Value × Nat) => cs.setIfInBounds (q.1 + x.2) x.1) Z).toList = Z.toList.take q.1 ++ (a.eval p.2).cells.toList ++ Z.toList.drop (q.1 + q.2) := by
        rw [← Array.foldl_toList, Array.toList_zipIdx, hfold]
        simp [hsz]
      obtain ⟨Z', h1, h2⟩ := fill_ok hpl hr he (l := l) (Z := (a.eval p.2).cells.zipIdx.foldl (fun cs (x : Value × Nat) => cs.setIfInBounds (q.1 + x.2) x.1) Z) hqs hf (by
        rw [key]
        exact ((hz.take _).append hcs).append (hz.drop _))
      refine ⟨Z', ?_, h2⟩
      have hn : ¬ (q.1 + (a.eval p.2).cells.size > Z.size) := by omega
      simp only [List.map_cons, Instr.fill, hpl _ _ hq, hsz]
      rw [if_neg (by simp; omega)]
      exact h1
    · cases hf

theorem run_places {fs : Array Field} (h : (fs.toList.all fun f => (P.info? f.type).isSome) = true) :
    ∃ places : Array (Nat × Nat), (fs.mapM (fun (f : Field) => (do pure (f.offset, ← sizeOf f.type) : Sem (Nat × Nat)))).run P w = .ok places w ∧ ∀ i q, fieldPlaces P fs i = some q → places[i]? = some q := by
  have key : ∀ (l : List Field), (l.all fun f => (P.info? f.type).isSome) = true → ∃ ps : List (Nat × Nat), (l.mapM (fun (f : Field) => (do pure (f.offset, ← sizeOf f.type) : Sem (Nat × Nat)))).run P w = .ok ps w ∧
      ∀ (i : Nat) (q : Nat × Nat), ((l[i]?).bind fun (f : Field) => (P.info? f.type).map fun s => (f.offset, s.size)) = some q → ps[i]? = some q := by
    intro l
    induction l with
    | nil => intro _; exact ⟨[], by simp, fun i q h => by simp at h⟩
    | cons f l ih =>
      intro hl
      simp only [List.all_cons, Bool.and_eq_true] at hl
      obtain ⟨ps, h1, h2⟩ := ih hl.2
      obtain ⟨s, hs⟩ := Option.isSome_iff_exists.1 hl.1
      refine ⟨(f.offset, s.size) :: ps, ?_, ?_⟩
      · simp only [List.mapM_cons, Sem.run_bind, sizeOf, typeInfo, run_program, hs, Result.andThen_ok, Sem.run_pure] at h1 ⊢
        simp only [h1, Result.andThen_ok]
      · intro i q hi
        cases i with
        | zero => simp [hs] at hi; simp [hi]
        | succ i => simp at hi ⊢; exact h2 i q (by simpa using hi)
  obtain ⟨ps, h1, h2⟩ := key fs.toList h
  refine ⟨ps.toArray, ?_, ?_⟩
  · rw [Array.mapM_eq_mapM_toList]
    simp only [Sem.run_map, h1, Result.andThen_ok]
  · intro i q hi
    have := h2 i q (by simpa [fieldPlaces] using hi)
    simpa using this

theorem ok_build {t : TypeId} {parts : Array (Nat × Operand)} {own : Bool} {xo : XOp} (hc : compOp P G own (.build t parts) = some xo) (hx : xop X C xo e H = some r) (hr : HR G B σ μ H w) (he : ER σ μ e w a) :
    OpOK P (.build t parts) o a w (Post G B σ μ w r) := by
  simp only [compOp, Option.bind_eq_some_iff] at hc
  obtain ⟨inf, hinf, z, hz, v, hv, hc⟩ := hc
  have hzero : (zeroValue t).run P w = .ok z w := by simp [zeroValue, typeInfo, hinf, hz]
  have fin : ∀ (zs : List AV) (ps : List (Nat × Nat × Arg)) (place pl : Nat → Option (Nat × Nat)), v = .agg zs → (∀ i q, pl i = some q → place i = some q) → compParts G pl parts.toList = some ps → xo = .build zs ps →
      (∀ Z', Instr.fill place z.cells (parts.map fun (i, x) => (i, a.eval x)).toList = some Z' → (execOp a.eval { o with op := .build t parts }).run P w = .ok (.value (.agg Z')) w) → OpOK P (.build t parts) o a w (Post G B σ μ w r) := by
    intro zs ps place pl hvz hpl hps hxo hrun
    subst hxo
    subst hvz
    simp only [xop, Option.map_eq_some_iff] at hx
    obtain ⟨cs, hcs, rfl⟩ := hx
    obtain ⟨xs, rfl, hxs⟩ := (RV.ofValue (w := w) (σ := σ) (μ := μ) hv).agg_inv
    obtain ⟨Z', h1, h2⟩ := fill_ok hpl hr he (Z := (Value.agg xs.toArray).cells) hps hcs (by simpa [Value.cells] using hxs)
    refine .quiet (x := .agg Z') hr rfl (hrun Z' (by simpa using h1)) ?_
    have := RV.agg (w := w) (σ := σ) μ cs Z'.toList h2
    simpa using this
  split at hc
  · rename_i zs fs hu
    split at hc
    · rename_i hall
      rw [Option.map_eq_some_iff] at hc
      obtain ⟨ps, hps, rfl⟩ := hc
      obtain ⟨places, p1, p2⟩ := run_places (P := P) (w := w) hall
      refine fin zs ps (fun i => places[i]?) (fieldPlaces P fs) rfl p2 hps rfl ?_
      intro Z' hZ
      simp only [execOp, Instr.build, Sem.run_bind, hzero, Result.andThen_ok, run_underlying hu] at p1 ⊢
      rw [p1]
      simp only [Result.andThen_ok, hZ]
      rfl
    · cases hc
  · rename_i zs n el hu
    simp only [Option.bind_eq_some_iff, Option.map_eq_some_iff] at hc
    obtain ⟨s, hs, ps, hps, rfl⟩ := hc
    refine fin zs ps (fun i => some (i * s.size, s.size)) _ rfl (fun i q h => h) hps rfl ?_
    intro Z' hZ
    simp only [execOp, Instr.build, Sem.run_bind, hzero, Result.andThen_ok, run_underlying hu, sizeOf, typeInfo, run_program, hs, Sem.run_pure, hZ]
  · cases hc
end
end X
end Go.Proofs.YtkaigfcjejabfaaGreatDoor
