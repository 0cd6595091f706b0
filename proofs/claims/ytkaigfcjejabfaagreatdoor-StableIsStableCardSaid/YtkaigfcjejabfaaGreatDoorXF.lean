/- The engine's runs are sound. No condition. -/
import Derived.Test.YtkaigfcjejabfaaGreatDoorXH
set_option linter.unusedSimpArgs false
set_option linter.unusedVariables false
namespace Go.Proofs.YtkaigfcjejabfaaGreatDoor
open Go
namespace X

section
variable {P : Program} {G : Nat → Option AV} {X : Prog} {C : Oracle}

theorem sem_ok {α : Type} {P : Program} {m : Sem α} {x : α} {w w' : World} (h : m.run P w = .ok x w') {β : Type} (k : α → Sem β) : (m >>= k).run P w = (k x).run P w' := by
  simp [h]

theorem results_run {fn : Func} {rs : List XRes} (h : fn.results.toList.mapM (compResult P) = some rs) {B : Nat} {σ : Nat → Prop} {μ : Mu} {H : Heap} {w : World} {e : Env} {a : Act} (hr : HR G B σ μ H w) (he : ER σ μ e w a) {v : AV}
    (hv : resultsOf rs e H = some v) : ∃ x, (results fn a.tmps).run P w = .ok x w ∧ RV w σ μ v x := by
  let f : ResultVar → Sem Value := fun x => match x with
    | .tmp t => pure (a.tmps.getD t Go.undef)
    | .cell c t => do loadVar t (← asAddr (a.tmps.getD c Go.undef))
  have key : ∀ (l : List ResultVar) (rs : List XRes) (us : List AV), l.mapM (compResult P) = some rs → rs.mapM (XRes.get e H) = some us → ∃ xs : List Value, (l.mapM f).run P w = .ok xs w ∧ RVs w σ μ us xs := by
    intro l
    induction l with
    | nil => intro rs us h h'; simp at h; subst h; simp at h'; subst h'; exact ⟨[], by simp, .nil _⟩
    | cons x l ih =>
      intro rs us h h'
      simp only [List.mapM_cons, Option.pure_def, Option.bind_eq_bind, Option.bind_eq_some_iff, Option.some.injEq] at h
      obtain ⟨t, ht, ts, hts, rfl⟩ := h
      simp only [List.mapM_cons, Option.pure_def, Option.bind_eq_bind, Option.bind_eq_some_iff, Option.some.injEq] at h'
      obtain ⟨u, hu, us', hus, rfl⟩ := h'
      obtain ⟨xs, h1, h2⟩ := ih ts us' hts hus
      have hx : ∃ y, (f x).run P w = .ok y w ∧ RV w σ μ u y := by
        cases x with
        | tmp k =>
          simp only [compResult, Option.some.injEq] at ht
          subst ht
          simp only [XRes.get, Option.some.injEq] at hu
          subst hu
          exact ⟨_, by simp [f], he k⟩
        | cell c t =>
          simp only [compResult, Option.map_eq_some_iff] at ht
          obtain ⟨n, hn, rfl⟩ := ht
          simp only [XRes.get] at hu
          obtain ⟨rb, off, z, h3, h4, h5⟩ := load_at (P := P) hn (he c) hu hr
          refine ⟨z, ?_, h5⟩
          simp only [f, h3, asAddr, pure_bind]
          exact h4
      obtain ⟨y, h3, h4⟩ := hx
      refine ⟨y :: xs, ?_, .cons _ _ _ _ _ h4 h2⟩
      rw [List.mapM_cons, sem_ok h3, sem_ok h1]
      simp
  simp only [resultsOf, Option.map_eq_some_iff] at hv
  obtain ⟨us, hus, hv⟩ := hv
  obtain ⟨xs, h1, h2⟩ := key _ _ _ h hus
  have hrun : (fn.results.mapM f).run P w = .ok xs.toArray w := by
    rw [Array.mapM_eq_mapM_toList, ← bind_pure_comp, sem_ok h1]
    simp
  have hres : (results fn a.tmps).run P w = .ok (if h : xs.toArray.size = 1 then xs.toArray[0] else .tuple xs.toArray) w := by
    have : results fn a.tmps = (fn.results.mapM f >>= fun vs => pure (if h : vs.size = 1 then vs[0] else .tuple vs)) := rfl
    rw [this, sem_ok hrun]
    simp
  refine ⟨_, hres, ?_⟩
  subst hv
  cases h2 with
  | nil => exact .tuple _ _ _ (.nil _)
  | cons _ v x vs xs hvx hvs =>
    cases hvs with
    | nil => exact hvx
    | cons _ v' x' vs' xs' hvx' hvs' => exact .tuple _ _ _ (.cons _ _ _ _ _ hvx (.cons _ _ _ _ _ hvx' hvs'))

theorem ER.start {σ : Nat → Prop} {μ : Mu} {w : World} {args : List AV} {xs : List Value} {n : Nat} (h : RVs w σ μ args xs) : ER σ μ (env0 args) w { tmps := xs.toArray ++ Array.replicate n undef, defers := [] } := by
  intro t
  have hu : RV w σ μ (.tuple []) undef := .tuple _ _ [] (.nil _)
  by_cases ht : t < args.length
  · obtain ⟨x, hx, hv⟩ := h.get (List.getElem?_eq_getElem ht)
    have h1 : env0 args t = args[t] := by simp [env0, List.getD_eq_getElem?_getD, List.getElem?_eq_getElem ht]
    have hlt : t < xs.length := h.length ▸ ht
    have h2 : (xs.toArray ++ Array.replicate n undef).getD t undef = x := by
      rw [Array.getD_eq_getD_getElem?, Array.getElem?_append_left (by simpa using hlt)]
      simp [hx]
    rw [h1]
    simp only
    rw [h2]
    exact hv
  · have h1 : env0 args t = .tuple [] := by simp [env0, List.getD_eq_getElem?_getD, List.getElem?_eq_none (Nat.le_of_not_lt ht)]
    have h2 : (xs.toArray ++ Array.replicate n undef).getD t undef = undef := by
      rw [Array.getD_eq_getD_getElem?, Array.getElem?_append_right (by simp; rw [← h.length]; omega), Array.getElem?_replicate]
      split <;> rfl
    rw [h1]
    simp only
    rw [h2]
    exact hu

/-- A function's run. -/
theorem func_ok {h : Hints} {k f : Nat} {fn : XFunc} (hm : P.follows .mixedOrders = true) (hC : OracleOK P G C) (hP : PrimOK P G X) (hc : compFunc P G X h f = some fn) {args : List AV} {H : Heap} {r : AV × Heap} (hlen : args.length = fn.nparams)
    (hx : (code X C (fun b => rounds b k) fn.code (env0 args) H).bind (finish fn) = some r) : SharedOK P G f args H r := by
  intro B σ μ w xs hr hv
  unfold compFunc at hc
  simp only [Option.bind_eq_some_iff] at hc
  obtain ⟨g, hg, c, hb, x, hcode, rs, hrs, hc⟩ := hc
  split at hc
  · rename_i hck
    obtain ⟨hname, hfits, hn⟩ := hck
    cases hc
    simp only at hlen hx
    have hcall : (callFunc f xs.toArray).run P w = .ok (.enter f xs.toArray) w := by
      have hne : ¬ g.name = "runtime.NumGoroutine" := by simpa using hname
      simp [callFunc, hg, hne, hb]
    unfold CallOK
    rw [hcall]
    simp only
    refine calls_of_wp hg hb ?_
    rw [Option.bind_eq_some_iff] at hx
    obtain ⟨s, h1, h2⟩ := hx
    have hsz : (xs.toArray ++ Array.replicate (g.ntmps - xs.toArray.size) undef).size = g.ntmps := by
      have := hv.length
      simp; omega
    refine code_ok hm hC hP c 0 x hcode hfits _ _ s B σ μ _ w _ h1 ⟨hr, ER.start hv, hsz, rfl⟩ fun a' w' hbh => ?_
    obtain ⟨σ', μ', k1, k2⟩ := hbh
    obtain ⟨ex, e1, H1⟩ := s
    have hpost : ∀ v, resultsOf rs e1 H1 = some v → ∃ x, (results g a'.tmps).run P w' = .ok x w' ∧ Post G B σ μ w (v, H1) x w' := by
      intro v hv
      obtain ⟨x, h3, h4⟩ := results_run hrs k1.hr k1.er hv
      exact ⟨x, h3, σ', μ', k1.hr, h4, k2⟩
    cases ex with
    | normal =>
      simp only [finish, Option.map_eq_some_iff] at h2
      obtain ⟨v, hv, rfl⟩ := h2
      obtain ⟨x, h3, h4⟩ := hpost v hv
      exact ⟨k1.df, _, h3, _, rfl, h4⟩
    | ret =>
      simp only [finish, Option.map_eq_some_iff] at h2
      obtain ⟨v, hv, rfl⟩ := h2
      obtain ⟨x, h3, h4⟩ := hpost v hv
      exact ⟨k1.df, _, h3, _, rfl, h4⟩
    | exit id => simp [finish] at h2
  · cases hc

/-- The engine's functions are the program's. -/
def ProgOK (P : Program) (G : Nat → Option AV) (X : Prog) : Prop := ∀ f fn, X.fn f = some fn → ∃ h, compFunc P G X h f = some fn

/-- Runs with any fuel. -/
theorem run_ok (hm : P.follows .mixedOrders = true) (hX : ProgOK P G X) (hP : PrimOK P G X) : ∀ k, OracleOK P G (run X k) := by
  intro k
  induction k with
  | zero => intro f args H r h; simp [run] at h
  | succ k ih =>
    intro f args H r h
    simp only [run, Option.bind_eq_some_iff] at h
    obtain ⟨fn, hfn, h⟩ := h
    split at h
    · rename_i hlen
      obtain ⟨hh, hc⟩ := hX f fn hfn
      exact func_ok hm ih hP hc hlen h
    · cases h
end
end X
end Go.Proofs.YtkaigfcjejabfaaGreatDoor
