/- The engine's runs are sound. From a run of the engine's to the call of a law. The engine without fuel: the limit of its runs; its code with what comes next handed on, so that bodies unfold by definition. The engine's code with what comes next handed on: bodies unfold by definition. The engine's code in the form that is printed: guards are looked at once, what is left out is known as it stands. No condition. -/
import Derived.Test.YtplginnkececaaaGreatDoorZXH
import Derived.Below
import Derived.Test.YtplginnkececaaaGreatDoorZXC
set_option linter.unusedSimpArgs false
set_option linter.unusedVariables false
namespace Go.Proofs.YtplginnkececaaaGreatDoor
open Go
namespace X

section
variable {P : Program} {G : Nat → Option AV} {X : Prog} {C : Oracle}

theorem sem_ok {α : Type} {P : Program} {m : Sem α} {x : α} {w w' : World} (h : m.run P w = .ok x w') {β : Type} (k : α → Sem β) : (m >>= k).run P w = (k x).run P w' := by
  simp [h]

theorem results_run {fn : Func} {rs : List XRes} (h : fn.results.toList.mapM (compResult P) = some rs) {B : Nat} {σ : Nat → Prop} {μ : Mu} {H : Heap} {w : World} {e : Env} {a : Act} (hr : HR G B σ μ H w) (he : ER σ μ e w a) {v : AV}
    (hv : resultsOf rs e H = some v) : ∃ x, (results fn a.tmps).run P w = .ok x w ∧ RV w σ μ v x := by
  let f : ResultVar → Sem Value := fun x => match x with
    | .tmp t => pure (a.tmps.getD t Go.undef)
    | .cell c t => do loadVar t (← asAddr (a.tmps.getD c Go.undef))
  have key : ∀ (l : List ResultVar) (rs : List XRes) (us : List AV), l.mapM (compResult P) = some rs → rs.mapM (XRes.get e H) = some us → ∃ xs : List Value, (l.mapM f).run P w = .ok xs w ∧ RVs w σ μ us xs := by
    intro l
    induction l with
    | nil => intro rs us h h'; simp at h; subst h; simp at h'; subst h'; exact ⟨[], by simp, .nil _⟩
    | cons x l ih =>
      intro rs us h h'
      simp only [List.mapM_cons, Option.pure_def, Option.bind_eq_bind, Option.bind_eq_some_iff, Option.some.injEq] at h
      obtain ⟨t, ht, ts, hts, rfl⟩ := h
      simp only [List.mapM_cons, Option.pure_def, Option.bind_eq_bind, Option.bind_eq_some_iff, Option.some.injEq] at h'
      obtain ⟨u, hu, us', hus, rfl⟩ := h'
      obtain ⟨xs, h1, h2⟩ := ih ts us' hts hus
      have hx : ∃ y, (f x).run P w = .ok y w ∧ RV w σ μ u y := by
        cases x with
        | tmp k =>
          simp only [compResult, Option.some.injEq] at ht
          subst ht
          simp only [XRes.get, Option.some.injEq] at hu
          subst hu
          exact ⟨_, by simp [f], he k⟩
        | cell c t =>
          simp only [compResult, Option.map_eq_some_iff] at ht
          obtain ⟨n, hn, rfl⟩ := ht
          simp only [XRes.get] at hu
          obtain ⟨rb, off, z, h3, h4, h5⟩ := load_at (P := P) hn (he c) hu hr
          refine ⟨z, ?_, h5⟩
          simp only [f, h3, asAddr, pure_bind]
          exact h4
      obtain ⟨y, h3, h4⟩ := hx
      refine ⟨y :: xs, ?_, .cons _ _ _ _ _ h4 h2⟩
      rw [List.mapM_cons, sem_ok h3, sem_ok h1]
      simp
  simp only [resultsOf, Option.map_eq_some_iff] at hv
  obtain ⟨us, hus, hv⟩ := hv
  obtain ⟨xs, h1, h2⟩ := key _ _ _ h hus
  have hrun : (fn.results.mapM f).run P w = .ok xs.toArray w := by
    rw [Array.mapM_eq_mapM_toList, ← bind_pure_comp, sem_ok h1]
    simp
  have hres : (results fn a.tmps).run P w = .ok (if h : xs.toArray.size = 1 then xs.toArray[0] else .tuple xs.toArray) w := by
    have : results fn a.tmps = (fn.results.mapM f >>= fun vs => pure (if h : vs.size = 1 then vs[0] else .tuple vs)) := rfl
    rw [this, sem_ok hrun]
    simp
  refine ⟨_, hres, ?_⟩
  subst hv
  cases h2 with
  | nil => exact .tuple _ _ _ (.nil _)
  | cons _ v x vs xs hvx hvs =>
    cases hvs with
    | nil => exact hvx
    | cons _ v' x' vs' xs' hvx' hvs' => exact .tuple _ _ _ (.cons _ _ _ _ _ hvx (.cons _ _ _ _ _ hvx' hvs'))

theorem ER.start {σ : Nat → Prop} {μ : Mu} {w : World} {args : List AV} {xs : List Value} {n : Nat} (h : RVs w σ μ args xs) : ER σ μ (env0 args) w { tmps := xs.toArray ++ Array.replicate n undef, defers := [] } := by
  intro t
  have hu : RV w σ μ (.tuple []) undef := .tuple _ _ [] (.nil _)
  by_cases ht : t < args.length
  · obtain ⟨x, hx, hv⟩ := h.get (List.getElem?_eq_getElem ht)
    have h1 : env0 args t = args[t] := by simp [env0, List.getD_eq_getElem?_getD, List.getElem?_eq_getElem ht]
    have hlt : t < xs.length := h.length ▸ ht
    have h2 : (xs.toArray ++ Array.replicate n undef).getD t undef = x := by
      rw [Array.getD_eq_getD_getElem?, Array.getElem?_append_left (by simpa using hlt)]
      simp [hx]
    rw [h1]
    simp only
    rw [h2]
    exact hv
  · have h1 : env0 args t = .tuple [] := by simp [env0, List.getD_eq_getElem?_getD, List.getElem?_eq_none (Nat.le_of_not_lt ht)]
    have h2 : (xs.toArray ++ Array.replicate n undef).getD t undef = undef := by
      rw [Array.getD_eq_getD_getElem?, Array.getElem?_append_right (by simp; rw [← h.length]; omega), Array.getElem?_replicate]
      split <;> rfl
    rw [h1]
    simp only
    rw [h2]
    exact hu

theorem func_ok {h : Hints} {k f : Nat} {fn : XFunc} (hm : P.follows .mixedOrders = true) (hC : OracleOK P G C) (hP : PrimOK P G X) (hc : compFunc P G X h f = some fn) {args : List AV} {H : Heap} {r : AV × Heap} (hlen : args.length = fn.nparams)
    (hx : (code X C (fun b => rounds b k) fn.code (env0 args) H).bind (finish fn) = some r) : SharedOK P G f args H r := by
  intro B σ μ w xs hr hv
  unfold compFunc at hc
  simp only [Option.bind_eq_some_iff] at hc
  obtain ⟨g, hg, c, hb, x, hcode, rs, hrs, hc⟩ := hc
  split at hc
  · rename_i hck
    obtain ⟨hname, hfits, hn⟩ := hck
    cases hc
    simp only at hlen hx
    have hcall : (callFunc f xs.toArray).run P w = .ok (.enter f xs.toArray) w := by
      have hne : ¬ g.name = "runtime.NumGoroutine" := by simpa using hname
      simp [callFunc, hg, hne, hb]
    unfold CallOK
    rw [hcall]
    simp only
    refine calls_of_wp hg hb ?_
    rw [Option.bind_eq_some_iff] at hx
    obtain ⟨s, h1, h2⟩ := hx
    have hsz : (xs.toArray ++ Array.replicate (g.ntmps - xs.toArray.size) undef).size = g.ntmps := by
      have := hv.length
      simp; omega
    refine code_ok hm hC hP c 0 x hcode hfits _ _ s B σ μ _ w _ h1 ⟨hr, ER.start hv, hsz, rfl⟩ fun a' w' hbh => ?_
    obtain ⟨σ', μ', k1, k2⟩ := hbh
    obtain ⟨ex, e1, H1⟩ := s
    have hpost : ∀ v, resultsOf rs e1 H1 = some v → ∃ x, (results g a'.tmps).run P w' = .ok x w' ∧ Post G B σ μ w (v, H1) x w' := by
      intro v hv
      obtain ⟨x, h3, h4⟩ := results_run hrs k1.hr k1.er hv
      exact ⟨x, h3, σ', μ', k1.hr, h4, k2⟩
    cases ex with
    | normal =>
      simp only [finish, Option.map_eq_some_iff] at h2
      obtain ⟨v, hv, rfl⟩ := h2
      obtain ⟨x, h3, h4⟩ := hpost v hv
      exact ⟨k1.df, _, h3, _, rfl, h4⟩
    | ret =>
      simp only [finish, Option.map_eq_some_iff] at h2
      obtain ⟨v, hv, rfl⟩ := h2
      obtain ⟨x, h3, h4⟩ := hpost v hv
      exact ⟨k1.df, _, h3, _, rfl, h4⟩
    | exit id => simp [finish] at h2
  · cases hc

def ProgOK (P : Program) (G : Nat → Option AV) (X : Prog) : Prop := ∀ f fn, X.fn f = some fn → ∃ h, compFunc P G X h f = some fn

theorem run_ok (hm : P.follows .mixedOrders = true) (hX : ProgOK P G X) (hP : PrimOK P G X) : ∀ k, OracleOK P G (run X k) := by
  intro k
  induction k with
  | zero => intro f args H r h; simp [run] at h
  | succ k ih =>
    intro f args H r h
    simp only [run, Option.bind_eq_some_iff] at h
    obtain ⟨fn, hfn, h⟩ := h
    split at h
    · rename_i hlen
      obtain ⟨hh, hc⟩ := hX f fn hfn
      exact func_ok hm ih hP hc hlen h
    · cases h
end
end X
end Go.Proofs.YtplginnkececaaaGreatDoor

set_option linter.unusedSimpArgs false
set_option linter.unusedVariables false
namespace Go.Proofs.YtplginnkececaaaGreatDoor
open Go
namespace X

section
variable {P : Program} {G : Nat → Option AV} {X : Prog}

theorem calls_of_run (hm : P.follows .mixedOrders = true) (hX : ProgOK P G X) (hP : PrimOK P G X) {k f : Nat} {v : AV} {b : Bool} {H : Heap} (h : run X k f [v] [] = some (.bool b, H)) {W : World} {x : Value}
    (hx : RV W (fun b => b < W.heap.size) noMu v x) (hg : ∀ g v, G g = some v → RV W (fun b => b < W.heap.size) noMu v (.pointer (some ⟨g, 0, none⟩))) {fn : Func} {c : Code} (hf : P.funcs[f]? = some fn) (hb : fn.body = some c) (hn : (fn.name == "runtime.NumGoroutine") = false) :
    Calls P f #[x] W fun e w' => e = .returned (.bool b) ∧ RowKit.Below W.heap.size W w' := by
  have hC := run_ok hm hX hP k
  have := hC f [v] [] _ h W.heap.size _ noMu W [x] (HR.empty (fun b hb => hb) hg) (.cons _ _ _ _ _ hx (.nil _))
  unfold CallOK at this
  have hcall : (callFunc f [x].toArray).run P W = .ok (.enter f #[x]) W := by
    have hne : ¬ fn.name = "runtime.NumGoroutine" := by simpa using hn
    simp [callFunc, hf, hne, hb]
  rw [hcall] at this
  refine this.mono ?_
  rintro e w' ⟨y, rfl, σ', μ', _, hv, hs⟩
  exact ⟨by rw [hv.bool_inv], hs.out.os, hs.out.tape, hs.out.output, hs.size, hs.old⟩

theorem RV.ints {W : World} {zs : List Int} {k : IntKind} {rb off cap : Nat} {c : Array Value} {ty : TypeId} {fz : Nat × Nat} (hb : W.heap[rb]? = some (.cells c ty fz)) (hc : ∀ i z, zs[i]? = some z → c[off + i]? = some (.int k z)) (hl : zs.length ≤ cap) :
    RV W (fun b => b < W.heap.size) noMu (.vslice (zs.map (.int k))) (.slice (some ⟨rb, off, none⟩) zs.length cap) := by
  have hfl : (zs.map (AV.int k)).flatMap AV.cells = zs.map (.int k) := by
    clear hc hl
    induction zs with
    | nil => rfl
    | cons z zs ih =>
      simp only [List.map_cons, List.flatMap_cons, AV.cells, List.singleton_append]
      rw [ih]
  have := RV.vslice (w := W) (σ := fun b => b < W.heap.size) noMu (zs.map (.int k)) rb off c ty fz (zs.map (.int k)) 1 cap (by
      by_cases h : rb < W.heap.size
      · exact h
      · rw [Array.getElem?_eq_none (by omega)] at hb; cases hb) hb ?_ ?_ ?_ (by simpa using hl)
  · simpa using this
  · intro i hi
    rw [List.getElem?_map]
    have hi' : i < zs.length := by simpa using hi
    rw [List.getElem?_eq_getElem hi', hc i _ (List.getElem?_eq_getElem hi')]
    rfl
  · intro e he
    obtain ⟨z, _, rfl⟩ := List.mem_map.1 he
    exact ⟨rfl, rfl⟩
  · rw [hfl]
    clear hfl hb hc hl
    induction zs with
    | nil => exact .nil _
    | cons z zs ih => exact .cons _ _ _ _ _ (.int _ _ _) ih
end
end X
end Go.Proofs.YtplginnkececaaaGreatDoor

set_option linter.unusedSimpArgs false
set_option linter.unusedVariables false
namespace Go.Proofs.YtplginnkececaaaGreatDoor
open Go
namespace X

def Le {α : Type} (x y : Option α) : Prop := ∀ r, x = some r → y = some r

theorem Le.refl {α : Type} (x : Option α) : Le x x := fun _ h => h
theorem Le.bind {α β : Type} {x y : Option α} {f g : α → Option β} (h : Le x y) (hf : ∀ a, Le (f a) (g a)) : Le (x.bind f) (y.bind g) := by
  intro r hr
  rw [Option.bind_eq_some_iff] at hr ⊢
  obtain ⟨a, h1, h2⟩ := hr
  exact ⟨a, h a h1, hf a r h2⟩
theorem Le.map {α β : Type} {x y : Option α} {f : α → β} (h : Le x y) : Le (x.map f) (y.map f) := by
  intro r hr
  rw [Option.map_eq_some_iff] at hr ⊢
  obtain ⟨a, h1, h2⟩ := hr
  exact ⟨a, h a h1, h2⟩

def OLe (C D : Oracle) : Prop := ∀ f a H, Le (C f a H) (D f a H)

abbrev LoopOp := (Env → Heap → Option (Ex × Env × Heap)) → Env → Heap → Option (Ex × Env × Heap)
def LLe (L M : LoopOp) : Prop := ∀ b c, (∀ e H, Le (b e H) (c e H)) → ∀ e H, Le (L b e H) (M c e H)

section mono
variable {X : Prog} {C D : Oracle}

theorem pureCall_le (h : OLe C D) (f : Nat) (args : List AV) (H : Heap) : Le (pureCall X C f args H) (pureCall X D f args H) := by
  unfold pureCall
  refine (Le.refl _).bind fun as => ?_
  split
  · exact Le.refl _
  · exact (h _ _ _).bind fun r => Le.refl _

theorem callAV_le (h : OLe C D) (fn : AV) (args : List AV) (H : Heap) : Le (callAV X C fn args H) (callAV X D fn args H) := by
  unfold callAV
  split
  · split
    · exact (pureCall_le h _ _ _).map
    · exact h _ _ _
    · exact (h _ _ _).bind fun r => Le.refl _
    · exact (Le.refl _).bind fun as => (h _ _ _).bind fun r => Le.refl _
  · exact Le.refl _

theorem pcallAV_le (h : OLe C D) (fn : AV) (args : List AV) (H : Heap) : Le (pcallAV X C fn args H) (pcallAV X D fn args H) := by
  unfold pcallAV
  split
  · split
    · exact pureCall_le h _ _ _
    · exact Le.refl _
  · exact Le.refl _

theorem xop_le (h : OLe C D) (op : XOp) (e : Env) (H : Heap) : Le (xop X C op e H) (xop X D op e H) := by
  cases op with
  | call f args => exact callAV_le h _ _ _
  | pcall f args => exact (pcallAV_le h _ _ _).map
  | _ => exact Le.refl _

theorem opers_le (h : OLe C D) : ∀ (os : List XOper) (e : Env) (H : Heap), Le (opers X C os e H) (opers X D os e H)
  | [], e, H => Le.refl _
  | o :: os, e, H => by
    unfold opers oper
    refine Le.bind ((Le.refl _).bind fun w => ?_) fun r => opers_le h os _ _
    cases w
    · exact Le.refl _
    · exact (xop_le h _ _ _).map

theorem code_le (h : OLe C D) {L M : LoopOp} (hL : LLe L M) : ∀ (c : XCode) (e : Env) (H : Heap), Le (code X C L c e H) (code X D M c e H) := by
  intro c
  induction c with
  | region ops chk => intro e H; exact (opers_le h _ _ _).bind fun r => Le.refl _
  | seq a b iha ihb =>
    intro e H
    refine (iha e H).bind fun r => ?_
    obtain ⟨x, e', H'⟩ := r
    cases x
    · exact ihb _ _
    · exact Le.refl _
    · exact Le.refl _
  | cond c a b iha ihb =>
    intro e H
    simp only [code]
    cases c.ev e with
    | bool t => cases t <;> simp only [Bool.false_eq_true, if_false, if_true] <;> first | exact ihb _ _ | exact iha _ _
    | _ => exact Le.refl _
  | block id b ih => intro e H; exact (ih e H).bind fun r => Le.refl _
  | loop b ih => intro e H; exact hL _ _ ih e H
  | _ => intro e H; exact Le.refl _

theorem rounds_body {b c : Env → Heap → Option (Ex × Env × Heap)} (h : ∀ e H, Le (b e H) (c e H)) : ∀ (n : Nat) (e : Env) (H : Heap), Le (rounds b n e H) (rounds c n e H)
  | 0, e, H => Le.refl _
  | n + 1, e, H => by
    refine (h e H).bind fun r => ?_
    obtain ⟨x, e', H'⟩ := r
    cases x
    · exact rounds_body h n _ _
    · exact Le.refl _
    · exact Le.refl _

theorem rounds_step (b : Env → Heap → Option (Ex × Env × Heap)) : ∀ (n : Nat) (e : Env) (H : Heap), Le (rounds b n e H) (rounds b (n + 1) e H)
  | 0, e, H => fun r h => by cases h
  | n + 1, e, H => by
    unfold rounds
    refine (Le.refl _).bind fun r => ?_
    obtain ⟨x, e', H'⟩ := r
    cases x
    · exact rounds_step b n _ _
    · exact Le.refl _
    · exact Le.refl _

theorem le_of_step {α : Type} {g : Nat → Option α} (h : ∀ k, Le (g k) (g (k + 1))) {i j : Nat} (hij : i ≤ j) : Le (g i) (g j) := by
  induction hij with
  | refl => exact Le.refl _
  | step _ ih => exact fun r hr => h _ r (ih r hr)

theorem rounds_le (b : Env → Heap → Option (Ex × Env × Heap)) {n m : Nat} (h : n ≤ m) (e : Env) (H : Heap) : Le (rounds b n e H) (rounds b m e H) :=
  le_of_step (g := fun n => rounds b n e H) (fun k => rounds_step b k e H) h

theorem rounds_lle {n m : Nat} (h : n ≤ m) : LLe (fun b => rounds b n) (fun b => rounds b m) :=
  fun b c hb e H r hr => rounds_body hb m e H r (rounds_le b h e H r hr)

theorem run_step (X : Prog) : ∀ k, OLe (run X k) (run X (k + 1))
  | 0 => fun f a H r h => by cases h
  | k + 1 => by
    intro f a H
    unfold run
    refine (Le.refl _).bind fun fn => ?_
    split
    · exact (code_le (run_step X k) (rounds_lle (Nat.le_succ k)) _ _ _).bind fun r => Le.refl _
    · exact Le.refl _

theorem run_le (X : Prog) {i j : Nat} (h : i ≤ j) : OLe (run X i) (run X j) := fun f a H => le_of_step (g := fun k => run X k f a H) (fun k => run_step X k f a H) h
end mono

open Classical in
noncomputable def lim {α : Type} (g : Nat → Option α) : Option α := if h : ∃ k r, g k = some r then g (Classical.choose h) else none

theorem lim_some {α : Type} {g : Nat → Option α} (hm : ∀ k, Le (g k) (g (k + 1))) {r : α} : lim g = some r ↔ ∃ k, g k = some r := by
  unfold lim
  constructor
  · intro h
    split at h
    · exact ⟨_, h⟩
    · cases h
  · rintro ⟨k, hk⟩
    have h : ∃ k r, g k = some r := ⟨k, r, hk⟩
    rw [dif_pos h]
    obtain ⟨s, hs⟩ := Classical.choose_spec h
    rcases Nat.le_total k (Classical.choose h) with hle | hle
    · exact le_of_step hm hle r hk
    · have := le_of_step hm hle s hs
      rw [hk] at this
      rw [hs, ← this]

theorem opt_ext {α : Type} {x y : Option α} (h : ∀ r, x = some r ↔ y = some r) : x = y := by
  cases x with
  | none => cases y with
    | none => rfl
    | some b => exact absurd ((h b).2 rfl) (by simp)
  | some a => exact ((h a).1 rfl).symm

noncomputable def Li : LoopOp := fun b e H => lim fun n => rounds b n e H

noncomputable def R (X : Prog) : Oracle := fun f args H => lim fun k => run X k f args H

theorem Li_some {b : Env → Heap → Option (Ex × Env × Heap)} {e : Env} {H : Heap} {r : Ex × Env × Heap} : Li b e H = some r ↔ ∃ n, rounds b n e H = some r := lim_some fun k => rounds_step b k e H
theorem R_some {X : Prog} {f : Nat} {args : List AV} {H : Heap} {r : AV × Heap} : R X f args H = some r ↔ ∃ k, run X k f args H = some r := lim_some fun k => run_step X k f args H

theorem run_R (X : Prog) (k : Nat) : OLe (run X k) (R X) := fun f a H r h => R_some.2 ⟨k, h⟩
theorem rounds_Li (k : Nat) : LLe (fun b => rounds b k) Li := fun b c hb e H r hr => Li_some.2 ⟨k, rounds_body hb k e H r hr⟩

theorem Li_eq (b : Env → Heap → Option (Ex × Env × Heap)) (e : Env) (H : Heap) : Li b e H = (b e H).bind fun r => match r.1 with | .normal => Li b r.2.1 r.2.2 | x => some (x, r.2) := by
  refine opt_ext fun r => ?_
  rw [Li_some, Option.bind_eq_some_iff]
  constructor
  · rintro ⟨n, hn⟩
    cases n with
    | zero => cases hn
    | succ n =>
      unfold rounds at hn
      rw [Option.bind_eq_some_iff] at hn
      obtain ⟨s, h1, h2⟩ := hn
      refine ⟨s, h1, ?_⟩
      obtain ⟨x, e', H'⟩ := s
      cases x
      · exact Li_some.2 ⟨n, h2⟩
      · exact h2
      · exact h2
  · rintro ⟨s, h1, h2⟩
    obtain ⟨x, e', H'⟩ := s
    cases x
    · obtain ⟨n, hn⟩ := Li_some.1 h2
      exact ⟨n + 1, by unfold rounds; rw [h1]; exact hn⟩
    · exact ⟨1, by unfold rounds; rw [h1]; exact h2⟩
    · exact ⟨1, by unfold rounds; rw [h1]; exact h2⟩

section adequate
variable {X : Prog}

theorem pureCall_ad {f : Nat} {args : List AV} {H : Heap} {r : AV} (h : pureCall X (R X) f args H = some r) : ∃ k, pureCall X (run X k) f args H = some r := by
  unfold pureCall at h
  rw [Option.bind_eq_some_iff] at h
  obtain ⟨as, h2, h3⟩ := h
  split at h3
  · rename_i v' hp
    exact ⟨0, by simp only [pureCall, h2, Option.bind_some, hp]; rw [h3]⟩
  · rename_i hp
    rw [Option.bind_eq_some_iff] at h3
    obtain ⟨s, h4, h5⟩ := h3
    obtain ⟨k, hk⟩ := R_some.1 h4
    exact ⟨k, by simp only [pureCall, h2, Option.bind_some, hp, hk]; rw [h5]⟩

theorem callAV_ad {fn : AV} {args : List AV} {H : Heap} {r : AV × Heap} (h : callAV X (R X) fn args H = some r) : ∃ k, callAV X (run X k) fn args H = some r := by
  unfold callAV at h ⊢
  split at h
  · split at h
    · rw [Option.map_eq_some_iff] at h
      obtain ⟨v, h1, rfl⟩ := h
      obtain ⟨k, hk⟩ := pureCall_ad h1
      exact ⟨k, by simp [hk]⟩
    · obtain ⟨k, hk⟩ := R_some.1 h
      exact ⟨k, hk⟩
    · unfold cutCall at h
      rw [Option.bind_eq_some_iff] at h
      obtain ⟨s, h4, h5⟩ := h
      obtain ⟨k, hk⟩ := R_some.1 h4
      exact ⟨k, by simp only [cutCall, hk, Option.bind_some]; exact h5⟩
    · unfold freshCall at h
      rw [Option.bind_eq_some_iff] at h
      obtain ⟨as, h2, h3⟩ := h
      rw [Option.bind_eq_some_iff] at h3
      obtain ⟨s, h4, h5⟩ := h3
      obtain ⟨k, hk⟩ := R_some.1 h4
      exact ⟨k, by simp only [freshCall, h2, hk, Option.bind_some]; exact h5⟩
  · cases h

theorem pcallAV_ad {fn : AV} {args : List AV} {H : Heap} {r : AV} (h : pcallAV X (R X) fn args H = some r) : ∃ k, pcallAV X (run X k) fn args H = some r := by
  unfold pcallAV at h ⊢
  split at h
  · split at h
    · obtain ⟨k, hk⟩ := pureCall_ad h
      exact ⟨k, by simp [hk]⟩
    · cases h
  · cases h

theorem xop_ad {op : XOp} {e : Env} {H : Heap} {r : AV × Heap} (h : xop X (R X) op e H = some r) : ∃ k, xop X (run X k) op e H = some r := by
  cases op with
  | call f args => exact callAV_ad h
  | pcall f args =>
    simp only [xop, Option.map_eq_some_iff] at h
    obtain ⟨v, h1, rfl⟩ := h
    obtain ⟨k, hk⟩ := pcallAV_ad h1
    exact ⟨k, by simp only [xop, hk]; rfl⟩
  | _ => exact ⟨0, h⟩

theorem opers_ad : ∀ {os : List XOper} {e : Env} {H : Heap} {r : Env × Heap}, opers X (R X) os e H = some r → ∃ k, opers X (run X k) os e H = some r
  | [], e, H, r, h => ⟨0, h⟩
  | o :: os, e, H, r, h => by
    unfold opers at h
    rw [Option.bind_eq_some_iff] at h
    obtain ⟨s, h1, h2⟩ := h
    obtain ⟨k2, h2⟩ := opers_ad h2
    unfold oper at h1
    rw [Option.bind_eq_some_iff] at h1
    obtain ⟨w, hw, h1⟩ := h1
    cases w with
    | false =>
      simp only [Bool.false_eq_true, if_false, Option.some.injEq] at h1
      exact ⟨k2, by unfold opers oper; rw [hw]; simp only [Option.bind_some, Bool.false_eq_true, if_false]; subst h1; exact h2⟩
    | true =>
      simp only [if_true, Option.map_eq_some_iff] at h1
      obtain ⟨t, h3, rfl⟩ := h1
      obtain ⟨k1, h3⟩ := xop_ad h3
      refine ⟨max k1 k2, ?_⟩
      unfold opers oper
      rw [hw]
      simp only [Option.bind_some, if_true]
      rw [xop_le (run_le X (Nat.le_max_left k1 k2)) _ _ _ _ h3]
      exact opers_le (run_le X (Nat.le_max_right k1 k2)) _ _ _ _ h2

theorem code_ad : ∀ {c : XCode} {e : Env} {H : Heap} {r : Ex × Env × Heap}, code X (R X) Li c e H = some r → ∃ k, code X (run X k) (fun b => rounds b k) c e H = some r := by
  intro c
  induction c with
  | region ops chk =>
    intro e H r h
    simp only [code, Option.bind_eq_some_iff] at h
    obtain ⟨s, h1, h2⟩ := h
    obtain ⟨k, hk⟩ := opers_ad h1
    exact ⟨k, by simp only [code, hk, Option.bind_some]; exact h2⟩
  | seq a b iha ihb =>
    intro e H r h
    simp only [code, Option.bind_eq_some_iff] at h
    obtain ⟨s, h1, h2⟩ := h
    obtain ⟨k1, h1⟩ := iha h1
    obtain ⟨x, e', H'⟩ := s
    cases x with
    | normal =>
      obtain ⟨k2, h2⟩ := ihb h2
      refine ⟨max k1 k2, ?_⟩
      simp only [code]
      rw [code_le (run_le X (Nat.le_max_left k1 k2)) (rounds_lle (Nat.le_max_left k1 k2)) _ _ _ _ h1]
      exact code_le (run_le X (Nat.le_max_right k1 k2)) (rounds_lle (Nat.le_max_right k1 k2)) _ _ _ _ h2
    | exit i => exact ⟨k1, by simp only [code]; rw [h1]; exact h2⟩
    | ret => exact ⟨k1, by simp only [code]; rw [h1]; exact h2⟩
  | cond c a b iha ihb =>
    intro e H r h
    simp only [code] at h ⊢
    cases hc : c.ev e with
    | bool t =>
      rw [hc] at h
      cases t
      · simp only [Bool.false_eq_true, if_false] at h ⊢; exact ihb h
      · simp only [if_true] at h ⊢; exact iha h
    | _ => rw [hc] at h; cases h
  | block id b ih =>
    intro e H r h
    simp only [code, Option.bind_eq_some_iff] at h
    obtain ⟨s, h1, h2⟩ := h
    obtain ⟨k, hk⟩ := ih h1
    exact ⟨k, by simp only [code, hk, Option.bind_some]; exact h2⟩
  | loop b ih =>
    intro e H r h
    obtain ⟨n, hn⟩ := Li_some.1 h
    have key : ∀ n e H r, rounds (code X (R X) Li b) n e H = some r → ∃ k, rounds (code X (run X k) (fun b => rounds b k) b) n e H = some r := by
      intro n
      induction n with
      | zero => intro e H r h; cases h
      | succ n ihn =>
        intro e H r h
        unfold rounds at h
        rw [Option.bind_eq_some_iff] at h
        obtain ⟨s, h1, h2⟩ := h
        obtain ⟨k1, h1⟩ := ih h1
        obtain ⟨x, e', H'⟩ := s
        cases x with
        | normal =>
          obtain ⟨k2, h2⟩ := ihn _ _ _ h2
          refine ⟨max k1 k2, ?_⟩
          unfold rounds
          rw [code_le (run_le X (Nat.le_max_left k1 k2)) (rounds_lle (Nat.le_max_left k1 k2)) _ _ _ _ h1]
          exact rounds_body (fun e H => code_le (run_le X (Nat.le_max_right k1 k2)) (rounds_lle (Nat.le_max_right k1 k2)) _ e H) n _ _ _ h2
        | exit i => exact ⟨k1, by unfold rounds; rw [h1]; exact h2⟩
        | ret => exact ⟨k1, by unfold rounds; rw [h1]; exact h2⟩
    obtain ⟨k, hk⟩ := key n e H r hn
    refine ⟨max k n, ?_⟩
    simp only [code]
    exact rounds_lle (Nat.le_max_right k n) _ _ (fun e H => code_le (run_le X (Nat.le_max_left k n)) (rounds_lle (Nat.le_max_left k n)) _ e H) e H r hk
  | _ => intro e H r h; exact ⟨0, h⟩

theorem R_eq (f : Nat) (args : List AV) (H : Heap) : R X f args H = (X.fn f).bind fun fn => if args.length = fn.nparams then (code X (R X) Li fn.code (env0 args) H).bind (finish fn) else none := by
  refine opt_ext fun r => ?_
  rw [R_some]
  constructor
  · rintro ⟨k, hk⟩
    cases k with
    | zero => cases hk
    | succ k =>
      unfold run at hk
      rw [Option.bind_eq_some_iff] at hk ⊢
      obtain ⟨fn, h1, h2⟩ := hk
      refine ⟨fn, h1, ?_⟩
      split at h2
      · rename_i hl
        rw [if_pos hl]
        rw [Option.bind_eq_some_iff] at h2 ⊢
        obtain ⟨s, h3, h4⟩ := h2
        exact ⟨s, code_le (run_R X k) (rounds_Li k) _ _ _ _ h3, h4⟩
      · cases h2
  · intro h
    rw [Option.bind_eq_some_iff] at h
    obtain ⟨fn, h1, h2⟩ := h
    split at h2
    · rename_i hl
      rw [Option.bind_eq_some_iff] at h2
      obtain ⟨s, h3, h4⟩ := h2
      obtain ⟨k, hk⟩ := code_ad h3
      exact ⟨k + 1, by unfold run; rw [h1]; simp only [Option.bind_some, hl, if_true, hk]; exact h4⟩
    · cases h2
end adequate
end X
end Go.Proofs.YtplginnkececaaaGreatDoor

set_option linter.unusedSimpArgs false
set_option linter.unusedVariables false
namespace Go.Proofs.YtplginnkececaaaGreatDoor
open Go
namespace X


def boxAV (sz : Nat) (v : AV) (H : Heap) : Option (AV × Heap) := if v.cells.length = sz ∧ v.cells.all AV.storable then some (.ptr H.length 0 0, H ++ [.arr sz [v]]) else none
def buildAV (zero : List AV) (parts : List (Nat × Nat × AV)) : Option AV := (fillAV zero parts).map .agg
def litAV (sz : Nat) (zero : List AV) (parts : List (Nat × AV)) (own : Bool) (H : Heap) : Option (AV × Heap) :=
  (fillLit sz zero parts).bind fun es =>
    if own then some (.slice H.length 0 es.length, H ++ [.arr sz es])
    else if es.all (noRef deep) then some (.vslice es, H) else none
def nilCheckAV (v : AV) : Option AV :=
  match v with
  | .ptr b i o => some (.ptr b i o)
  | .vptr cs => some (.vptr cs)
  | .func (.func f) cap => some (.func (.func f) cap)
  | _ => none
def convAV (k : IntKind) (v : AV) : Option AV := v.asInt.map fun n => .int k (k.wrap n)
def mkSliceAV (sz bytes : Nat) (zero l c : AV) (H : Heap) : Option (AV × Heap) :=
  l.asNat.bind fun l => c.asNat.bind fun c =>
    if l ≤ c ∧ c * bytes ≤ 140737488355328 ∧ c ≤ 140737488355328 then some (.slice H.length 0 l, H ++ [.arr sz (List.replicate c zero)]) else none
def optV (a : Option AV) : Option (Option Nat) :=
  match a with
  | none => some none
  | some a => a.asNat.map some
def sliceStrAV (x : AV) (lo hi : Option AV) : Option AV :=
  (optV lo).bind fun lo => (optV hi).bind fun hi =>
    match x with
    | .str s =>
      let h := hi.getD s.length
      let l := lo.getD 0
      if l ≤ h ∧ h ≤ s.length then some (.str ((s.take h).drop l)) else none
    | _ => none
def sliceSlAV (H : Heap) (sz : Nat) (x : AV) (lo hi : Option AV) : Option AV := (optV lo).bind fun lo => (optV hi).bind fun hi => sliceAV H sz x lo hi
def fieldAddrAV (off : Nat) (x : AV) : Option AV :=
  match x with
  | .ptr b i o => some (.ptr b i (o + off))
  | .vptr cs => if off ≤ cs.length then some (.vptr (cs.drop off)) else none
  | _ => none
def fieldAV (off : Nat) (n : Option Nat) (x : AV) : Option AV :=
  match x with
  | .agg cs => pickAV n cs off
  | _ => none
def indexV (H : Heap) (sz : Nat) (x i : AV) : Option AV := i.asInt.bind fun n => indexAddrAV H sz x n
def indexStrAV (x i : AV) : Option AV :=
  match x with
  | .str s => i.asInt.bind fun n => (idx n s.length).bind fun j => (s[j]?).map fun c => .int .u8 c.toNat
  | _ => none
def mapUpdateAV (H : Heap) (ek : EK) (m k x : AV) : Option Heap :=
  match m with
  | .map b =>
    match H[b]? with
    | some (.map ks vs) => if keyOk ek k then (setKey ek k x ks vs).map fun r => H.set b (.map r.1 r.2) else none
    | _ => none
  | _ => none
def appendX (H : Heap) (sz bytes : Nat) (x y : AV) : Option (AV × Heap) := (elems H y).bind fun ys => appendAV H sz bytes x ys
def copyX (H : Heap) (sz : Nat) (x y : AV) : Option (AV × Heap) := (elems H y).bind fun ys => copyAV H sz x ys
def extractAV (x : AV) (i : Nat) : Option AV :=
  match x with
  | .tuple vs => vs[i]?
  | _ => none
def newMapAV (H : Heap) : Option (AV × Heap) := some (.map H.length, H ++ [.map [] []])
def lenX (H : Heap) (ek : EK) (x : AV) : Option AV := (lenAV H ek x).map fun n => .int .i64 n
def pickX (c a b : AV) : Option AV :=
  match c with
  | .bool t => some (if t then a else b)
  | _ => none

section
variable (X : Prog) (C : Oracle) {α : Type}

noncomputable def callK (fn : AV) (args : List AV) (H : Heap) (K : AV → Heap → Option α) : Option α :=
  match fn with
  | .func (.func f) cap =>
    match X.mode f with
    | .pure => (pureCall X C f (args ++ cap) H).bind fun v => K v H
    | .shared => (C f (args ++ cap) H).bind fun r => K r.1 r.2
    | .cut => (cutCall C f (args ++ cap) H).bind fun r => K r.1 r.2
    | .fresh => (freshCall C f (args ++ cap) H).bind fun r => K r.1 r.2
  | _ => none

noncomputable def xopK (op : XOp) (e : Env) (H : Heap) (K : AV → Heap → Option α) : Option α :=
  match op with
  | .mov x | .same x => K (x.ev e) H
  | .pick c a b => (pickX (c.ev e) (a.ev e) (b.ev e)).bind fun v => K v H
  | .box sz x => (boxAV sz (x.ev e) H).bind fun r => K r.1 r.2
  | .build zero parts => (buildAV zero (parts.map fun p => (p.1, p.2.1, p.2.2.ev e))).bind fun v => K v H
  | .lit sz zero parts own => (litAV sz zero (parts.map fun p => (p.1, p.2.ev e)) own H).bind fun r => K r.1 r.2
  | .load n a => (loadAV H n (a.ev e)).bind fun v => K v H
  | .store n a x => (storeAV H n (a.ev e) (x.ev e)).bind fun H => K (.tuple []) H
  | .nilCheck x => (nilCheckAV (x.ev e)).bind fun v => K v H
  | .bin op ek x y => (binAV H op ek (x.ev e) (y.ev e)).bind fun v => K v H
  | .un op x => (unAV op (x.ev e)).bind fun v => K v H
  | .convInt k x => (convAV k (x.ev e)).bind fun v => K v H
  | .mkIface t x => K (.iface t (x.ev e)) H
  | .mkFunc fn cap => K (.func fn (cap.map (Arg.ev e))) H
  | .mkMap => (newMapAV H).bind fun r => K r.1 r.2
  | .mkSlice sz bytes zero len cap => (mkSliceAV sz bytes zero (len.ev e) (cap.ev e) H).bind fun r => K r.1 r.2
  | .sliceStr x lo hi => (sliceStrAV (x.ev e) (lo.map (Arg.ev e)) (hi.map (Arg.ev e))).bind fun v => K v H
  | .sliceSl sz x lo hi => (sliceSlAV H sz (x.ev e) (lo.map (Arg.ev e)) (hi.map (Arg.ev e))).bind fun v => K v H
  | .fieldAddr off x => (fieldAddrAV off (x.ev e)).bind fun v => K v H
  | .field off n x => (fieldAV off n (x.ev e)).bind fun v => K v H
  | .indexAddr sz x i => (indexV H sz (x.ev e) (i.ev e)).bind fun v => K v H
  | .indexStr x i => (indexStrAV (x.ev e) (i.ev e)).bind fun v => K v H
  | .lookup ek zero ok m k => (lookupAV H ek zero ok (m.ev e) (k.ev e)).bind fun v => K v H
  | .mapUpdate ek m k x => (mapUpdateAV H ek (m.ev e) (k.ev e) (x.ev e)).bind fun H => K (.tuple []) H
  | .len ek x => (lenX H ek (x.ev e)).bind fun v => K v H
  | .append sz bytes x y => (appendX H sz bytes (x.ev e) (y.ev e)).bind fun r => K r.1 r.2
  | .copy sz x y => (copyX H sz (x.ev e) (y.ev e)).bind fun r => K r.1 r.2
  | .clear sz zero x => (clearAV H sz zero (x.ev e)).bind fun H => K (.tuple []) H
  | .mm mx xs => (mmAV mx (xs.map (Arg.ev e))).bind fun v => K v H
  | .extract x i => (extractAV (x.ev e) i).bind fun v => K v H
  | .call f args => callK X C (f.ev e) (args.map (Arg.ev e)) H K
  | .pcall f args => (pcallAV X C (f.ev e) (args.map (Arg.ev e)) H).bind fun v => K v H
  | .fail => none

theorem callK_eq (fn : AV) (args : List AV) (H : Heap) (K : AV → Heap → Option α) : (callAV X C fn args H).bind (fun r => K r.1 r.2) = callK X C fn args H K := by
  unfold callAV callK
  cases fn with
  | func fn cap =>
    cases fn with
    | func f => simp only; cases X.mode f <;> simp [Option.map_eq_bind, Option.bind_assoc]
    | _ => rfl
  | _ => rfl

theorem optArg_eq (e : Env) (a : Option Arg) : optArg e a = optV (a.map (Arg.ev e)) := by cases a <;> rfl

theorem xopK_eq (op : XOp) (e : Env) (H : Heap) (K : AV → Heap → Option α) : (xop X C op e H).bind (fun r => K r.1 r.2) = xopK X C op e H K := by
  cases op with
  | mov x => rfl
  | same x => rfl
  | pick c a b => simp only [xop, xopK, pickX]; cases c.ev e <;> rfl
  | box sz x => rfl
  | build z ps => simp [xop, xopK, buildAV, Option.map_eq_bind, Option.bind_assoc]
  | lit sz z ps own => rfl
  | load n a => simp [xop, xopK, Option.map_eq_bind, Option.bind_assoc]
  | store n a x => simp [xop, xopK, Option.map_eq_bind, Option.bind_assoc]
  | nilCheck x => 
    simp only [xop, xopK, nilCheckAV]
    cases x.ev e with
    | func fn cap => cases fn <;> rfl
    | _ => rfl
  | bin op ek x y => simp [xop, xopK, Option.map_eq_bind, Option.bind_assoc]
  | un op x => simp [xop, xopK, Option.map_eq_bind, Option.bind_assoc]
  | convInt k x => simp [xop, xopK, convAV, Option.map_eq_bind, Option.bind_assoc]
  | mkIface t x => rfl
  | mkFunc fn cap => rfl
  | mkMap => rfl
  | mkSlice sz b z l c => rfl
  | sliceStr x lo hi =>
    simp only [xop, xopK, sliceStrAV, optArg_eq, Option.bind_assoc]
    congr 1; funext lo; congr 1; funext hi
    cases x.ev e <;> try rfl
    simp only
    split <;> rfl
  | sliceSl sz x lo hi => simp [xop, xopK, sliceSlAV, optArg_eq, Option.map_eq_bind, Option.bind_assoc]
  | fieldAddr off x =>
    simp only [xop, xopK, fieldAddrAV]
    cases x.ev e <;> try rfl
    simp only
    split <;> rfl
  | field off n x =>
    simp only [xop, xopK, fieldAV]
    cases x.ev e <;> try rfl
    simp [Option.map_eq_bind, Option.bind_assoc]
  | indexAddr sz x i => simp [xop, xopK, indexV, Option.map_eq_bind, Option.bind_assoc]
  | indexStr x i =>
    simp only [xop, xopK, indexStrAV]
    cases x.ev e <;> try rfl
    simp [Option.map_eq_bind, Option.bind_assoc]
  | lookup ek z ok m k => simp [xop, xopK, Option.map_eq_bind, Option.bind_assoc]
  | mapUpdate ek m k x =>
    simp only [xop, xopK, mapUpdateAV]
    cases m.ev e <;> try rfl
    rename_i b
    simp only
    cases H[b]? with
    | none => rfl
    | some k =>
      cases k with
      | map ks vs => simp only; split <;> simp [Option.map_eq_bind, Option.bind_assoc]
      | _ => rfl
  | len ek x => simp [xop, xopK, lenX, Option.map_eq_bind, Option.bind_assoc]
  | append sz b x y => rfl
  | copy sz x y => rfl
  | clear sz z x => simp [xop, xopK, Option.map_eq_bind, Option.bind_assoc]
  | mm mx xs => simp [xop, xopK, Option.map_eq_bind, Option.bind_assoc]
  | extract x i =>
    simp only [xop, xopK, extractAV]
    cases x.ev e <;> try rfl
    simp [Option.map_eq_bind, Option.bind_assoc]
  | call f args => exact callK_eq X C _ _ _ K
  | pcall f args => simp [xop, xopK, Option.map_eq_bind, Option.bind_assoc]
  | fail => rfl

def gK (v : AV) (A B S : Option α) : Option α :=
  match v with
  | .bool true => A
  | .bool false => B
  | .tuple [] => S
  | _ => none

noncomputable def opersK : List XOper → Env → Heap → (Env → Heap → Option α) → Option α
  | [], e, H, K => K e H
  | o :: os, e, H, K =>
    match o.guard with
    | none => xopK X C o.op e H fun v H => opersK os (putDst e o.dst v) H K
    | some (t, w) => gK (e t)
      (if w then xopK X C o.op (e.set t (.bool true)) H fun v H => opersK os (putDst (e.set t (.bool true)) o.dst v) H K else opersK os (putDst (e.set t (.bool true)) o.dst (.tuple [])) H K)
      (if w then opersK os (putDst (e.set t (.bool false)) o.dst (.tuple [])) H K else xopK X C o.op (e.set t (.bool false)) H fun v H => opersK os (putDst (e.set t (.bool false)) o.dst v) H K)
      (opersK os (putDst e o.dst (.tuple [])) H K)

theorem set_self {e : Env} {t : Nat} {v : AV} (h : e t = v) : e.set t v = e := by
  funext x
  unfold Env.set
  cases hx : Nat.beq x t with
  | false => rfl
  | true => rw [Nat.eq_of_beq_eq_true hx, h]; rfl

theorem opersK_eq : ∀ (ops : List XOper) (e : Env) (H : Heap) (K : Env → Heap → Option α), (opers X C ops e H).bind (fun r => K r.1 r.2) = opersK X C ops e H K
  | [], e, H, K => rfl
  | o :: os, e, H, K => by
    have run : ((xop X C o.op e H).map fun r => (putDst e o.dst r.1, r.2)).bind (fun r => (opers X C os r.1 r.2).bind fun r => K r.1 r.2) = xopK X C o.op e H fun v H => opersK X C os (putDst e o.dst v) H K := by
      rw [← xopK_eq, Option.map_eq_bind, Option.bind_assoc]
      congr 1
      funext r
      exact opersK_eq os _ _ K
    simp only [opers, opersK, oper, Option.bind_assoc]
    cases hg : o.guard with
    | none =>
      simp only [wanted, Option.bind_some, if_true]
      exact run
    | some g =>
      obtain ⟨t, w⟩ := g
      simp only [wanted]
      cases ht : e t with
      | bool b =>
        cases b <;> cases w <;> simp only [gK, set_self ht, Option.bind_some, beq_self_eq_true, if_true, if_false, Bool.false_eq_true, Bool.true_beq, Bool.false_beq, Bool.not_true, Bool.not_false] <;> first | exact run | exact opersK_eq os _ _ K
      | tuple vs =>
        cases vs with
        | nil => simp only [gK, Option.bind_some, Bool.false_eq_true, if_false]; exact opersK_eq os _ _ K
        | cons => rfl
      | _ => rfl

def exitsOf : XCode → List Nat
  | .seq a b => exitsOf a ++ exitsOf b
  | .cond _ a b => exitsOf a ++ exitsOf b
  | .block id b => (exitsOf b).filter fun i => !Nat.beq i id
  | .loop b => exitsOf b
  | .exit i => [i]
  | _ => []

def envOf : List Nat → Env → Env
  | [], _ => fun _ => .undef
  | s :: l, e => fun t => bif Nat.beq t s then e s else envOf l e t

theorem envOf_eq (l : List Nat) (e : Env) : envOf l e = keepEnv l e := by
  funext t
  unfold keepEnv
  induction l with
  | nil => rfl
  | cons s l ih =>
    simp only [envOf, List.any_cons, Bool.or_eq_true]
    cases h : Nat.beq t s with
    | true => simp [Nat.eq_of_beq_eq_true h]
    | false => simp only [cond_false, Bool.false_eq_true, false_or]; rw [ih]

def onlyK : List Nat → (Nat → Env → Heap → Option α) → Nat → Env → Heap → Option α
  | [], _, _, _, _ => none
  | i :: l, K, j, e, H => bif Nat.beq j i then K i e H else onlyK l K j e H

def chkK (l : List (AV × AV)) (K : Option α) : Option α := if l.all (fun c => differ c.1 c.2) then K else none
def condK (v : AV) (A B : Option α) : Option α :=
  match v with
  | .bool t => if t then A else B
  | _ => none

def distinctIds : List Nat → List Nat
  | [] => []
  | i :: l => i :: (distinctIds l).filter fun j => !Nat.beq j i

noncomputable def loopK (b : XCode) (e : Env) (H : Heap) (kx : Nat → Env → Heap → Option α) (kr : Env → Heap → Option α) : Option α :=
  (Li (code X C Li b) e H).bind fun r => match r.1 with | .normal => none | .exit i => kx i r.2.1 r.2.2 | .ret => kr r.2.1 r.2.2

noncomputable def evK : XCode → Env → Heap → (Env → Heap → Option α) → (Nat → Env → Heap → Option α) → (Env → Heap → Option α) → Option α
  | .skip, e, H, kn, _, _ => kn e H
  | .region ops chk, e, H, kn, _, _ => opersK X C ops e H fun e H => match chk with | [] => kn e H | chk => chkK (chk.map fun c => (c.1.ev e, c.2.ev e)) (kn e H)
  | .seq a b, e, H, kn, kx, kr => evK a e H (fun e H => evK b e H kn kx kr) kx kr
  | .cond c a b, e, H, kn, kx, kr => condK (c.ev e) (evK a e H kn kx kr) (evK b e H kn kx kr)
  | .block id b, e, H, kn, kx, kr => evK b e H kn (fun i e H => bif Nat.beq i id then kn e H else kx i e H) kr
  | .loop b, e, H, _, kx, kr => loopK X C b e H (onlyK (distinctIds (exitsOf b)) kx) kr
  | .keep l, e, H, kn, _, _ => kn (envOf l e) H
  | .exit id, e, H, _, kx, _ => kx id e H
  | .ret, e, H, _, _, kr => kr e H
  | .fail, _, _, _, _, _ => none

theorem distinctIds_mem (l : List Nat) {i : Nat} (h : i ∈ l) : i ∈ distinctIds l := by
  induction l with
  | nil => cases h
  | cons j l ih =>
    simp only [distinctIds, List.mem_cons, List.mem_filter]
    rcases List.mem_cons.1 h with rfl | h
    · exact .inl rfl
    · cases hb : Nat.beq i j with
      | true => exact .inl (Nat.eq_of_beq_eq_true hb)
      | false => exact .inr ⟨ih h, by simp [hb]⟩

theorem onlyK_mem (l : List Nat) (K : Nat → Env → Heap → Option α) {i : Nat} (h : i ∈ l) (e : Env) (H : Heap) : onlyK l K i e H = K i e H := by
  induction l with
  | nil => cases h
  | cons j l ih =>
    simp only [onlyK]
    cases hb : Nat.beq i j with
    | true => rw [Nat.eq_of_beq_eq_true hb]; rfl
    | false =>
      simp only [cond_false]
      refine ih ?_
      rcases List.mem_cons.1 h with rfl | h
      · simp at hb
      · exact h

variable {X C}
theorem exits_of : ∀ {c : XCode} {e : Env} {H : Heap} {i : Nat} {r : Env × Heap}, code X C Li c e H = some (.exit i, r) → i ∈ exitsOf c := by
  intro c
  induction c with
  | skip => intro e H i r h; simp [code] at h
  | region ops chk =>
    intro e H i r h
    simp only [code, Option.bind_eq_some_iff] at h
    obtain ⟨s, _, h⟩ := h
    split at h <;> cases h
  | seq a b iha ihb =>
    intro e H i r h
    simp only [code, Option.bind_eq_some_iff] at h
    obtain ⟨s, h1, h2⟩ := h
    obtain ⟨x, e', H'⟩ := s
    simp only [exitsOf, List.mem_append]
    cases x with
    | normal => exact .inr (ihb h2)
    | exit j => cases h2; exact .inl (iha h1)
    | ret => cases h2
  | cond c a b iha ihb =>
    intro e H i r h
    simp only [code] at h
    simp only [exitsOf, List.mem_append]
    split at h
    · split at h
      · exact .inl (iha h)
      · exact .inr (ihb h)
    · cases h
  | block id b ih =>
    intro e H i r h
    simp only [code, Option.bind_eq_some_iff] at h
    obtain ⟨s, h1, h2⟩ := h
    obtain ⟨x, e', H'⟩ := s
    cases x with
    | normal => cases h2
    | exit j =>
      simp only at h2
      split at h2
      · cases h2
      · rename_i hj
        cases h2
        simp only [exitsOf, List.mem_filter]
        exact ⟨ih h1, by cases hb : Nat.beq _ id <;> simp_all⟩
    | ret => cases h2
  | loop b ih =>
    intro e H i r h
    obtain ⟨n, hn⟩ := Li_some.1 h
    clear h
    induction n generalizing e H with
    | zero => cases hn
    | succ n ihn =>
      unfold rounds at hn
      rw [Option.bind_eq_some_iff] at hn
      obtain ⟨s, h1, h2⟩ := hn
      obtain ⟨x, e', H'⟩ := s
      cases x with
      | normal => exact ihn h2
      | exit j => cases h2; exact ih h1
      | ret => cases h2
  | keep l => intro e H i r h; simp [code] at h
  | exit id => intro e H i r h; simp [code] at h; simp [exitsOf, h.1]
  | ret => intro e H i r h; simp [code] at h
  | fail => intro e H i r h; simp [code] at h

def disp (kn : Env → Heap → Option α) (kx : Nat → Env → Heap → Option α) (kr : Env → Heap → Option α) (r : Ex × Env × Heap) : Option α :=
  match r.1 with
  | .normal => kn r.2.1 r.2.2
  | .exit i => kx i r.2.1 r.2.2
  | .ret => kr r.2.1 r.2.2

variable (X C)
theorem evK_eq : ∀ (c : XCode) (e : Env) (H : Heap) (kn : Env → Heap → Option α) (kx : Nat → Env → Heap → Option α) (kr : Env → Heap → Option α), (code X C Li c e H).bind (disp kn kx kr) = evK X C c e H kn kx kr := by
  intro c
  induction c with
  | skip => intro e H kn kx kr; rfl
  | region ops chk =>
    intro e H kn kx kr
    simp only [code, evK, Option.bind_assoc]
    rw [← opersK_eq]
    congr 1
    funext r
    cases chk with
    | nil => simp [disp]
    | cons c l =>
      have : (List.map (fun c => (c.1.ev r.1, c.2.ev r.1)) (c :: l)).all (fun c => differ c.1 c.2) = (c :: l).all (fun c => differ (c.1.ev r.1) (c.2.ev r.1)) := by rw [List.all_map]; rfl
      simp only [chkK, this]
      split <;> rfl
  | seq a b iha ihb =>
    intro e H kn kx kr
    simp only [code, evK, Option.bind_assoc]
    rw [← iha]
    congr 1
    funext r
    obtain ⟨x, e', H'⟩ := r
    cases x
    · exact ihb _ _ _ _ _
    · rfl
    · rfl
  | cond c a b iha ihb =>
    intro e H kn kx kr
    simp only [code, evK]
    cases c.ev e with
    | bool t =>
      cases t
      · exact ihb _ _ _ _ _
      · exact iha _ _ _ _ _
    | _ => rfl
  | block id b ih =>
    intro e H kn kx kr
    simp only [code, evK, Option.bind_assoc]
    rw [← ih]
    congr 1
    funext r
    obtain ⟨x, e', H'⟩ := r
    cases x with
    | normal => rfl
    | exit i =>
      simp only [disp]
      cases Nat.beq i id <;> rfl
    | ret => rfl
  | loop b ih =>
    intro e H kn kx kr
    simp only [code, evK, loopK]
    cases hr : Li (code X C Li b) e H with
    | none => rfl
    | some r =>
      obtain ⟨x, e', H'⟩ := r
      simp only [Option.bind_some]
      cases x with
      | normal =>
        exfalso
        obtain ⟨n, hn⟩ := Li_some.1 hr
        clear hr
        induction n generalizing e H with
        | zero => cases hn
        | succ n ihn =>
          unfold rounds at hn
          rw [Option.bind_eq_some_iff] at hn
          obtain ⟨s, h1, h2⟩ := hn
          obtain ⟨y, e2, H2⟩ := s
          cases y with
          | normal => exact ihn _ _ h2
          | exit j => cases h2
          | ret => cases h2
      | exit i =>
        have : i ∈ exitsOf b := exits_of (c := .loop b) hr
        simp only [disp]
        rw [onlyK_mem _ _ (distinctIds_mem _ this)]
      | ret => rfl
  | keep l => intro e H kn kx kr; simp only [code, evK, envOf_eq]; rfl
  | exit id => intro e H kn kx kr; rfl
  | ret => intro e H kn kx kr; rfl
  | fail => intro e H kn kx kr; rfl

theorem loopK_eq (b : XCode) (e : Env) (H : Heap) (kx : Nat → Env → Heap → Option α) (kr : Env → Heap → Option α) :
    loopK X C b e H kx kr = evK X C b e H (fun e H => loopK X C b e H kx kr) kx kr := by
  rw [← evK_eq]
  unfold loopK
  rw [Li_eq, Option.bind_assoc]
  congr 1
  funext r
  obtain ⟨x, e', H'⟩ := r
  cases x <;> rfl

def resK : List XRes → Env → Heap → (List AV → Option α) → Option α
  | [], _, _, K => K []
  | .tmp t :: l, e, H, K => resK l e H fun vs => K (e t :: vs)
  | .cell t n :: l, e, H, K => (loadAV H n (e t)).bind fun v => resK l e H fun vs => K (v :: vs)

theorem resK_eq (l : List XRes) (e : Env) (H : Heap) (K : List AV → Option α) : (l.mapM (XRes.get e H)).bind K = resK l e H K := by
  induction l generalizing K with
  | nil => rfl
  | cons r l ih =>
    rw [List.mapM_cons]
    cases r with
    | tmp t =>
      simp only [XRes.get, resK, Option.bind_eq_bind, Option.bind_some, Option.pure_def, Option.bind_assoc]
      exact ih _
    | cell t n =>
      simp only [XRes.get, resK, Option.bind_eq_bind, Option.pure_def, Option.bind_assoc]
      congr 1; funext v
      exact ih _

def finK (l : List XRes) (e : Env) (H : Heap) : Option (AV × Heap) := resK l e H fun vs => some (match vs with | [v] => v | vs => .tuple vs, H)

theorem R_fn {X : Prog} {f : Nat} {fn : XFunc} {args : List AV} {H : Heap} (hf : X.fn f = some fn) (hl : args.length = fn.nparams) :
    R X f args H = evK X (R X) fn.code (env0 args) H (finK fn.results) (fun _ _ _ => none) (finK fn.results) := by
  rw [← evK_eq, R_eq, hf]
  simp only [Option.bind_some, hl, if_true]
  congr 1
  funext r
  have key : ∀ e H, (resultsOf fn.results e H).map (fun v => (v, H)) = finK fn.results e H := by
    intro e H
    unfold finK resultsOf
    rw [← resK_eq, Option.map_map, Option.map_eq_bind]
    rfl
  obtain ⟨x, e', H'⟩ := r
  cases x
  · exact key _ _
  · rfl
  · exact key _ _
end
end X
end Go.Proofs.YtplginnkececaaaGreatDoor

set_option linter.unusedSimpArgs false
set_option linter.unusedVariables false
namespace Go.Proofs.YtplginnkececaaaGreatDoor
open Go
namespace X

theorem Le.trans {α : Type} {x y z : Option α} (h : Le x y) (h' : Le y z) : Le x z := fun r hr => h' r (h r hr)
theorem Le.of_eq {α : Type} {x y : Option α} (h : x = y) : Le x y := h ▸ Le.refl _
theorem Le.none {α : Type} (x : Option α) : Le .none x := fun _ h => by cases h

def gB {α : Type} (v : AV) (A B : Option α) : Option α :=
  match v with
  | .bool b => bif b then A else B
  | _ => none

def memN : List Nat → Nat → Bool
  | [], _ => false
  | s :: l, t => bif Nat.beq t s then true else memN l t

def skDel (sk : List Nat) (d : Option Nat) : List Nat :=
  match d with
  | none => sk
  | some d => sk.filter fun s => !Nat.beq s d
def skAdd (sk : List Nat) (d : Option Nat) : List Nat :=
  match d with
  | none => sk
  | some d => d :: sk

section
variable (X : Prog) (C : Oracle) {α : Type}

noncomputable def opersS : List XOper → List Nat → Env → Heap → (Env → Heap → Option α) → Option α
  | [], _, e, H, K => K e H
  | o :: os, sk, e, H, K =>
    match o.guard with
    | none => xopK X C o.op e H fun v H => opersS os (skDel sk o.dst) (putDst e o.dst v) H K
    | some (t, w) => bif memN sk t then opersS os (skAdd sk o.dst) (putDst e o.dst (.tuple [])) H K else gB (e t)
      (bif w then xopK X C o.op (e.set t (.bool true)) H fun v H => opersS os (skDel sk o.dst) (putDst (e.set t (.bool true)) o.dst v) H K else opersS os (skAdd sk o.dst) (putDst (e.set t (.bool true)) o.dst (.tuple [])) H K)
      (bif w then opersS os (skAdd sk o.dst) (putDst (e.set t (.bool false)) o.dst (.tuple [])) H K else xopK X C o.op (e.set t (.bool false)) H fun v H => opersS os (skDel sk o.dst) (putDst (e.set t (.bool false)) o.dst v) H K)

noncomputable def evS : XCode → Env → Heap → (Env → Heap → Option α) → (Nat → Env → Heap → Option α) → (Env → Heap → Option α) → Option α
  | .skip, e, H, kn, _, _ => kn e H
  | .region ops chk, e, H, kn, _, _ => opersS X C ops [] e H fun e H => match chk with | [] => kn e H | chk => chkK (chk.map fun c => (c.1.ev e, c.2.ev e)) (kn e H)
  | .seq a b, e, H, kn, kx, kr => evS a e H (fun e H => evS b e H kn kx kr) kx kr
  | .cond c a b, e, H, kn, kx, kr => condK (c.ev e) (evS a e H kn kx kr) (evS b e H kn kx kr)
  | .block id b, e, H, kn, kx, kr => evS b e H kn (fun i e H => bif Nat.beq i id then kn e H else kx i e H) kr
  | .loop b, e, H, _, kx, kr => loopK X C b e H (onlyK (distinctIds (exitsOf b)) kx) kr
  | .keep l, e, H, kn, _, _ => kn (envOf l e) H
  | .exit id, e, H, _, kx, _ => kx id e H
  | .ret, e, H, _, _, kr => kr e H
  | .fail, _, _, _, _, _ => none

variable {X C}

theorem xopK_mono (op : XOp) (e : Env) (H : Heap) {K K' : AV → Heap → Option α} (h : ∀ v H, Le (K v H) (K' v H)) : Le (xopK X C op e H K) (xopK X C op e H K') := by
  rw [← xopK_eq, ← xopK_eq]
  exact (Le.refl _).bind fun r => h _ _

theorem memN_mem {l : List Nat} {t : Nat} : memN l t = true ↔ t ∈ l := by
  induction l with
  | nil => simp [memN]
  | cons s l ih =>
    simp only [memN, List.mem_cons]
    cases hb : Nat.beq t s with
    | true => simp [Nat.eq_of_beq_eq_true hb]
    | false =>
      simp only [cond_false, ih]
      constructor
      · exact .inr
      · rintro (rfl | h)
        · simp at hb
        · exact h

theorem opersS_le : ∀ (ops : List XOper) (sk : List Nat) (e : Env) (H : Heap) {K K' : Env → Heap → Option α}, (∀ t ∈ sk, e t = .tuple []) → (∀ e H, Le (K e H) (K' e H)) → Le (opersS X C ops sk e H K) (opersK X C ops e H K')
  | [], sk, e, H, K, K', hs, h => h e H
  | o :: os, sk, e, H, K, K', hs, h => by
    have del : ∀ (e : Env) (v : AV), (∀ t ∈ sk, e t = .tuple []) → ∀ t ∈ skDel sk o.dst, putDst e o.dst v t = .tuple [] := by
      intro e v he t ht
      cases hd : o.dst with
      | none => rw [hd] at ht; exact he t ht
      | some d =>
        rw [hd] at ht
        simp only [skDel, List.mem_filter, Bool.not_eq_true', putDst, Env.set] at ht ⊢
        rw [ht.2]
        exact he t ht.1
    have add : ∀ (e : Env), (∀ t ∈ sk, e t = .tuple []) → ∀ t ∈ skAdd sk o.dst, putDst e o.dst (.tuple []) t = .tuple [] := by
      intro e he t ht
      cases hd : o.dst with
      | none => rw [hd] at ht; exact he t ht
      | some d =>
        rw [hd] at ht
        simp only [skAdd, List.mem_cons, putDst, Env.set] at ht ⊢
        cases hb : Nat.beq t d with
        | true => rfl
        | false =>
          simp only [Bool.false_eq_true, if_false]
          rcases ht with rfl | ht
          · simp at hb
          · exact he t ht
    unfold opersS opersK
    cases hg : o.guard with
    | none =>
      exact xopK_mono _ _ _ fun v H => opersS_le os _ _ _ (del e v hs) h
    | some g =>
      obtain ⟨t, w⟩ := g
      cases hm : memN sk t with
      | true =>
        simp only [hm, cond_true]
        rw [hs t (memN_mem.1 hm)]
        exact opersS_le os _ _ _ (add e hs) h
      | false =>
        simp only [hm, cond_false]
        cases ht : e t with
        | bool b =>
          have hs' : ∀ b, (∀ s ∈ sk, e.set t (.bool b) s = .tuple []) := by
            intro b s hsm
            unfold Env.set
            cases hb : Nat.beq s t with
            | true =>
              rw [Nat.eq_of_beq_eq_true hb] at hsm
              rw [memN_mem.2 hsm] at hm
              cases hm
            | false => exact hs s hsm
          cases b <;> cases w <;> simp only [gB, gK, cond_true, cond_false, if_true, if_false, Bool.false_eq_true]
          · exact xopK_mono _ _ _ fun v H => opersS_le os _ _ _ (del _ v (hs' _)) h
          · exact opersS_le os _ _ _ (add _ (hs' _)) h
          · exact opersS_le os _ _ _ (add _ (hs' _)) h
          · exact xopK_mono _ _ _ fun v H => opersS_le os _ _ _ (del _ v (hs' _)) h
        | _ => exact Le.none _

theorem onlyK_mono (l : List Nat) {K K' : Nat → Env → Heap → Option α} (h : ∀ i e H, Le (K i e H) (K' i e H)) (i : Nat) (e : Env) (H : Heap) : Le (onlyK l K i e H) (onlyK l K' i e H) := by
  induction l with
  | nil => exact Le.refl _
  | cons j l ih =>
    simp only [onlyK]
    cases Nat.beq i j
    · exact ih
    · exact h _ _ _

theorem loopK_mono (b : XCode) (e : Env) (H : Heap) {kx kx' : Nat → Env → Heap → Option α} {kr kr' : Env → Heap → Option α} (hx : ∀ i e H, Le (kx i e H) (kx' i e H)) (hr : ∀ e H, Le (kr e H) (kr' e H)) :
    Le (loopK X C b e H kx kr) (loopK X C b e H kx' kr') := by
  unfold loopK
  refine (Le.refl _).bind fun r => ?_
  obtain ⟨x, e', H'⟩ := r
  cases x
  · exact Le.refl _
  · exact hx _ _ _
  · exact hr _ _

theorem evS_le : ∀ (c : XCode) (e : Env) (H : Heap) {kn kn' : Env → Heap → Option α} {kx kx' : Nat → Env → Heap → Option α} {kr kr' : Env → Heap → Option α},
    (∀ e H, Le (kn e H) (kn' e H)) → (∀ i e H, Le (kx i e H) (kx' i e H)) → (∀ e H, Le (kr e H) (kr' e H)) → Le (evS X C c e H kn kx kr) (evK X C c e H kn' kx' kr') := by
  intro c
  induction c with
  | skip => intro e H _ _ _ _ _ _ hn _ _; exact hn _ _
  | region ops chk =>
    intro e H kn kn' kx kx' kr kr' hn _ _
    refine opersS_le _ _ _ _ (fun t ht => by cases ht) fun e H => ?_
    cases chk with
    | nil => exact hn _ _
    | cons c l =>
      simp only [chkK]
      split
      · exact hn _ _
      · exact Le.refl _
  | seq a b iha ihb => intro e H _ _ _ _ _ _ hn hx hr; exact iha _ _ (fun e H => ihb _ _ hn hx hr) hx hr
  | cond c a b iha ihb =>
    intro e H _ _ _ _ _ _ hn hx hr
    simp only [evS, evK, condK]
    split
    · split
      · exact iha _ _ hn hx hr
      · exact ihb _ _ hn hx hr
    · exact Le.refl _
  | block id b ih =>
    intro e H _ _ _ _ _ _ hn hx hr
    refine ih _ _ hn (fun i e H => ?_) hr
    cases Nat.beq i id
    · exact hx _ _ _
    · exact hn _ _
  | loop b ih => intro e H _ _ _ _ _ _ hn hx hr; exact loopK_mono _ _ _ (onlyK_mono _ hx) hr
  | keep l => intro e H _ _ _ _ _ _ hn _ _; exact hn _ _
  | exit id => intro e H _ _ _ _ _ _ _ hx _; exact hx _ _ _
  | ret => intro e H _ _ _ _ _ _ _ _ hr; exact hr _ _
  | fail => intro e H _ _ _ _ _ _ _ _ _; exact Le.refl _

theorem loopK_le (b : XCode) (e : Env) (H : Heap) (kx : Nat → Env → Heap → Option α) (kr : Env → Heap → Option α) :
    Le (evS X C b e H (fun e H => loopK X C b e H kx kr) kx kr) (loopK X C b e H kx kr) := by
  rw [loopK_eq]
  exact evS_le _ _ _ (fun _ _ => Le.refl _) (fun _ _ _ => Le.refl _) (fun _ _ => Le.refl _)

theorem R_le {X : Prog} {f : Nat} {fn : XFunc} {args : List AV} {H : Heap} (hf : X.fn f = some fn) (hl : args.length = fn.nparams) :
    Le (evS X (R X) fn.code (env0 args) H (finK fn.results) (fun _ _ _ => none) (finK fn.results)) (R X f args H) := by
  rw [R_fn hf hl]
  exact evS_le _ _ _ (fun _ _ => Le.refl _) (fun _ _ _ => Le.refl _) (fun _ _ => Le.refl _)

theorem R_step {X : Prog} {f : Nat} {fn : XFunc} {args : List AV} {H : Heap} {s : Option (AV × Heap)} (hf : X.fn f = some fn) (hl : args.length = fn.nparams)
    (h : evS X (R X) fn.code (env0 args) H (finK fn.results) (fun _ _ _ => none) (finK fn.results) = s) {r : AV × Heap} (hr : s = some r) : R X f args H = some r := R_le hf hl r (h.trans hr)

theorem loop_step {b : XCode} {e : Env} {H : Heap} {kx : Nat → Env → Heap → Option α} {kr : Env → Heap → Option α} {s : Option α}
    (h : evS X C b e H (fun e H => loopK X C b e H kx kr) kx kr = s) {r : α} (hr : s = some r) : loopK X C b e H kx kr = some r := loopK_le b e H kx kr r (h.trans hr)

def Yl (x : Option (AV × Heap)) (Q : AV → Heap → Prop) : Prop := ∃ v H, x = some (v, H) ∧ Q v H

theorem R_yl {X : Prog} {f : Nat} {fn : XFunc} {args : List AV} {H : Heap} {s : Option (AV × Heap)} {Q : AV → Heap → Prop} (hf : X.fn f = some fn) (hl : args.length = fn.nparams)
    (h : evS X (R X) fn.code (env0 args) H (finK fn.results) (fun _ _ _ => none) (finK fn.results) = s) (hr : Yl s Q) : Yl (R X f args H) Q := by
  obtain ⟨v, H', h1, h2⟩ := hr
  exact ⟨v, H', R_step hf hl h h1, h2⟩

theorem loop_yl {b : XCode} {e : Env} {H : Heap} {kx : Nat → Env → Heap → Option (AV × Heap)} {kr : Env → Heap → Option (AV × Heap)} {s : Option (AV × Heap)} {Q : AV → Heap → Prop}
    (h : evS X C b e H (fun e H => loopK X C b e H kx kr) kx kr = s) (hr : Yl s Q) : Yl (loopK X C b e H kx kr) Q := by
  obtain ⟨v, H', h1, h2⟩ := hr
  exact ⟨v, H', loop_step h h1, h2⟩
end
end X
end Go.Proofs.YtplginnkececaaaGreatDoor
