/- The engine's regions, code and functions are sound. No condition. -/
import Derived.Test.YtkaigfcjejabfaaGreatDoorXM
set_option linter.unusedSimpArgs false
set_option linter.unusedVariables false
namespace Go.Proofs.YtkaigfcjejabfaaGreatDoor
open Go
namespace X

section
variable {P : Program} {G : Nat → Option AV} {w : World} {σ : Nat → Prop} {μ : Mu} {B : Nat} {H : Heap}
variable {X : Prog} {C : Oracle} {e : Env} {a : Act} {o : Oper} {r : AV × Heap}

theorem callAV_ok (hC : OracleOK P G C) (hP : PrimOK P G X) {f : Nat} {cap : List AV} {args : List AV} (h : callAV X C (.func (.func f) cap) args H = some r) (hr : HR G B σ μ H w) {xs ys : List Value} (hx : RVs w σ μ args xs) (hy : RVs w σ μ cap ys) :
    CallOK P f (xs ++ ys) w (Post G B σ μ w r) := by
  have hall := hx.append hy
  simp only [callAV] at h
  split at h
  · rw [Option.map_eq_some_iff] at h
    obtain ⟨v, hv, rfl⟩ := h
    exact pureCall_ok hC hP hv hr hall
  · exact hC f _ H r h B σ μ w _ hr hall
  · exact cutCall_ok hC h hr hall
  · exact freshCall_ok hC h hr hall

theorem OpOK.call {op : Op} {f : Nat} {xs : List Value} {R : Value → World → Prop} (h : CallOK P f xs w R) (hexec : (execOp a.eval { o with op := op }).run P w = (callFunc f xs.toArray).run P w) : OpOK P op o a w R := by
  intro next Q hn
  unfold Oper.wp
  rw [hexec]
  unfold CallOK at h
  split at h
  · rename_i v w' hv
    rw [hv]
    exact hn v w' h
  · rename_i g as w' hv
    rw [hv]
    refine Calls.mono h ?_
    rintro ev w'' ⟨v, rfl, hv⟩
    exact hn v w'' hv
  · exact h.elim

theorem ok_call {c : Call} {f : Operand} {own : Bool} {xo : XOp} (hcal : c.callee = .value f) (hc : compOp P G own (.call c) = some xo) (hC : OracleOK P G C) (hP : PrimOK P G X) (hx : xop X C xo e H = some r) (hr : HR G B σ μ H w)
    (he : ER σ μ e w a) : OpOK P (.call c) o a w (Post G B σ μ w r) := by
  simp only [compOp, hcal, Option.bind_eq_some_iff, Option.map_eq_some_iff] at hc
  obtain ⟨f', hf', as, has, hxo⟩ := hc
  have hx : xop X C (.call f' as) e H = some r := by
    cases own
    · simp only [Bool.false_eq_true, if_false] at hxo
      subst hxo
      exact hx
    · simp only [if_true] at hxo
      subst hxo
      simp only [xop, Option.map_eq_some_iff] at hx ⊢
      obtain ⟨v, hv, rfl⟩ := hx
      unfold pcallAV at hv
      split at hv
      · rename_i g cap hg
        split at hv
        · rename_i hm
          simp only [callAV, hg, hm, hv, Option.map_some]
        · cases hv
      · cases hv
  have h1 := RV.arg hr he hf'
  have h2 := RVs.args hr he has
  simp only [xop] at hx
  cases hfv : f'.ev e with
  | func fn cap =>
    rw [hfv] at h1 hx
    obtain ⟨g, ys, rfl, h1', h3⟩ := h1.func_inv
    refine OpOK.call (callAV_ok hC hP hx hr h2 h3) ?_
    obtain ⟨callee, args, tys⟩ := c
    simp only at hcal
    subst hcal
    simp only [execOp, resolve, h1', Deferred.ofValue, pure_bind, invoke]
    congr 2
    apply Array.ext'
    simp
  | _ => rw [hfv] at hx; simp [callAV] at hx

/-- Every operation. -/
theorem ok_any {op : Op} {own : Bool} {xo : XOp} (hc : compOp P G own op = some xo) (hC : OracleOK P G C) (hP : PrimOK P G X) (hx : xop X C xo e H = some r) (hr : HR G B σ μ H w) (he : ER σ μ e w a) :
    OpOK P op o a w (Post G B σ μ w r) := by
  by_cases hn : notCall op = true
  · exact ok_op hc hn hx hr he
  · cases op with
    | call c =>
      cases hcal : c.callee with
      | value f => exact ok_call hcal hc hC hP hx hr he
      | builtin b => obtain ⟨callee, args, tys⟩ := c; simp only at hcal; subst hcal; simp [notCall] at hn
      | invoke x m => obtain ⟨callee, args, tys⟩ := c; simp only at hcal; subst hcal; simp [notCall] at hn
    | _ => simp [notCall] at hn

/-! ### one operation of a region -/

theorem ER.put {d : Option Nat} {v : AV} {x : Value} (he : ER σ μ e w a) (hv : RV w σ μ v x) (hd : ∀ t, d = some t → t < a.tmps.size) : ER σ μ (putDst e d v) w (a.put d x) := by
  cases d with
  | none => exact he
  | some t =>
    have hlt := hd t rfl
    intro s
    simp only [putDst, Env.set, Act.put]
    by_cases hs : s = t
    · subst hs
      have hb : Nat.beq s s = true := by simp
      simp only [hb, if_true]
      simpa [Array.getD, hlt] using hv
    · have hb : Nat.beq s t = false := by
        cases h : Nat.beq s t with
        | false => rfl
        | true => exact (hs (Nat.eq_of_beq_eq_true h)).elim
      simp only [hb, if_false, Bool.false_eq_true]
      have := he s
      have hget : (a.tmps.setIfInBounds t x).getD s undef = a.tmps.getD s undef := by
        simp only [Array.getD_eq_getD_getElem?]
        rw [Array.getElem?_setIfInBounds_ne (fun h => hs h.symm)]
      rw [hget]; exact this

/-- A state of the engine's, and one of the model's. -/
structure SR (G : Nat → Option AV) (B : Nat) (n : Nat) (σ : Nat → Prop) (μ : Mu) (e : Env) (H : Heap) (a : Act) (w : World) : Prop where
  hr : HR G B σ μ H w
  er : ER σ μ e w a
  sz : a.tmps.size = n
  df : a.defers = []

theorem SR.put {n : Nat} {d : Option Nat} {v : AV} {x : Value} (h : SR G B n σ μ e H a w) (hv : RV w σ μ v x) (hd : ∀ t, d = some t → t < n) : SR G B n σ μ (putDst e d v) H (a.put d x) w :=
  ⟨h.hr, h.er.put hv fun t ht => h.sz ▸ hd t ht, by cases d <;> simp [Act.put, h.sz], by cases d <;> simp [Act.put, h.df]⟩

theorem SR.step {n : Nat} {σ' : Nat → Prop} {μ' : Mu} {w' : World} {H' : Heap} (h : SR G B n σ μ e H a w) (hr : HR G B σ' μ' H' w') (s : Step B σ μ w σ' μ' w') : SR G B n σ' μ' e H' a w' := ⟨hr, h.er.step s, h.sz, h.df⟩

/-- What a piece of the engine's code promises of the state behind it. -/
def Behind (G : Nat → Option AV) (B n : Nat) (σ : Nat → Prop) (μ : Mu) (w : World) (e : Env) (H : Heap) (a : Act) (w' : World) : Prop :=
  ∃ σ' μ', SR G B n σ' μ' e H a w' ∧ Step B σ μ w σ' μ' w'

theorem guard_ok {ops : Array Oper} {j : Nat} {want : Bool} {t : Nat} (ht : (ops[j]?).bind (·.dst) = some t) {b : Bool} (hb : wanted (some (t, want)) e = some b) (he : ER σ μ e w a) (hlt : t < a.tmps.size) :
    (yielded ops a.tmps j == some want) = b := by
  have h := he t
  have hget : a.tmps[t]? = some (a.tmps.getD t undef) := by simp [Array.getD, hlt]
  simp only [wanted] at hb
  unfold yielded
  rw [ht]
  simp only [Option.bind_some, hget]
  split at hb
  · rename_i c hc
    cases hb
    rw [hc] at h
    rw [h.bool_inv]
    cases c <;> cases want <;> rfl
  · rename_i hc
    cases hb
    rw [hc] at h
    obtain ⟨xs, hx, hxs⟩ := h.tuple_inv
    cases hxs
    rw [hx]
    cases want <;> rfl
  · cases hb

theorem oper_ok {ops : Array Oper} {i : Nat} {o : Oper} {own : Bool} {xo : XOper} {e' : Env} {H' : Heap} {n : Nat} (hi : ops[i]? = some o) (hc : compOper P G own ops o = some xo) (hfit : operFits n ops o = true)
    (hC : OracleOK P G C) (hP : PrimOK P G X) (hx : oper X C xo e H = some (e', H')) (hs : SR G B n σ μ e H a w) {K : Act → World → Prop} {Q : Exit → Act → World → Prop}
    (hK : ∀ a' w', Behind G B n σ μ w e' H' a' w' → K a' w') : wpOp P ops Q i K a w := by
  simp only [operFits, Bool.and_eq_true] at hfit
  have hdst : ∀ t, o.dst = some t → t < n := by
    intro t ht
    have := hfit.1
    rw [ht] at this
    simpa using this
  unfold compOper at hc
  simp only [oper, Option.bind_eq_some_iff] at hx
  obtain ⟨b, hb, hx⟩ := hx
  have hwant : Region.wanted o (yielded ops a.tmps) = b ∧ xo.dst = o.dst ∧ xo.op = (compOp P G own o.op).getD .fail := by
    split at hc
    · rename_i hg
      cases hc
      simp only [wanted, Option.some.injEq] at hb
      exact ⟨by rw [← hb]; simp [Region.wanted, hg], rfl, rfl⟩
    · rename_i j want hg
      rw [Option.map_eq_some_iff] at hc
      obtain ⟨t, ht, rfl⟩ := hc
      refine ⟨?_, rfl, rfl⟩
      have hlt : t < a.tmps.size := by
        have := hfit.2
        rw [hg] at this
        simp only [ht, decide_eq_true_eq] at this
        rw [hs.sz]; exact this
      have := guard_ok ht hb hs.er hlt
      simp only [Region.wanted, hg]
      exact this
  obtain ⟨hw, hd, hop⟩ := hwant
  unfold wpOp
  rw [hi]
  simp only [hw]
  cases b with
  | true =>
    simp only [if_true, Option.map_eq_some_iff] at hx ⊢
    obtain ⟨r, hr, hr'⟩ := hx
    rw [hop] at hr
    left
    cases hxo : compOp P G own o.op with
    | none => rw [hxo] at hr; simp [xop] at hr
    | some x =>
    rw [hxo] at hr
    simp only [Option.getD_some] at hr
    have := ok_any (o := o) hxo hC hP hr hs.hr hs.er (a := a) K Q (fun v w' hp => by
      obtain ⟨σ', μ', p1, p2, p3⟩ := hp
      cases hr'
      refine hK _ _ ⟨σ', μ', ?_, p3⟩
      rw [hd]
      exact (hs.step p1 p3).put p2 hdst)
    exact this
  | false =>
    simp only [Bool.false_eq_true, if_false, Option.some.injEq] at hx ⊢
    cases hx
    refine hK _ _ ⟨σ, μ, ?_, Step.refl _ _ _ _⟩
    rw [hd]
    exact hs.put (RV.tuple _ _ [] (.nil _)) hdst
end
end X
end Go.Proofs.YtkaigfcjejabfaaGreatDoor
