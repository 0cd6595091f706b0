/- More is known of functions that have no body: what was run runs still. No condition. -/
import Derived.Test.YtkaigfcjejabfaaGreatDoorXN
set_option linter.unusedSimpArgs false
set_option linter.unusedVariables false
namespace Go.Proofs.YtkaigfcjejabfaaGreatDoor
open Go
namespace X

/-- The same functions; more answers are known, of functions that have no body. -/
structure Ext (X Y : Prog) : Prop where
  fn : Y.fn = X.fn
  mode : Y.mode = X.mode
  old : ∀ f vs v, X.prim f vs = some v → Y.prim f vs = some v
  new : ∀ f vs v, X.prim f vs = none → Y.prim f vs = some v → X.fn f = none

section
variable {X Y : Prog}

theorem pureCall_ext (h : Ext X Y) {C D : Oracle} (hC : OLe C D) (hn : ∀ f, X.fn f = none → ∀ a H, C f a H = none) (f : Nat) (args : List AV) (H : Heap) : Le (pureCall X C f args H) (pureCall Y D f args H) := by
  unfold pureCall
  refine (Le.refl _).bind fun as => ?_
  cases hx : X.prim f as with
  | some v => rw [h.old _ _ _ hx]; exact Le.refl _
  | none =>
    simp only
    cases hy : Y.prim f as with
    | none => exact (hC _ _ _).bind fun r => Le.refl _
    | some v =>
      rw [hn f (h.new _ _ _ hx hy)]
      intro r hr; cases hr

theorem callAV_ext (h : Ext X Y) {C D : Oracle} (hC : OLe C D) (hn : ∀ f, X.fn f = none → ∀ a H, C f a H = none) (fn : AV) (args : List AV) (H : Heap) : Le (callAV X C fn args H) (callAV Y D fn args H) := by
  unfold callAV
  rw [h.mode]
  split
  · split
    · exact (pureCall_ext h hC hn _ _ _).map
    · exact hC _ _ _
    · exact (hC _ _ _).bind fun r => Le.refl _
    · exact (Le.refl _).bind fun as => (hC _ _ _).bind fun r => Le.refl _
  · exact Le.refl _

theorem pcallAV_ext (h : Ext X Y) {C D : Oracle} (hC : OLe C D) (hn : ∀ f, X.fn f = none → ∀ a H, C f a H = none) (fn : AV) (args : List AV) (H : Heap) : Le (pcallAV X C fn args H) (pcallAV Y D fn args H) := by
  unfold pcallAV
  rw [h.mode]
  split
  · split
    · exact pureCall_ext h hC hn _ _ _
    · exact Le.refl _
  · exact Le.refl _

theorem xop_ext (h : Ext X Y) {C D : Oracle} (hC : OLe C D) (hn : ∀ f, X.fn f = none → ∀ a H, C f a H = none) (op : XOp) (e : Env) (H : Heap) : Le (xop X C op e H) (xop Y D op e H) := by
  cases op with
  | call f args => exact callAV_ext h hC hn _ _ _
  | pcall f args => exact (pcallAV_ext h hC hn _ _ _).map
  | _ => exact Le.refl _

theorem opers_ext (h : Ext X Y) {C D : Oracle} (hC : OLe C D) (hn : ∀ f, X.fn f = none → ∀ a H, C f a H = none) : ∀ (os : List XOper) (e : Env) (H : Heap), Le (opers X C os e H) (opers Y D os e H)
  | [], e, H => Le.refl _
  | o :: os, e, H => by
    unfold opers oper
    refine Le.bind ((Le.refl _).bind fun w => ?_) fun r => opers_ext h hC hn os _ _
    cases w
    · exact Le.refl _
    · exact (xop_ext h hC hn _ _ _).map

theorem code_ext (h : Ext X Y) {C D : Oracle} (hC : OLe C D) (hn : ∀ f, X.fn f = none → ∀ a H, C f a H = none) {L M : LoopOp} (hL : LLe L M) : ∀ (c : XCode) (e : Env) (H : Heap), Le (code X C L c e H) (code Y D M c e H) := by
  intro c
  induction c with
  | region ops chk => intro e H; exact (opers_ext h hC hn _ _ _).bind fun r => Le.refl _
  | seq a b iha ihb =>
    intro e H
    refine (iha e H).bind fun r => ?_
    obtain ⟨x, e', H'⟩ := r
    cases x
    · exact ihb _ _
    · exact Le.refl _
    · exact Le.refl _
  | cond c a b iha ihb =>
    intro e H
    simp only [code]
    cases c.ev e with
    | bool t => cases t <;> simp only [Bool.false_eq_true, if_false, if_true] <;> first | exact ihb _ _ | exact iha _ _
    | _ => exact Le.refl _
  | block id b ih => intro e H; exact (ih e H).bind fun r => Le.refl _
  | loop b ih => intro e H; exact hL _ _ ih e H
  | _ => intro e H; exact Le.refl _

theorem run_none {k f : Nat} (h : X.fn f = none) (a : List AV) (H : Heap) : run X k f a H = none := by
  cases k with
  | zero => rfl
  | succ k => simp [run, h]

theorem run_ext (h : Ext X Y) : ∀ k, OLe (run X k) (run Y k)
  | 0 => fun f a H r hr => by cases hr
  | k + 1 => by
    intro f a H
    unfold run
    rw [h.fn]
    refine (Le.refl _).bind fun fn => ?_
    split
    · exact (code_ext h (run_ext h k) (fun f hf a H => run_none hf a H) (rounds_lle (Nat.le_refl k)) _ _ _).bind fun r => Le.refl _
    · exact Le.refl _

theorem R_ext (h : Ext X Y) {f : Nat} {a : List AV} {H : Heap} {r : AV × Heap} (hr : R X f a H = some r) : R Y f a H = some r := by
  obtain ⟨k, hk⟩ := R_some.1 hr
  exact R_some.2 ⟨k, run_ext h k f a H r hk⟩

theorem R_none {f : Nat} (h : X.fn f = none) (a : List AV) (H : Heap) : R X f a H = none := by
  cases hr : R X f a H with
  | none => rfl
  | some r =>
    obtain ⟨k, hk⟩ := R_some.1 hr
    rw [run_none h] at hk; cases hk

theorem pure_ext (h : Ext X Y) {f : Nat} {a : List AV} {H : Heap} {v : AV} (hr : pureCall X (R X) f a H = some v) : pureCall Y (R Y) f a H = some v :=
  pureCall_ext h (fun f a H r => R_ext h) (fun f hf a H => R_none hf a H) f a H v hr

theorem cut_ext (h : Ext X Y) {f : Nat} {a : List AV} {H : Heap} {r : AV × Heap} (hr : cutCall (R X) f a H = some r) : cutCall (R Y) f a H = some r := by
  unfold cutCall at hr ⊢
  rw [Option.bind_eq_some_iff] at hr ⊢
  obtain ⟨s, h1, h2⟩ := hr
  exact ⟨s, R_ext h h1, h2⟩
end
end X
end Go.Proofs.YtkaigfcjejabfaaGreatDoor
