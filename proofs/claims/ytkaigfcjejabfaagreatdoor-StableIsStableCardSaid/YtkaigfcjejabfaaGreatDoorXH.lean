/- The engine's code and functions are sound. No condition. -/
import Derived.Test.YtkaigfcjejabfaaGreatDoorXJ
import Derived.LoopN
set_option linter.unusedSimpArgs false
set_option linter.unusedVariables false
namespace Go.Proofs.YtkaigfcjejabfaaGreatDoor
open Go
namespace X

section
variable {P : Program} {G : Nat → Option AV} {X : Prog} {C : Oracle}

def Ex.out : Ex → Exit
  | .normal => .normal
  | .exit id => .exit id
  | .ret => .ret

/-- What a piece of the engine's code says of a piece of the program's. -/
def Sound (P : Program) (G : Nat → Option AV) (n : Nat) (c : Code) (f : Env → Heap → Option (Ex × Env × Heap)) : Prop :=
  ∀ (e : Env) (H : Heap) (r : Ex × Env × Heap) (B : Nat) (σ : Nat → Prop) (μ : Mu) (a : Act) (w : World) (Q : Exit → Act → World → Prop), f e H = some r → SR G B n σ μ e H a w →
    (∀ a' w', Behind G B n σ μ w r.2.1 r.2.2 a' w' → Q r.1.out a' w') → c.wp P Q a w

theorem SR.keep {B n : Nat} {σ : Nat → Prop} {μ : Mu} {w : World} {e : Env} {H : Heap} {a : Act} (h : SR G B n σ μ e H a w) (l : List Nat) : SR G B n σ μ (keepEnv l e) H a w := by
  refine ⟨h.hr, fun t => ?_, h.sz, h.df⟩
  unfold keepEnv
  split
  · exact h.er t
  · exact .undef _ _

theorem Behind.keep {B n : Nat} {σ : Nat → Prop} {μ : Mu} {w w' : World} {e : Env} {H : Heap} {a : Act} (h : Behind G B n σ μ w e H a w') (l : List Nat) : Behind G B n σ μ w (keepEnv l e) H a w' := by
  obtain ⟨σ', μ', h1, h2⟩ := h
  exact ⟨σ', μ', h1.keep l, h2⟩

variable {L : (Env → Heap → Option (Ex × Env × Heap)) → Env → Heap → Option (Ex × Env × Heap)}

theorem Sound.keepBehind {n : Nat} {c : Code} {x : XCode} (h : Sound P G n c (code X C L x)) (l : List Nat) : Sound P G n c (code X C L (.seq x (.keep l))) := by
  intro e H r B σ μ a w Q hx hs hq
  simp only [code, Option.bind_eq_some_iff] at hx
  obtain ⟨s, h1, h2⟩ := hx
  refine h e H s B σ μ a w Q h1 hs fun a' w' hb => ?_
  obtain ⟨ex, e1, H1⟩ := s
  cases ex <;> simp only [Option.some.injEq] at h2 <;> subst h2
  · exact hq _ _ (hb.keep l)
  · exact hq _ _ hb
  · exact hq _ _ hb

theorem Sound.keepAhead {n : Nat} {c : Code} {x : XCode} (h : Sound P G n c (code X C L x)) (l : List Nat) : Sound P G n c (code X C L (.seq (.keep l) x)) := by
  intro e H r B σ μ a w Q hx hs hq
  simp only [code, Option.bind_some] at hx
  exact h _ H r B σ μ a w Q hx (hs.keep l) hq

theorem Sound.kept {n : Nat} {c : Code} {x : XCode} (h : Sound P G n c (code X C L x)) (k : Option (List Nat)) : Sound P G n c (code X C L (kept k x)) := by
  cases k with
  | none => exact h
  | some l => exact h.keepBehind l

theorem Sound.loop {n k : Nat} {c : Code} {f : Env → Heap → Option (Ex × Env × Heap)} (h : Sound P G n c f) : Sound P G n (.loop c) (rounds f k) := by
  intro e H r B σ μ a w Q hx hs hq
  refine wp_loop_rounds k ?_
  induction k generalizing e H σ μ a w with
  | zero => simp [rounds] at hx
  | succ k ih =>
    rw [rounds_succ]
    simp only [rounds, Option.bind_eq_some_iff] at hx
    obtain ⟨s, h1, h2⟩ := hx
    refine h e H s B σ μ a w _ h1 hs fun a' w' hb => ?_
    obtain ⟨ex, e1, H1⟩ := s
    cases ex with
    | normal =>
      simp only at h2
      obtain ⟨σ', μ', k1, k2⟩ := hb
      exact ih _ _ σ' μ' a' w' h2 k1 fun a'' w'' hb' => hq _ _ (Behind.trans k2 hb')
    | exit id =>
      simp only [Option.some.injEq] at h2; subst h2
      exact hq _ _ hb
    | ret =>
      simp only [Option.some.injEq] at h2; subst h2
      exact hq _ _ hb

theorem code_ok {h : Hints} {n k : Nat} (hm : P.follows .mixedOrders = true) (hC : OracleOK P G C) (hP : PrimOK P G X) : ∀ (c : Code) (blk : Nat) (x : XCode), compCode P G X h blk c = some x → codeFits n c = true →
    Sound P G n c (code X C (fun b => rounds b k) x) := by
  intro c
  induction c with
  | skip =>
    intro blk x hc hf e H r B σ μ a w Q hx hs hq
    simp only [compCode, Option.some.injEq] at hc
    subst hc
    simp only [code, Option.some.injEq] at hx
    subst hx
    exact wp_skip (hq _ _ ⟨σ, μ, hs, Step.refl _ _ _ _⟩)
  | region id ops draw =>
    intro blk x hc hf
    simp only [compCode, Option.map_eq_some_iff] at hc
    obtain ⟨y, hy, rfl⟩ := hc
    refine Sound.kept ?_ _
    intro e H r B σ μ a w Q hx hs hq
    have hn : r.1 = .normal := by
      obtain ⟨xs, chk, rfl⟩ : ∃ xs chk, y = .region xs chk := by
        unfold compRegion at hy
        cases draw
        · simp only [Bool.not_false, if_true, Option.map_eq_some_iff] at hy
          obtain ⟨xs, _, rfl⟩ := hy
          exact ⟨_, _, rfl⟩
        · simp only [Bool.not_true, Bool.false_eq_true, if_false, Option.bind_eq_some_iff] at hy
          obtain ⟨xs, _, hy⟩ := hy
          split at hy
          · rw [Option.bind_eq_some_iff] at hy
            obtain ⟨chk, _, hy⟩ := hy
            split at hy
            · cases hy; exact ⟨_, _, rfl⟩
            · cases hy
          · cases hy
      simp only [code, Option.bind_eq_some_iff] at hx
      obtain ⟨s, _, hx⟩ := hx
      split at hx
      · cases hx; rfl
      · cases hx
    refine region_ok hm hf hC hP hy hx hs fun _ a' w' hb => ?_
    have := hq a' w' hb
    rw [hn] at this
    exact this
  | seq c d ihc ihd =>
    intro blk x hc hf e H r B σ μ a w Q hx hs hq
    simp only [compCode, Option.bind_eq_some_iff, Option.map_eq_some_iff] at hc
    obtain ⟨y, hy, z, hz, rfl⟩ := hc
    simp only [codeFits, Bool.and_eq_true] at hf
    simp only [code, Option.bind_eq_some_iff] at hx
    obtain ⟨s, h1, h2⟩ := hx
    refine wp_seq (ihc blk y hy hf.1 e H s B σ μ a w _ h1 hs fun a' w' hb => ?_)
    obtain ⟨ex, e1, H1⟩ := s
    cases ex with
    | normal =>
      simp only at h2
      obtain ⟨σ', μ', k1, k2⟩ := hb
      exact ihd blk z hz hf.2 e1 H1 r B σ' μ' a' w' Q h2 k1 fun a'' w'' hb' => hq _ _ (Behind.trans k2 hb')
    | exit id => simp only [Option.some.injEq] at h2; subst h2; exact hq _ _ hb
    | ret => simp only [Option.some.injEq] at h2; subst h2; exact hq _ _ hb
  | cond o c d ihc ihd =>
    intro blk x hc hf e H r B σ μ a w Q hx hs hq
    simp only [compCode, Option.bind_eq_some_iff, Option.map_eq_some_iff] at hc
    obtain ⟨o', ho, y, hy, z, hz, rfl⟩ := hc
    simp only [codeFits, Bool.and_eq_true] at hf
    simp only [code] at hx
    have hv := RV.arg hs.hr hs.er ho
    split at hx
    · rename_i t ht
      rw [ht] at hv
      refine wp_cond hv.bool_inv ?_
      cases t
      · exact ihd blk z hz hf.2 e H r B σ μ a w Q hx hs hq
      · exact ihc blk y hy hf.1 e H r B σ μ a w Q hx hs hq
    · cases hx
  | block id c ih =>
    intro blk x hc hf e H r B σ μ a w Q hx hs hq
    simp only [compCode, Option.map_eq_some_iff] at hc
    obtain ⟨y, hy, rfl⟩ := hc
    simp only [code, Option.bind_eq_some_iff] at hx
    obtain ⟨s, h1, h2⟩ := hx
    refine wp_block (ih id y hy hf e H s B σ μ a w _ h1 hs fun a' w' hb => ?_)
    obtain ⟨ex, e1, H1⟩ := s
    cases ex with
    | normal => simp only [Option.some.injEq] at h2; subst h2; exact hq _ _ hb
    | ret => simp only [Option.some.injEq] at h2; subst h2; exact hq _ _ hb
    | exit i =>
      simp only at h2
      simp only [Ex.out, Exit.inBlock]
      by_cases hi : i = id
      · subst hi
        simp only [Nat.beq_refl, if_true, Option.some.injEq] at h2
        subst h2
        rw [if_pos rfl]
        exact hq _ _ hb
      · have : Nat.beq i id = false := by
          cases hh : Nat.beq i id with
          | false => rfl
          | true => exact (hi (Nat.eq_of_beq_eq_true hh)).elim
        simp only [this, Bool.false_eq_true, if_false, Option.some.injEq] at h2
        subst h2
        rw [if_neg hi]
        exact hq _ _ hb
  | loop c ih =>
    intro blk x hc hf
    simp only [compCode, Option.map_eq_some_iff] at hc
    obtain ⟨y, hy, rfl⟩ := hc
    have := ih blk y hy hf
    split
    · exact Sound.loop this
    · rename_i l hl
      refine Sound.keepAhead ?_ l
      exact Sound.loop (this.keepBehind l)
  | exit id =>
    intro blk x hc hf e H r B σ μ a w Q hx hs hq
    simp only [compCode, Option.some.injEq] at hc
    subst hc
    simp only [code, Option.some.injEq] at hx
    subst hx
    exact wp_exit (hq _ _ ⟨σ, μ, hs, Step.refl _ _ _ _⟩)
  | ret =>
    intro blk x hc hf e H r B σ μ a w Q hx hs hq
    simp only [compCode, Option.some.injEq] at hc
    subst hc
    simp only [code, Option.some.injEq] at hx
    subst hx
    exact wp_ret (hq _ _ ⟨σ, μ, hs, Step.refl _ _ _ _⟩)
  | _ =>
    intro blk x hc hf e H r B σ μ a w Q hx hs hq
    simp only [compCode, Option.some.injEq] at hc
    subst hc
    simp [code] at hx
end
end X
end Go.Proofs.YtkaigfcjejabfaaGreatDoor
