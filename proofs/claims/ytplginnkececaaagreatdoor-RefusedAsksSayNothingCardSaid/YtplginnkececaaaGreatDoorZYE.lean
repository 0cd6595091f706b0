/- From a run of the engine's to the call of a law. The engine without fuel: the limit of its runs; its code with what comes next handed on, so that bodies unfold by definition. The engine's code with what comes next handed on: bodies unfold by definition. The engine's code in the form that is printed: guards are looked at once, what is left out is known as it stands. Rules for the engine's operations on known values. No condition. -/
import Derived.Test.YtplginnkececaaaGreatDoorZXF
import Derived.Below
import Derived.Test.YtplginnkececaaaGreatDoorZXC
set_option linter.unusedSimpArgs false
set_option linter.unusedVariables false
namespace Go.Proofs.YtplginnkececaaaGreatDoor
open Go
namespace X

section
variable {P : Program} {G : Nat → Option AV} {X : Prog}

theorem calls_of_run (hm : P.follows .mixedOrders = true) (hX : ProgOK P G X) (hP : PrimOK P G X) {k f : Nat} {v : AV} {b : Bool} {H : Heap} (h : run X k f [v] [] = some (.bool b, H)) {W : World} {x : Value}
    (hx : RV W (fun b => b < W.heap.size) noMu v x) (hg : ∀ g v, G g = some v → RV W (fun b => b < W.heap.size) noMu v (.pointer (some ⟨g, 0, none⟩))) {fn : Func} {c : Code} (hf : P.funcs[f]? = some fn) (hb : fn.body = some c) (hn : (fn.name == "runtime.NumGoroutine") = false) :
    Calls P f #[x] W fun e w' => e = .returned (.bool b) ∧ RowKit.Below W.heap.size W w' := by
  have hC := run_ok hm hX hP k
  have := hC f [v] [] _ h W.heap.size _ noMu W [x] (HR.empty (fun b hb => hb) hg) (.cons _ _ _ _ _ hx (.nil _))
  unfold CallOK at this
  have hcall : (callFunc f [x].toArray).run P W = .ok (.enter f #[x]) W := by
    have hne : ¬ fn.name = "runtime.NumGoroutine" := by simpa using hn
    simp [callFunc, hf, hne, hb]
  rw [hcall] at this
  refine this.mono ?_
  rintro e w' ⟨y, rfl, σ', μ', _, hv, hs⟩
  exact ⟨by rw [hv.bool_inv], hs.out.os, hs.out.tape, hs.out.output, hs.size, hs.old⟩

/-- A slice of numbers, as it lies in a block. -/
theorem RV.ints {W : World} {zs : List Int} {k : IntKind} {rb off cap : Nat} {c : Array Value} {ty : TypeId} {fz : Nat × Nat} (hb : W.heap[rb]? = some (.cells c ty fz)) (hc : ∀ i z, zs[i]? = some z → c[off + i]? = some (.int k z)) (hl : zs.length ≤ cap) :
    RV W (fun b => b < W.heap.size) noMu (.vslice (zs.map (.int k))) (.slice (some ⟨rb, off, none⟩) zs.length cap) := by
  have hfl : (zs.map (AV.int k)).flatMap AV.cells = zs.map (.int k) := by
    clear hc hl
    induction zs with
    | nil => rfl
    | cons z zs ih =>
      simp only [List.map_cons, List.flatMap_cons, AV.cells, List.singleton_append]
      rw [ih]
  have := RV.vslice (w := W) (σ := fun b => b < W.heap.size) noMu (zs.map (.int k)) rb off c ty fz (zs.map (.int k)) 1 cap (by
      by_cases h : rb < W.heap.size
      · exact h
      · rw [Array.getElem?_eq_none (by omega)] at hb; cases hb) hb ?_ ?_ ?_ (by simpa using hl)
  · simpa using this
  · intro i hi
    rw [List.getElem?_map]
    have hi' : i < zs.length := by simpa using hi
    rw [List.getElem?_eq_getElem hi', hc i _ (List.getElem?_eq_getElem hi')]
    rfl
  · intro e he
    obtain ⟨z, _, rfl⟩ := List.mem_map.1 he
    exact ⟨rfl, rfl⟩
  · rw [hfl]
    clear hfl hb hc hl
    induction zs with
    | nil => exact .nil _
    | cons z zs ih => exact .cons _ _ _ _ _ (.int _ _ _) ih
end
end X
end Go.Proofs.YtplginnkececaaaGreatDoor

set_option linter.unusedSimpArgs false
set_option linter.unusedVariables false
namespace Go.Proofs.YtplginnkececaaaGreatDoor
open Go
namespace X

/-- Answers at most what another one answers. -/
def Le {α : Type} (x y : Option α) : Prop := ∀ r, x = some r → y = some r

theorem Le.refl {α : Type} (x : Option α) : Le x x := fun _ h => h
theorem Le.bind {α β : Type} {x y : Option α} {f g : α → Option β} (h : Le x y) (hf : ∀ a, Le (f a) (g a)) : Le (x.bind f) (y.bind g) := by
  intro r hr
  rw [Option.bind_eq_some_iff] at hr ⊢
  obtain ⟨a, h1, h2⟩ := hr
  exact ⟨a, h a h1, hf a r h2⟩
theorem Le.map {α β : Type} {x y : Option α} {f : α → β} (h : Le x y) : Le (x.map f) (y.map f) := by
  intro r hr
  rw [Option.map_eq_some_iff] at hr ⊢
  obtain ⟨a, h1, h2⟩ := hr
  exact ⟨a, h a h1, h2⟩

def OLe (C D : Oracle) : Prop := ∀ f a H, Le (C f a H) (D f a H)

abbrev LoopOp := (Env → Heap → Option (Ex × Env × Heap)) → Env → Heap → Option (Ex × Env × Heap)
def LLe (L M : LoopOp) : Prop := ∀ b c, (∀ e H, Le (b e H) (c e H)) → ∀ e H, Le (L b e H) (M c e H)

section mono
variable {X : Prog} {C D : Oracle}

theorem pureCall_le (h : OLe C D) (f : Nat) (args : List AV) (H : Heap) : Le (pureCall X C f args H) (pureCall X D f args H) := by
  unfold pureCall
  refine (Le.refl _).bind fun as => ?_
  split
  · exact Le.refl _
  · exact (h _ _ _).bind fun r => Le.refl _

theorem callAV_le (h : OLe C D) (fn : AV) (args : List AV) (H : Heap) : Le (callAV X C fn args H) (callAV X D fn args H) := by
  unfold callAV
  split
  · split
    · exact (pureCall_le h _ _ _).map
    · exact h _ _ _
    · exact (h _ _ _).bind fun r => Le.refl _
    · exact (Le.refl _).bind fun as => (h _ _ _).bind fun r => Le.refl _
  · exact Le.refl _

theorem pcallAV_le (h : OLe C D) (fn : AV) (args : List AV) (H : Heap) : Le (pcallAV X C fn args H) (pcallAV X D fn args H) := by
  unfold pcallAV
  split
  · split
    · exact pureCall_le h _ _ _
    · exact Le.refl _
  · exact Le.refl _

theorem xop_le (h : OLe C D) (op : XOp) (e : Env) (H : Heap) : Le (xop X C op e H) (xop X D op e H) := by
  cases op with
  | call f args => exact callAV_le h _ _ _
  | pcall f args => exact (pcallAV_le h _ _ _).map
  | _ => exact Le.refl _

theorem opers_le (h : OLe C D) : ∀ (os : List XOper) (e : Env) (H : Heap), Le (opers X C os e H) (opers X D os e H)
  | [], e, H => Le.refl _
  | o :: os, e, H => by
    unfold opers oper
    refine Le.bind ((Le.refl _).bind fun w => ?_) fun r => opers_le h os _ _
    cases w
    · exact Le.refl _
    · exact (xop_le h _ _ _).map

theorem code_le (h : OLe C D) {L M : LoopOp} (hL : LLe L M) : ∀ (c : XCode) (e : Env) (H : Heap), Le (code X C L c e H) (code X D M c e H) := by
  intro c
  induction c with
  | region ops chk => intro e H; exact (opers_le h _ _ _).bind fun r => Le.refl _
  | seq a b iha ihb =>
    intro e H
    refine (iha e H).bind fun r => ?_
    obtain ⟨x, e', H'⟩ := r
    cases x
    · exact ihb _ _
    · exact Le.refl _
    · exact Le.refl _
  | cond c a b iha ihb =>
    intro e H
    simp only [code]
    cases c.ev e with
    | bool t => cases t <;> simp only [Bool.false_eq_true, if_false, if_true] <;> first | exact ihb _ _ | exact iha _ _
    | _ => exact Le.refl _
  | block id b ih => intro e H; exact (ih e H).bind fun r => Le.refl _
  | loop b ih => intro e H; exact hL _ _ ih e H
  | _ => intro e H; exact Le.refl _

theorem rounds_body {b c : Env → Heap → Option (Ex × Env × Heap)} (h : ∀ e H, Le (b e H) (c e H)) : ∀ (n : Nat) (e : Env) (H : Heap), Le (rounds b n e H) (rounds c n e H)
  | 0, e, H => Le.refl _
  | n + 1, e, H => by
    refine (h e H).bind fun r => ?_
    obtain ⟨x, e', H'⟩ := r
    cases x
    · exact rounds_body h n _ _
    · exact Le.refl _
    · exact Le.refl _

theorem rounds_step (b : Env → Heap → Option (Ex × Env × Heap)) : ∀ (n : Nat) (e : Env) (H : Heap), Le (rounds b n e H) (rounds b (n + 1) e H)
  | 0, e, H => fun r h => by cases h
  | n + 1, e, H => by
    unfold rounds
    refine (Le.refl _).bind fun r => ?_
    obtain ⟨x, e', H'⟩ := r
    cases x
    · exact rounds_step b n _ _
    · exact Le.refl _
    · exact Le.refl _

theorem le_of_step {α : Type} {g : Nat → Option α} (h : ∀ k, Le (g k) (g (k + 1))) {i j : Nat} (hij : i ≤ j) : Le (g i) (g j) := by
  induction hij with
  | refl => exact Le.refl _
  | step _ ih => exact fun r hr => h _ r (ih r hr)

theorem rounds_le (b : Env → Heap → Option (Ex × Env × Heap)) {n m : Nat} (h : n ≤ m) (e : Env) (H : Heap) : Le (rounds b n e H) (rounds b m e H) :=
  le_of_step (g := fun n => rounds b n e H) (fun k => rounds_step b k e H) h

theorem rounds_lle {n m : Nat} (h : n ≤ m) : LLe (fun b => rounds b n) (fun b => rounds b m) :=
  fun b c hb e H r hr => rounds_body hb m e H r (rounds_le b h e H r hr)

theorem run_step (X : Prog) : ∀ k, OLe (run X k) (run X (k + 1))
  | 0 => fun f a H r h => by cases h
  | k + 1 => by
    intro f a H
    unfold run
    refine (Le.refl _).bind fun fn => ?_
    split
    · exact (code_le (run_step X k) (rounds_lle (Nat.le_succ k)) _ _ _).bind fun r => Le.refl _
    · exact Le.refl _

theorem run_le (X : Prog) {i j : Nat} (h : i ≤ j) : OLe (run X i) (run X j) := fun f a H => le_of_step (g := fun k => run X k f a H) (fun k => run_step X k f a H) h
end mono

open Classical in
/-- What a row of answers comes to. -/
noncomputable def lim {α : Type} (g : Nat → Option α) : Option α := if h : ∃ k r, g k = some r then g (Classical.choose h) else none

theorem lim_some {α : Type} {g : Nat → Option α} (hm : ∀ k, Le (g k) (g (k + 1))) {r : α} : lim g = some r ↔ ∃ k, g k = some r := by
  unfold lim
  constructor
  · intro h
    split at h
    · exact ⟨_, h⟩
    · cases h
  · rintro ⟨k, hk⟩
    have h : ∃ k r, g k = some r := ⟨k, r, hk⟩
    rw [dif_pos h]
    obtain ⟨s, hs⟩ := Classical.choose_spec h
    rcases Nat.le_total k (Classical.choose h) with hle | hle
    · exact le_of_step hm hle r hk
    · have := le_of_step hm hle s hs
      rw [hk] at this
      rw [hs, ← this]

theorem opt_ext {α : Type} {x y : Option α} (h : ∀ r, x = some r ↔ y = some r) : x = y := by
  cases x with
  | none => cases y with
    | none => rfl
    | some b => exact absurd ((h b).2 rfl) (by simp)
  | some a => exact ((h a).1 rfl).symm

/-- A loop with no bound. -/
noncomputable def Li : LoopOp := fun b e H => lim fun n => rounds b n e H

/-- A function's run, with no bound. -/
noncomputable def R (X : Prog) : Oracle := fun f args H => lim fun k => run X k f args H

theorem Li_some {b : Env → Heap → Option (Ex × Env × Heap)} {e : Env} {H : Heap} {r : Ex × Env × Heap} : Li b e H = some r ↔ ∃ n, rounds b n e H = some r := lim_some fun k => rounds_step b k e H
theorem R_some {X : Prog} {f : Nat} {args : List AV} {H : Heap} {r : AV × Heap} : R X f args H = some r ↔ ∃ k, run X k f args H = some r := lim_some fun k => run_step X k f args H

theorem run_R (X : Prog) (k : Nat) : OLe (run X k) (R X) := fun f a H r h => R_some.2 ⟨k, h⟩
theorem rounds_Li (k : Nat) : LLe (fun b => rounds b k) Li := fun b c hb e H r hr => Li_some.2 ⟨k, rounds_body hb k e H r hr⟩

theorem Li_eq (b : Env → Heap → Option (Ex × Env × Heap)) (e : Env) (H : Heap) : Li b e H = (b e H).bind fun r => match r.1 with | .normal => Li b r.2.1 r.2.2 | x => some (x, r.2) := by
  refine opt_ext fun r => ?_
  rw [Li_some, Option.bind_eq_some_iff]
  constructor
  · rintro ⟨n, hn⟩
    cases n with
    | zero => cases hn
    | succ n =>
      unfold rounds at hn
      rw [Option.bind_eq_some_iff] at hn
      obtain ⟨s, h1, h2⟩ := hn
      refine ⟨s, h1, ?_⟩
      obtain ⟨x, e', H'⟩ := s
      cases x
      · exact Li_some.2 ⟨n, h2⟩
      · exact h2
      · exact h2
  · rintro ⟨s, h1, h2⟩
    obtain ⟨x, e', H'⟩ := s
    cases x
    · obtain ⟨n, hn⟩ := Li_some.1 h2
      exact ⟨n + 1, by unfold rounds; rw [h1]; exact hn⟩
    · exact ⟨1, by unfold rounds; rw [h1]; exact h2⟩
    · exact ⟨1, by unfold rounds; rw [h1]; exact h2⟩

section adequate
variable {X : Prog}

theorem pureCall_ad {f : Nat} {args : List AV} {H : Heap} {r : AV} (h : pureCall X (R X) f args H = some r) : ∃ k, pureCall X (run X k) f args H = some r := by
  unfold pureCall at h
  rw [Option.bind_eq_some_iff] at h
  obtain ⟨as, h2, h3⟩ := h
  split at h3
  · rename_i v' hp
    exact ⟨0, by simp only [pureCall, h2, Option.bind_some, hp]; rw [h3]⟩
  · rename_i hp
    rw [Option.bind_eq_some_iff] at h3
    obtain ⟨s, h4, h5⟩ := h3
    obtain ⟨k, hk⟩ := R_some.1 h4
    exact ⟨k, by simp only [pureCall, h2, Option.bind_some, hp, hk]; rw [h5]⟩

theorem callAV_ad {fn : AV} {args : List AV} {H : Heap} {r : AV × Heap} (h : callAV X (R X) fn args H = some r) : ∃ k, callAV X (run X k) fn args H = some r := by
  unfold callAV at h ⊢
  split at h
  · split at h
    · rw [Option.map_eq_some_iff] at h
      obtain ⟨v, h1, rfl⟩ := h
      obtain ⟨k, hk⟩ := pureCall_ad h1
      exact ⟨k, by simp [hk]⟩
    · obtain ⟨k, hk⟩ := R_some.1 h
      exact ⟨k, hk⟩
    · unfold cutCall at h
      rw [Option.bind_eq_some_iff] at h
      obtain ⟨s, h4, h5⟩ := h
      obtain ⟨k, hk⟩ := R_some.1 h4
      exact ⟨k, by simp only [cutCall, hk, Option.bind_some]; exact h5⟩
    · unfold freshCall at h
      rw [Option.bind_eq_some_iff] at h
      obtain ⟨as, h2, h3⟩ := h
      rw [Option.bind_eq_some_iff] at h3
      obtain ⟨s, h4, h5⟩ := h3
      obtain ⟨k, hk⟩ := R_some.1 h4
      exact ⟨k, by simp only [freshCall, h2, hk, Option.bind_some]; exact h5⟩
  · cases h

theorem pcallAV_ad {fn : AV} {args : List AV} {H : Heap} {r : AV} (h : pcallAV X (R X) fn args H = some r) : ∃ k, pcallAV X (run X k) fn args H = some r := by
  unfold pcallAV at h ⊢
  split at h
  · split at h
    · obtain ⟨k, hk⟩ := pureCall_ad h
      exact ⟨k, by simp [hk]⟩
    · cases h
  · cases h

theorem xop_ad {op : XOp} {e : Env} {H : Heap} {r : AV × Heap} (h : xop X (R X) op e H = some r) : ∃ k, xop X (run X k) op e H = some r := by
  cases op with
  | call f args => exact callAV_ad h
  | pcall f args =>
    simp only [xop, Option.map_eq_some_iff] at h
    obtain ⟨v, h1, rfl⟩ := h
    obtain ⟨k, hk⟩ := pcallAV_ad h1
    exact ⟨k, by simp only [xop, hk]; rfl⟩
  | _ => exact ⟨0, h⟩

theorem opers_ad : ∀ {os : List XOper} {e : Env} {H : Heap} {r : Env × Heap}, opers X (R X) os e H = some r → ∃ k, opers X (run X k) os e H = some r
  | [], e, H, r, h => ⟨0, h⟩
  | o :: os, e, H, r, h => by
    unfold opers at h
    rw [Option.bind_eq_some_iff] at h
    obtain ⟨s, h1, h2⟩ := h
    obtain ⟨k2, h2⟩ := opers_ad h2
    unfold oper at h1
    rw [Option.bind_eq_some_iff] at h1
    obtain ⟨w, hw, h1⟩ := h1
    cases w with
    | false =>
      simp only [Bool.false_eq_true, if_false, Option.some.injEq] at h1
      exact ⟨k2, by unfold opers oper; rw [hw]; simp only [Option.bind_some, Bool.false_eq_true, if_false]; subst h1; exact h2⟩
    | true =>
      simp only [if_true, Option.map_eq_some_iff] at h1
      obtain ⟨t, h3, rfl⟩ := h1
      obtain ⟨k1, h3⟩ := xop_ad h3
      refine ⟨max k1 k2, ?_⟩
      unfold opers oper
      rw [hw]
      simp only [Option.bind_some, if_true]
      rw [xop_le (run_le X (Nat.le_max_left k1 k2)) _ _ _ _ h3]
      exact opers_le (run_le X (Nat.le_max_right k1 k2)) _ _ _ _ h2

theorem code_ad : ∀ {c : XCode} {e : Env} {H : Heap} {r : Ex × Env × Heap}, code X (R X) Li c e H = some r → ∃ k, code X (run X k) (fun b => rounds b k) c e H = some r := by
  intro c
  induction c with
  | region ops chk =>
    intro e H r h
    simp only [code, Option.bind_eq_some_iff] at h
    obtain ⟨s, h1, h2⟩ := h
    obtain ⟨k, hk⟩ := opers_ad h1
    exact ⟨k, by simp only [code, hk, Option.bind_some]; exact h2⟩
  | seq a b iha ihb =>
    intro e H r h
    simp only [code, Option.bind_eq_some_iff] at h
    obtain ⟨s, h1, h2⟩ := h
    obtain ⟨k1, h1⟩ := iha h1
    obtain ⟨x, e', H'⟩ := s
    cases x with
    | normal =>
      obtain ⟨k2, h2⟩ := ihb h2
      refine ⟨max k1 k2, ?_⟩
      simp only [code]
      rw [code_le (run_le X (Nat.le_max_left k1 k2)) (rounds_lle (Nat.le_max_left k1 k2)) _ _ _ _ h1]
      exact code_le (run_le X (Nat.le_max_right k1 k2)) (rounds_lle (Nat.le_max_right k1 k2)) _ _ _ _ h2
    | exit i => exact ⟨k1, by simp only [code]; rw [h1]; exact h2⟩
    | ret => exact ⟨k1, by simp only [code]; rw [h1]; exact h2⟩
  | cond c a b iha ihb =>
    intro e H r h
    simp only [code] at h ⊢
    cases hc : c.ev e with
    | bool t =>
      rw [hc] at h
      cases t
      · simp only [Bool.false_eq_true, if_false] at h ⊢; exact ihb h
      · simp only [if_true] at h ⊢; exact iha h
    | _ => rw [hc] at h; cases h
  | block id b ih =>
    intro e H r h
    simp only [code, Option.bind_eq_some_iff] at h
    obtain ⟨s, h1, h2⟩ := h
    obtain ⟨k, hk⟩ := ih h1
    exact ⟨k, by simp only [code, hk, Option.bind_some]; exact h2⟩
  | loop b ih =>
    intro e H r h
    obtain ⟨n, hn⟩ := Li_some.1 h
    have key : ∀ n e H r, rounds (code X (R X) Li b) n e H = some r → ∃ k, rounds (code X (run X k) (fun b => rounds b k) b) n e H = some r := by
      intro n
      induction n with
      | zero => intro e H r h; cases h
      | succ n ihn =>
        intro e H r h
        unfold rounds at h
        rw [Option.bind_eq_some_iff] at h
        obtain ⟨s, h1, h2⟩ := h
        obtain ⟨k1, h1⟩ := ih h1
        obtain ⟨x, e', H'⟩ := s
        cases x with
        | normal =>
          obtain ⟨k2, h2⟩ := ihn _ _ _ h2
          refine ⟨max k1 k2, ?_⟩
          unfold rounds
          rw [code_le (run_le X (Nat.le_max_left k1 k2)) (rounds_lle (Nat.le_max_left k1 k2)) _ _ _ _ h1]
          exact rounds_body (fun e H => code_le (run_le X (Nat.le_max_right k1 k2)) (rounds_lle (Nat.le_max_right k1 k2)) _ e H) n _ _ _ h2
        | exit i => exact ⟨k1, by unfold rounds; rw [h1]; exact h2⟩
        | ret => exact ⟨k1, by unfold rounds; rw [h1]; exact h2⟩
    obtain ⟨k, hk⟩ := key n e H r hn
    refine ⟨max k n, ?_⟩
    simp only [code]
    exact rounds_lle (Nat.le_max_right k n) _ _ (fun e H => code_le (run_le X (Nat.le_max_left k n)) (rounds_lle (Nat.le_max_left k n)) _ e H) e H r hk
  | _ => intro e H r h; exact ⟨0, h⟩

theorem R_eq (f : Nat) (args : List AV) (H : Heap) : R X f args H = (X.fn f).bind fun fn => if args.length = fn.nparams then (code X (R X) Li fn.code (env0 args) H).bind (finish fn) else none := by
  refine opt_ext fun r => ?_
  rw [R_some]
  constructor
  · rintro ⟨k, hk⟩
    cases k with
    | zero => cases hk
    | succ k =>
      unfold run at hk
      rw [Option.bind_eq_some_iff] at hk ⊢
      obtain ⟨fn, h1, h2⟩ := hk
      refine ⟨fn, h1, ?_⟩
      split at h2
      · rename_i hl
        rw [if_pos hl]
        rw [Option.bind_eq_some_iff] at h2 ⊢
        obtain ⟨s, h3, h4⟩ := h2
        exact ⟨s, code_le (run_R X k) (rounds_Li k) _ _ _ _ h3, h4⟩
      · cases h2
  · intro h
    rw [Option.bind_eq_some_iff] at h
    obtain ⟨fn, h1, h2⟩ := h
    split at h2
    · rename_i hl
      rw [Option.bind_eq_some_iff] at h2
      obtain ⟨s, h3, h4⟩ := h2
      obtain ⟨k, hk⟩ := code_ad h3
      exact ⟨k + 1, by unfold run; rw [h1]; simp only [Option.bind_some, hl, if_true, hk]; exact h4⟩
    · cases h2
end adequate
end X
end Go.Proofs.YtplginnkececaaaGreatDoor

set_option linter.unusedSimpArgs false
set_option linter.unusedVariables false
namespace Go.Proofs.YtplginnkececaaaGreatDoor
open Go
namespace X

/-! ### operations by name -/

def boxAV (sz : Nat) (v : AV) (H : Heap) : Option (AV × Heap) := if v.cells.length = sz ∧ v.cells.all AV.storable then some (.ptr H.length 0 0, H ++ [.arr sz [v]]) else none
def buildAV (zero : List AV) (parts : List (Nat × Nat × AV)) : Option AV := (fillAV zero parts).map .agg
def litAV (sz : Nat) (zero : List AV) (parts : List (Nat × AV)) (own : Bool) (H : Heap) : Option (AV × Heap) :=
  (fillLit sz zero parts).bind fun es =>
    if own then some (.slice H.length 0 es.length, H ++ [.arr sz es])
    else if es.all (noRef deep) then some (.vslice es, H) else none
def nilCheckAV (v : AV) : Option AV :=
  match v with
  | .ptr b i o => some (.ptr b i o)
  | .vptr cs => some (.vptr cs)
  | .func (.func f) cap => some (.func (.func f) cap)
  | _ => none
def convAV (k : IntKind) (v : AV) : Option AV := v.asInt.map fun n => .int k (k.wrap n)
def mkSliceAV (sz bytes : Nat) (zero l c : AV) (H : Heap) : Option (AV × Heap) :=
  l.asNat.bind fun l => c.asNat.bind fun c =>
    if l ≤ c ∧ c * bytes ≤ 140737488355328 ∧ c ≤ 140737488355328 then some (.slice H.length 0 l, H ++ [.arr sz (List.replicate c zero)]) else none
def optV (a : Option AV) : Option (Option Nat) :=
  match a with
  | none => some none
  | some a => a.asNat.map some
def sliceStrAV (x : AV) (lo hi : Option AV) : Option AV :=
  (optV lo).bind fun lo => (optV hi).bind fun hi =>
    match x with
    | .str s =>
      let h := hi.getD s.length
      let l := lo.getD 0
      if l ≤ h ∧ h ≤ s.length then some (.str ((s.take h).drop l)) else none
    | _ => none
def sliceSlAV (H : Heap) (sz : Nat) (x : AV) (lo hi : Option AV) : Option AV := (optV lo).bind fun lo => (optV hi).bind fun hi => sliceAV H sz x lo hi
def fieldAddrAV (off : Nat) (x : AV) : Option AV :=
  match x with
  | .ptr b i o => some (.ptr b i (o + off))
  | .vptr cs => if off ≤ cs.length then some (.vptr (cs.drop off)) else none
  | _ => none
def fieldAV (off : Nat) (n : Option Nat) (x : AV) : Option AV :=
  match x with
  | .agg cs => pickAV n cs off
  | _ => none
def indexV (H : Heap) (sz : Nat) (x i : AV) : Option AV := i.asInt.bind fun n => indexAddrAV H sz x n
def indexStrAV (x i : AV) : Option AV :=
  match x with
  | .str s => i.asInt.bind fun n => (idx n s.length).bind fun j => (s[j]?).map fun c => .int .u8 c.toNat
  | _ => none
def mapUpdateAV (H : Heap) (ek : EK) (m k x : AV) : Option Heap :=
  match m with
  | .map b =>
    match H[b]? with
    | some (.map ks vs) => if keyOk ek k then (setKey ek k x ks vs).map fun r => H.set b (.map r.1 r.2) else none
    | _ => none
  | _ => none
def appendX (H : Heap) (sz bytes : Nat) (x y : AV) : Option (AV × Heap) := (elems H y).bind fun ys => appendAV H sz bytes x ys
def copyX (H : Heap) (sz : Nat) (x y : AV) : Option (AV × Heap) := (elems H y).bind fun ys => copyAV H sz x ys
def extractAV (x : AV) (i : Nat) : Option AV :=
  match x with
  | .tuple vs => vs[i]?
  | _ => none
def newMapAV (H : Heap) : Option (AV × Heap) := some (.map H.length, H ++ [.map [] []])
def lenX (H : Heap) (ek : EK) (x : AV) : Option AV := (lenAV H ek x).map fun n => .int .i64 n
def pickX (c a b : AV) : Option AV :=
  match c with
  | .bool t => some (if t then a else b)
  | _ => none

section
variable (X : Prog) (C : Oracle) {α : Type}

noncomputable def callK (fn : AV) (args : List AV) (H : Heap) (K : AV → Heap → Option α) : Option α :=
  match fn with
  | .func (.func f) cap =>
    match X.mode f with
    | .pure => (pureCall X C f (args ++ cap) H).bind fun v => K v H
    | .shared => (C f (args ++ cap) H).bind fun r => K r.1 r.2
    | .cut => (cutCall C f (args ++ cap) H).bind fun r => K r.1 r.2
    | .fresh => (freshCall C f (args ++ cap) H).bind fun r => K r.1 r.2
  | _ => none

noncomputable def xopK (op : XOp) (e : Env) (H : Heap) (K : AV → Heap → Option α) : Option α :=
  match op with
  | .mov x | .same x => K (x.ev e) H
  | .pick c a b => (pickX (c.ev e) (a.ev e) (b.ev e)).bind fun v => K v H
  | .box sz x => (boxAV sz (x.ev e) H).bind fun r => K r.1 r.2
  | .build zero parts => (buildAV zero (parts.map fun p => (p.1, p.2.1, p.2.2.ev e))).bind fun v => K v H
  | .lit sz zero parts own => (litAV sz zero (parts.map fun p => (p.1, p.2.ev e)) own H).bind fun r => K r.1 r.2
  | .load n a => (loadAV H n (a.ev e)).bind fun v => K v H
  | .store n a x => (storeAV H n (a.ev e) (x.ev e)).bind fun H => K (.tuple []) H
  | .nilCheck x => (nilCheckAV (x.ev e)).bind fun v => K v H
  | .bin op ek x y => (binAV H op ek (x.ev e) (y.ev e)).bind fun v => K v H
  | .un op x => (unAV op (x.ev e)).bind fun v => K v H
  | .convInt k x => (convAV k (x.ev e)).bind fun v => K v H
  | .mkIface t x => K (.iface t (x.ev e)) H
  | .mkFunc fn cap => K (.func fn (cap.map (Arg.ev e))) H
  | .mkMap => (newMapAV H).bind fun r => K r.1 r.2
  | .mkSlice sz bytes zero len cap => (mkSliceAV sz bytes zero (len.ev e) (cap.ev e) H).bind fun r => K r.1 r.2
  | .sliceStr x lo hi => (sliceStrAV (x.ev e) (lo.map (Arg.ev e)) (hi.map (Arg.ev e))).bind fun v => K v H
  | .sliceSl sz x lo hi => (sliceSlAV H sz (x.ev e) (lo.map (Arg.ev e)) (hi.map (Arg.ev e))).bind fun v => K v H
  | .fieldAddr off x => (fieldAddrAV off (x.ev e)).bind fun v => K v H
  | .field off n x => (fieldAV off n (x.ev e)).bind fun v => K v H
  | .indexAddr sz x i => (indexV H sz (x.ev e) (i.ev e)).bind fun v => K v H
  | .indexStr x i => (indexStrAV (x.ev e) (i.ev e)).bind fun v => K v H
  | .lookup ek zero ok m k => (lookupAV H ek zero ok (m.ev e) (k.ev e)).bind fun v => K v H
  | .mapUpdate ek m k x => (mapUpdateAV H ek (m.ev e) (k.ev e) (x.ev e)).bind fun H => K (.tuple []) H
  | .len ek x => (lenX H ek (x.ev e)).bind fun v => K v H
  | .append sz bytes x y => (appendX H sz bytes (x.ev e) (y.ev e)).bind fun r => K r.1 r.2
  | .copy sz x y => (copyX H sz (x.ev e) (y.ev e)).bind fun r => K r.1 r.2
  | .clear sz zero x => (clearAV H sz zero (x.ev e)).bind fun H => K (.tuple []) H
  | .mm mx xs => (mmAV mx (xs.map (Arg.ev e))).bind fun v => K v H
  | .extract x i => (extractAV (x.ev e) i).bind fun v => K v H
  | .call f args => callK X C (f.ev e) (args.map (Arg.ev e)) H K
  | .pcall f args => (pcallAV X C (f.ev e) (args.map (Arg.ev e)) H).bind fun v => K v H
  | .fail => none

theorem callK_eq (fn : AV) (args : List AV) (H : Heap) (K : AV → Heap → Option α) : (callAV X C fn args H).bind (fun r => K r.1 r.2) = callK X C fn args H K := by
  unfold callAV callK
  cases fn with
  | func fn cap =>
    cases fn with
    | func f => simp only; cases X.mode f <;> simp [Option.map_eq_bind, Option.bind_assoc]
    | _ => rfl
  | _ => rfl

theorem optArg_eq (e : Env) (a : Option Arg) : optArg e a = optV (a.map (Arg.ev e)) := by cases a <;> rfl

theorem xopK_eq (op : XOp) (e : Env) (H : Heap) (K : AV → Heap → Option α) : (xop X C op e H).bind (fun r => K r.1 r.2) = xopK X C op e H K := by
  cases op with
  | mov x => rfl
  | same x => rfl
  | pick c a b => simp only [xop, xopK, pickX]; cases c.ev e <;> rfl
  | box sz x => rfl
  | build z ps => simp [xop, xopK, buildAV, Option.map_eq_bind, Option.bind_assoc]
  | lit sz z ps own => rfl
  | load n a => simp [xop, xopK, Option.map_eq_bind, Option.bind_assoc]
  | store n a x => simp [xop, xopK, Option.map_eq_bind, Option.bind_assoc]
  | nilCheck x => 
    simp only [xop, xopK, nilCheckAV]
    cases x.ev e with
    | func fn cap => cases fn <;> rfl
    | _ => rfl
  | bin op ek x y => simp [xop, xopK, Option.map_eq_bind, Option.bind_assoc]
  | un op x => simp [xop, xopK, Option.map_eq_bind, Option.bind_assoc]
  | convInt k x => simp [xop, xopK, convAV, Option.map_eq_bind, Option.bind_assoc]
  | mkIface t x => rfl
  | mkFunc fn cap => rfl
  | mkMap => rfl
  | mkSlice sz b z l c => rfl
  | sliceStr x lo hi =>
    simp only [xop, xopK, sliceStrAV, optArg_eq, Option.bind_assoc]
    congr 1; funext lo; congr 1; funext hi
    cases x.ev e <;> try rfl
    simp only
    split <;> rfl
  | sliceSl sz x lo hi => simp [xop, xopK, sliceSlAV, optArg_eq, Option.map_eq_bind, Option.bind_assoc]
  | fieldAddr off x =>
    simp only [xop, xopK, fieldAddrAV]
    cases x.ev e <;> try rfl
    simp only
    split <;> rfl
  | field off n x =>
    simp only [xop, xopK, fieldAV]
    cases x.ev e <;> try rfl
    simp [Option.map_eq_bind, Option.bind_assoc]
  | indexAddr sz x i => simp [xop, xopK, indexV, Option.map_eq_bind, Option.bind_assoc]
  | indexStr x i =>
    simp only [xop, xopK, indexStrAV]
    cases x.ev e <;> try rfl
    simp [Option.map_eq_bind, Option.bind_assoc]
  | lookup ek z ok m k => simp [xop, xopK, Option.map_eq_bind, Option.bind_assoc]
  | mapUpdate ek m k x =>
    simp only [xop, xopK, mapUpdateAV]
    cases m.ev e <;> try rfl
    rename_i b
    simp only
    cases H[b]? with
    | none => rfl
    | some k =>
      cases k with
      | map ks vs => simp only; split <;> simp [Option.map_eq_bind, Option.bind_assoc]
      | _ => rfl
  | len ek x => simp [xop, xopK, lenX, Option.map_eq_bind, Option.bind_assoc]
  | append sz b x y => rfl
  | copy sz x y => rfl
  | clear sz z x => simp [xop, xopK, Option.map_eq_bind, Option.bind_assoc]
  | mm mx xs => simp [xop, xopK, Option.map_eq_bind, Option.bind_assoc]
  | extract x i =>
    simp only [xop, xopK, extractAV]
    cases x.ev e <;> try rfl
    simp [Option.map_eq_bind, Option.bind_assoc]
  | call f args => exact callK_eq X C _ _ _ K
  | pcall f args => simp [xop, xopK, Option.map_eq_bind, Option.bind_assoc]
  | fail => rfl

/-- A guard that may be open: both ways, each with the guard's value written out. -/
def gK (v : AV) (A B S : Option α) : Option α :=
  match v with
  | .bool true => A
  | .bool false => B
  | .tuple [] => S
  | _ => none

noncomputable def opersK : List XOper → Env → Heap → (Env → Heap → Option α) → Option α
  | [], e, H, K => K e H
  | o :: os, e, H, K =>
    match o.guard with
    | none => xopK X C o.op e H fun v H => opersK os (putDst e o.dst v) H K
    | some (t, w) => gK (e t)
      (if w then xopK X C o.op (e.set t (.bool true)) H fun v H => opersK os (putDst (e.set t (.bool true)) o.dst v) H K else opersK os (putDst (e.set t (.bool true)) o.dst (.tuple [])) H K)
      (if w then opersK os (putDst (e.set t (.bool false)) o.dst (.tuple [])) H K else xopK X C o.op (e.set t (.bool false)) H fun v H => opersK os (putDst (e.set t (.bool false)) o.dst v) H K)
      (opersK os (putDst e o.dst (.tuple [])) H K)

theorem set_self {e : Env} {t : Nat} {v : AV} (h : e t = v) : e.set t v = e := by
  funext x
  unfold Env.set
  cases hx : Nat.beq x t with
  | false => rfl
  | true => rw [Nat.eq_of_beq_eq_true hx, h]; rfl

theorem opersK_eq : ∀ (ops : List XOper) (e : Env) (H : Heap) (K : Env → Heap → Option α), (opers X C ops e H).bind (fun r => K r.1 r.2) = opersK X C ops e H K
  | [], e, H, K => rfl
  | o :: os, e, H, K => by
    have run : ((xop X C o.op e H).map fun r => (putDst e o.dst r.1, r.2)).bind (fun r => (opers X C os r.1 r.2).bind fun r => K r.1 r.2) = xopK X C o.op e H fun v H => opersK X C os (putDst e o.dst v) H K := by
      rw [← xopK_eq, Option.map_eq_bind, Option.bind_assoc]
      congr 1
      funext r
      exact opersK_eq os _ _ K
    simp only [opers, opersK, oper, Option.bind_assoc]
    cases hg : o.guard with
    | none =>
      simp only [wanted, Option.bind_some, if_true]
      exact run
    | some g =>
      obtain ⟨t, w⟩ := g
      simp only [wanted]
      cases ht : e t with
      | bool b =>
        cases b <;> cases w <;> simp only [gK, set_self ht, Option.bind_some, beq_self_eq_true, if_true, if_false, Bool.false_eq_true, Bool.true_beq, Bool.false_beq, Bool.not_true, Bool.not_false] <;> first | exact run | exact opersK_eq os _ _ K
      | tuple vs =>
        cases vs with
        | nil => simp only [gK, Option.bind_some, Bool.false_eq_true, if_false]; exact opersK_eq os _ _ K
        | cons => rfl
      | _ => rfl

/-- Loops are left by these ways alone. -/
def exitsOf : XCode → List Nat
  | .seq a b => exitsOf a ++ exitsOf b
  | .cond _ a b => exitsOf a ++ exitsOf b
  | .block id b => (exitsOf b).filter fun i => !Nat.beq i id
  | .loop b => exitsOf b
  | .exit i => [i]
  | _ => []

def envOf : List Nat → Env → Env
  | [], _ => fun _ => .undef
  | s :: l, e => fun t => bif Nat.beq t s then e s else envOf l e t

theorem envOf_eq (l : List Nat) (e : Env) : envOf l e = keepEnv l e := by
  funext t
  unfold keepEnv
  induction l with
  | nil => rfl
  | cons s l ih =>
    simp only [envOf, List.any_cons, Bool.or_eq_true]
    cases h : Nat.beq t s with
    | true => simp [Nat.eq_of_beq_eq_true h]
    | false => simp only [cond_false, Bool.false_eq_true, false_or]; rw [ih]

def onlyK : List Nat → (Nat → Env → Heap → Option α) → Nat → Env → Heap → Option α
  | [], _, _, _, _ => none
  | i :: l, K, j, e, H => bif Nat.beq j i then K i e H else onlyK l K j e H

def chkK (l : List (AV × AV)) (K : Option α) : Option α := if l.all (fun c => differ c.1 c.2) then K else none
def condK (v : AV) (A B : Option α) : Option α :=
  match v with
  | .bool t => if t then A else B
  | _ => none

def distinctIds : List Nat → List Nat
  | [] => []
  | i :: l => i :: (distinctIds l).filter fun j => !Nat.beq j i

/-- A loop, with what comes after it. -/
noncomputable def loopK (b : XCode) (e : Env) (H : Heap) (kx : Nat → Env → Heap → Option α) (kr : Env → Heap → Option α) : Option α :=
  (Li (code X C Li b) e H).bind fun r => match r.1 with | .normal => none | .exit i => kx i r.2.1 r.2.2 | .ret => kr r.2.1 r.2.2

noncomputable def evK : XCode → Env → Heap → (Env → Heap → Option α) → (Nat → Env → Heap → Option α) → (Env → Heap → Option α) → Option α
  | .skip, e, H, kn, _, _ => kn e H
  | .region ops chk, e, H, kn, _, _ => opersK X C ops e H fun e H => match chk with | [] => kn e H | chk => chkK (chk.map fun c => (c.1.ev e, c.2.ev e)) (kn e H)
  | .seq a b, e, H, kn, kx, kr => evK a e H (fun e H => evK b e H kn kx kr) kx kr
  | .cond c a b, e, H, kn, kx, kr => condK (c.ev e) (evK a e H kn kx kr) (evK b e H kn kx kr)
  | .block id b, e, H, kn, kx, kr => evK b e H kn (fun i e H => bif Nat.beq i id then kn e H else kx i e H) kr
  | .loop b, e, H, _, kx, kr => loopK X C b e H (onlyK (distinctIds (exitsOf b)) kx) kr
  | .keep l, e, H, kn, _, _ => kn (envOf l e) H
  | .exit id, e, H, _, kx, _ => kx id e H
  | .ret, e, H, _, _, kr => kr e H
  | .fail, _, _, _, _, _ => none

theorem distinctIds_mem (l : List Nat) {i : Nat} (h : i ∈ l) : i ∈ distinctIds l := by
  induction l with
  | nil => cases h
  | cons j l ih =>
    simp only [distinctIds, List.mem_cons, List.mem_filter]
    rcases List.mem_cons.1 h with rfl | h
    · exact .inl rfl
    · cases hb : Nat.beq i j with
      | true => exact .inl (Nat.eq_of_beq_eq_true hb)
      | false => exact .inr ⟨ih h, by simp [hb]⟩

theorem onlyK_mem (l : List Nat) (K : Nat → Env → Heap → Option α) {i : Nat} (h : i ∈ l) (e : Env) (H : Heap) : onlyK l K i e H = K i e H := by
  induction l with
  | nil => cases h
  | cons j l ih =>
    simp only [onlyK]
    cases hb : Nat.beq i j with
    | true => rw [Nat.eq_of_beq_eq_true hb]; rfl
    | false =>
      simp only [cond_false]
      refine ih ?_
      rcases List.mem_cons.1 h with rfl | h
      · simp at hb
      · exact h

variable {X C}
theorem exits_of : ∀ {c : XCode} {e : Env} {H : Heap} {i : Nat} {r : Env × Heap}, code X C Li c e H = some (.exit i, r) → i ∈ exitsOf c := by
  intro c
  induction c with
  | skip => intro e H i r h; simp [code] at h
  | region ops chk =>
    intro e H i r h
    simp only [code, Option.bind_eq_some_iff] at h
    obtain ⟨s, _, h⟩ := h
    split at h <;> cases h
  | seq a b iha ihb =>
    intro e H i r h
    simp only [code, Option.bind_eq_some_iff] at h
    obtain ⟨s, h1, h2⟩ := h
    obtain ⟨x, e', H'⟩ := s
    simp only [exitsOf, List.mem_append]
    cases x with
    | normal => exact .inr (ihb h2)
    | exit j => cases h2; exact .inl (iha h1)
    | ret => cases h2
  | cond c a b iha ihb =>
    intro e H i r h
    simp only [code] at h
    simp only [exitsOf, List.mem_append]
    split at h
    · split at h
      · exact .inl (iha h)
      · exact .inr (ihb h)
    · cases h
  | block id b ih =>
    intro e H i r h
    simp only [code, Option.bind_eq_some_iff] at h
    obtain ⟨s, h1, h2⟩ := h
    obtain ⟨x, e', H'⟩ := s
    cases x with
    | normal => cases h2
    | exit j =>
      simp only at h2
      split at h2
      · cases h2
      · rename_i hj
        cases h2
        simp only [exitsOf, List.mem_filter]
        exact ⟨ih h1, by cases hb : Nat.beq _ id <;> simp_all⟩
    | ret => cases h2
  | loop b ih =>
    intro e H i r h
    obtain ⟨n, hn⟩ := Li_some.1 h
    clear h
    induction n generalizing e H with
    | zero => cases hn
    | succ n ihn =>
      unfold rounds at hn
      rw [Option.bind_eq_some_iff] at hn
      obtain ⟨s, h1, h2⟩ := hn
      obtain ⟨x, e', H'⟩ := s
      cases x with
      | normal => exact ihn h2
      | exit j => cases h2; exact ih h1
      | ret => cases h2
  | keep l => intro e H i r h; simp [code] at h
  | exit id => intro e H i r h; simp [code] at h; simp [exitsOf, h.1]
  | ret => intro e H i r h; simp [code] at h
  | fail => intro e H i r h; simp [code] at h

/-- Where a run's end goes. -/
def disp (kn : Env → Heap → Option α) (kx : Nat → Env → Heap → Option α) (kr : Env → Heap → Option α) (r : Ex × Env × Heap) : Option α :=
  match r.1 with
  | .normal => kn r.2.1 r.2.2
  | .exit i => kx i r.2.1 r.2.2
  | .ret => kr r.2.1 r.2.2

variable (X C)
theorem evK_eq : ∀ (c : XCode) (e : Env) (H : Heap) (kn : Env → Heap → Option α) (kx : Nat → Env → Heap → Option α) (kr : Env → Heap → Option α), (code X C Li c e H).bind (disp kn kx kr) = evK X C c e H kn kx kr := by
  intro c
  induction c with
  | skip => intro e H kn kx kr; rfl
  | region ops chk =>
    intro e H kn kx kr
    simp only [code, evK, Option.bind_assoc]
    rw [← opersK_eq]
    congr 1
    funext r
    cases chk with
    | nil => simp [disp]
    | cons c l =>
      have : (List.map (fun c => (c.1.ev r.1, c.2.ev r.1)) (c :: l)).all (fun c => differ c.1 c.2) = (c :: l).all (fun c => differ (c.1.ev r.1) (c.2.ev r.1)) := by rw [List.all_map]; rfl
      simp only [chkK, this]
      split <;> rfl
  | seq a b iha ihb =>
    intro e H kn kx kr
    simp only [code, evK, Option.bind_assoc]
    rw [← iha]
    congr 1
    funext r
    obtain ⟨x, e', H'⟩ := r
    cases x
    · exact ihb _ _ _ _ _
    · rfl
    · rfl
  | cond c a b iha ihb =>
    intro e H kn kx kr
    simp only [code, evK]
    cases c.ev e with
    | bool t =>
      cases t
      · exact ihb _ _ _ _ _
      · exact iha _ _ _ _ _
    | _ => rfl
  | block id b ih =>
    intro e H kn kx kr
    simp only [code, evK, Option.bind_assoc]
    rw [← ih]
    congr 1
    funext r
    obtain ⟨x, e', H'⟩ := r
    cases x with
    | normal => rfl
    | exit i =>
      simp only [disp]
      cases Nat.beq i id <;> rfl
    | ret => rfl
  | loop b ih =>
    intro e H kn kx kr
    simp only [code, evK, loopK]
    cases hr : Li (code X C Li b) e H with
    | none => rfl
    | some r =>
      obtain ⟨x, e', H'⟩ := r
      simp only [Option.bind_some]
      cases x with
      | normal =>
        exfalso
        obtain ⟨n, hn⟩ := Li_some.1 hr
        clear hr
        induction n generalizing e H with
        | zero => cases hn
        | succ n ihn =>
          unfold rounds at hn
          rw [Option.bind_eq_some_iff] at hn
          obtain ⟨s, h1, h2⟩ := hn
          obtain ⟨y, e2, H2⟩ := s
          cases y with
          | normal => exact ihn _ _ h2
          | exit j => cases h2
          | ret => cases h2
      | exit i =>
        have : i ∈ exitsOf b := exits_of (c := .loop b) hr
        simp only [disp]
        rw [onlyK_mem _ _ (distinctIds_mem _ this)]
      | ret => rfl
  | keep l => intro e H kn kx kr; simp only [code, evK, envOf_eq]; rfl
  | exit id => intro e H kn kx kr; rfl
  | ret => intro e H kn kx kr; rfl
  | fail => intro e H kn kx kr; rfl

/-- A loop goes round once more. -/
theorem loopK_eq (b : XCode) (e : Env) (H : Heap) (kx : Nat → Env → Heap → Option α) (kr : Env → Heap → Option α) :
    loopK X C b e H kx kr = evK X C b e H (fun e H => loopK X C b e H kx kr) kx kr := by
  rw [← evK_eq]
  unfold loopK
  rw [Li_eq, Option.bind_assoc]
  congr 1
  funext r
  obtain ⟨x, e', H'⟩ := r
  cases x <;> rfl

def resK : List XRes → Env → Heap → (List AV → Option α) → Option α
  | [], _, _, K => K []
  | .tmp t :: l, e, H, K => resK l e H fun vs => K (e t :: vs)
  | .cell t n :: l, e, H, K => (loadAV H n (e t)).bind fun v => resK l e H fun vs => K (v :: vs)

theorem resK_eq (l : List XRes) (e : Env) (H : Heap) (K : List AV → Option α) : (l.mapM (XRes.get e H)).bind K = resK l e H K := by
  induction l generalizing K with
  | nil => rfl
  | cons r l ih =>
    rw [List.mapM_cons]
    cases r with
    | tmp t =>
      simp only [XRes.get, resK, Option.bind_eq_bind, Option.bind_some, Option.pure_def, Option.bind_assoc]
      exact ih _
    | cell t n =>
      simp only [XRes.get, resK, Option.bind_eq_bind, Option.pure_def, Option.bind_assoc]
      congr 1; funext v
      exact ih _

def finK (l : List XRes) (e : Env) (H : Heap) : Option (AV × Heap) := resK l e H fun vs => some (match vs with | [v] => v | vs => .tuple vs, H)

theorem R_fn {X : Prog} {f : Nat} {fn : XFunc} {args : List AV} {H : Heap} (hf : X.fn f = some fn) (hl : args.length = fn.nparams) :
    R X f args H = evK X (R X) fn.code (env0 args) H (finK fn.results) (fun _ _ _ => none) (finK fn.results) := by
  rw [← evK_eq, R_eq, hf]
  simp only [Option.bind_some, hl, if_true]
  congr 1
  funext r
  have key : ∀ e H, (resultsOf fn.results e H).map (fun v => (v, H)) = finK fn.results e H := by
    intro e H
    unfold finK resultsOf
    rw [← resK_eq, Option.map_map, Option.map_eq_bind]
    rfl
  obtain ⟨x, e', H'⟩ := r
  cases x
  · exact key _ _
  · rfl
  · exact key _ _
end
end X
end Go.Proofs.YtplginnkececaaaGreatDoor

set_option linter.unusedSimpArgs false
set_option linter.unusedVariables false
namespace Go.Proofs.YtplginnkececaaaGreatDoor
open Go
namespace X

theorem Le.trans {α : Type} {x y z : Option α} (h : Le x y) (h' : Le y z) : Le x z := fun r hr => h' r (h r hr)
theorem Le.of_eq {α : Type} {x y : Option α} (h : x = y) : Le x y := h ▸ Le.refl _
theorem Le.none {α : Type} (x : Option α) : Le .none x := fun _ h => by cases h

def gB {α : Type} (v : AV) (A B : Option α) : Option α :=
  match v with
  | .bool b => bif b then A else B
  | _ => none

def memN : List Nat → Nat → Bool
  | [], _ => false
  | s :: l, t => bif Nat.beq t s then true else memN l t

/-- The registers that were left out, after one more is set. -/
def skDel (sk : List Nat) (d : Option Nat) : List Nat :=
  match d with
  | none => sk
  | some d => sk.filter fun s => !Nat.beq s d
def skAdd (sk : List Nat) (d : Option Nat) : List Nat :=
  match d with
  | none => sk
  | some d => d :: sk

section
variable (X : Prog) (C : Oracle) {α : Type}

noncomputable def opersS : List XOper → List Nat → Env → Heap → (Env → Heap → Option α) → Option α
  | [], _, e, H, K => K e H
  | o :: os, sk, e, H, K =>
    match o.guard with
    | none => xopK X C o.op e H fun v H => opersS os (skDel sk o.dst) (putDst e o.dst v) H K
    | some (t, w) => bif memN sk t then opersS os (skAdd sk o.dst) (putDst e o.dst (.tuple [])) H K else gB (e t)
      (bif w then xopK X C o.op (e.set t (.bool true)) H fun v H => opersS os (skDel sk o.dst) (putDst (e.set t (.bool true)) o.dst v) H K else opersS os (skAdd sk o.dst) (putDst (e.set t (.bool true)) o.dst (.tuple [])) H K)
      (bif w then opersS os (skAdd sk o.dst) (putDst (e.set t (.bool false)) o.dst (.tuple [])) H K else xopK X C o.op (e.set t (.bool false)) H fun v H => opersS os (skDel sk o.dst) (putDst (e.set t (.bool false)) o.dst v) H K)

noncomputable def evS : XCode → Env → Heap → (Env → Heap → Option α) → (Nat → Env → Heap → Option α) → (Env → Heap → Option α) → Option α
  | .skip, e, H, kn, _, _ => kn e H
  | .region ops chk, e, H, kn, _, _ => opersS X C ops [] e H fun e H => match chk with | [] => kn e H | chk => chkK (chk.map fun c => (c.1.ev e, c.2.ev e)) (kn e H)
  | .seq a b, e, H, kn, kx, kr => evS a e H (fun e H => evS b e H kn kx kr) kx kr
  | .cond c a b, e, H, kn, kx, kr => condK (c.ev e) (evS a e H kn kx kr) (evS b e H kn kx kr)
  | .block id b, e, H, kn, kx, kr => evS b e H kn (fun i e H => bif Nat.beq i id then kn e H else kx i e H) kr
  | .loop b, e, H, _, kx, kr => loopK X C b e H (onlyK (distinctIds (exitsOf b)) kx) kr
  | .keep l, e, H, kn, _, _ => kn (envOf l e) H
  | .exit id, e, H, _, kx, _ => kx id e H
  | .ret, e, H, _, _, kr => kr e H
  | .fail, _, _, _, _, _ => none

variable {X C}

theorem xopK_mono (op : XOp) (e : Env) (H : Heap) {K K' : AV → Heap → Option α} (h : ∀ v H, Le (K v H) (K' v H)) : Le (xopK X C op e H K) (xopK X C op e H K') := by
  rw [← xopK_eq, ← xopK_eq]
  exact (Le.refl _).bind fun r => h _ _

theorem memN_mem {l : List Nat} {t : Nat} : memN l t = true ↔ t ∈ l := by
  induction l with
  | nil => simp [memN]
  | cons s l ih =>
    simp only [memN, List.mem_cons]
    cases hb : Nat.beq t s with
    | true => simp [Nat.eq_of_beq_eq_true hb]
    | false =>
      simp only [cond_false, ih]
      constructor
      · exact .inr
      · rintro (rfl | h)
        · simp at hb
        · exact h

theorem opersS_le : ∀ (ops : List XOper) (sk : List Nat) (e : Env) (H : Heap) {K K' : Env → Heap → Option α}, (∀ t ∈ sk, e t = .tuple []) → (∀ e H, Le (K e H) (K' e H)) → Le (opersS X C ops sk e H K) (opersK X C ops e H K')
  | [], sk, e, H, K, K', hs, h => h e H
  | o :: os, sk, e, H, K, K', hs, h => by
    have del : ∀ (e : Env) (v : AV), (∀ t ∈ sk, e t = .tuple []) → ∀ t ∈ skDel sk o.dst, putDst e o.dst v t = .tuple [] := by
      intro e v he t ht
      cases hd : o.dst with
      | none => rw [hd] at ht; exact he t ht
      | some d =>
        rw [hd] at ht
        simp only [skDel, List.mem_filter, Bool.not_eq_true', putDst, Env.set] at ht ⊢
        rw [ht.2]
        exact he t ht.1
    have add : ∀ (e : Env), (∀ t ∈ sk, e t = .tuple []) → ∀ t ∈ skAdd sk o.dst, putDst e o.dst (.tuple []) t = .tuple [] := by
      intro e he t ht
      cases hd : o.dst with
      | none => rw [hd] at ht; exact he t ht
      | some d =>
        rw [hd] at ht
        simp only [skAdd, List.mem_cons, putDst, Env.set] at ht ⊢
        cases hb : Nat.beq t d with
        | true => rfl
        | false =>
          simp only [Bool.false_eq_true, if_false]
          rcases ht with rfl | ht
          · simp at hb
          · exact he t ht
    unfold opersS opersK
    cases hg : o.guard with
    | none =>
      exact xopK_mono _ _ _ fun v H => opersS_le os _ _ _ (del e v hs) h
    | some g =>
      obtain ⟨t, w⟩ := g
      cases hm : memN sk t with
      | true =>
        simp only [hm, cond_true]
        rw [hs t (memN_mem.1 hm)]
        exact opersS_le os _ _ _ (add e hs) h
      | false =>
        simp only [hm, cond_false]
        cases ht : e t with
        | bool b =>
          have hs' : ∀ b, (∀ s ∈ sk, e.set t (.bool b) s = .tuple []) := by
            intro b s hsm
            unfold Env.set
            cases hb : Nat.beq s t with
            | true =>
              rw [Nat.eq_of_beq_eq_true hb] at hsm
              rw [memN_mem.2 hsm] at hm
              cases hm
            | false => exact hs s hsm
          cases b <;> cases w <;> simp only [gB, gK, cond_true, cond_false, if_true, if_false, Bool.false_eq_true]
          · exact xopK_mono _ _ _ fun v H => opersS_le os _ _ _ (del _ v (hs' _)) h
          · exact opersS_le os _ _ _ (add _ (hs' _)) h
          · exact opersS_le os _ _ _ (add _ (hs' _)) h
          · exact xopK_mono _ _ _ fun v H => opersS_le os _ _ _ (del _ v (hs' _)) h
        | _ => exact Le.none _

theorem onlyK_mono (l : List Nat) {K K' : Nat → Env → Heap → Option α} (h : ∀ i e H, Le (K i e H) (K' i e H)) (i : Nat) (e : Env) (H : Heap) : Le (onlyK l K i e H) (onlyK l K' i e H) := by
  induction l with
  | nil => exact Le.refl _
  | cons j l ih =>
    simp only [onlyK]
    cases Nat.beq i j
    · exact ih
    · exact h _ _ _

theorem loopK_mono (b : XCode) (e : Env) (H : Heap) {kx kx' : Nat → Env → Heap → Option α} {kr kr' : Env → Heap → Option α} (hx : ∀ i e H, Le (kx i e H) (kx' i e H)) (hr : ∀ e H, Le (kr e H) (kr' e H)) :
    Le (loopK X C b e H kx kr) (loopK X C b e H kx' kr') := by
  unfold loopK
  refine (Le.refl _).bind fun r => ?_
  obtain ⟨x, e', H'⟩ := r
  cases x
  · exact Le.refl _
  · exact hx _ _ _
  · exact hr _ _

theorem evS_le : ∀ (c : XCode) (e : Env) (H : Heap) {kn kn' : Env → Heap → Option α} {kx kx' : Nat → Env → Heap → Option α} {kr kr' : Env → Heap → Option α},
    (∀ e H, Le (kn e H) (kn' e H)) → (∀ i e H, Le (kx i e H) (kx' i e H)) → (∀ e H, Le (kr e H) (kr' e H)) → Le (evS X C c e H kn kx kr) (evK X C c e H kn' kx' kr') := by
  intro c
  induction c with
  | skip => intro e H _ _ _ _ _ _ hn _ _; exact hn _ _
  | region ops chk =>
    intro e H kn kn' kx kx' kr kr' hn _ _
    refine opersS_le _ _ _ _ (fun t ht => by cases ht) fun e H => ?_
    cases chk with
    | nil => exact hn _ _
    | cons c l =>
      simp only [chkK]
      split
      · exact hn _ _
      · exact Le.refl _
  | seq a b iha ihb => intro e H _ _ _ _ _ _ hn hx hr; exact iha _ _ (fun e H => ihb _ _ hn hx hr) hx hr
  | cond c a b iha ihb =>
    intro e H _ _ _ _ _ _ hn hx hr
    simp only [evS, evK, condK]
    split
    · split
      · exact iha _ _ hn hx hr
      · exact ihb _ _ hn hx hr
    · exact Le.refl _
  | block id b ih =>
    intro e H _ _ _ _ _ _ hn hx hr
    refine ih _ _ hn (fun i e H => ?_) hr
    cases Nat.beq i id
    · exact hx _ _ _
    · exact hn _ _
  | loop b ih => intro e H _ _ _ _ _ _ hn hx hr; exact loopK_mono _ _ _ (onlyK_mono _ hx) hr
  | keep l => intro e H _ _ _ _ _ _ hn _ _; exact hn _ _
  | exit id => intro e H _ _ _ _ _ _ _ hx _; exact hx _ _ _
  | ret => intro e H _ _ _ _ _ _ _ _ hr; exact hr _ _
  | fail => intro e H _ _ _ _ _ _ _ _ _; exact Le.refl _

theorem loopK_le (b : XCode) (e : Env) (H : Heap) (kx : Nat → Env → Heap → Option α) (kr : Env → Heap → Option α) :
    Le (evS X C b e H (fun e H => loopK X C b e H kx kr) kx kr) (loopK X C b e H kx kr) := by
  rw [loopK_eq]
  exact evS_le _ _ _ (fun _ _ => Le.refl _) (fun _ _ _ => Le.refl _) (fun _ _ => Le.refl _)

theorem R_le {X : Prog} {f : Nat} {fn : XFunc} {args : List AV} {H : Heap} (hf : X.fn f = some fn) (hl : args.length = fn.nparams) :
    Le (evS X (R X) fn.code (env0 args) H (finK fn.results) (fun _ _ _ => none) (finK fn.results)) (R X f args H) := by
  rw [R_fn hf hl]
  exact evS_le _ _ _ (fun _ _ => Le.refl _) (fun _ _ _ => Le.refl _) (fun _ _ => Le.refl _)

/-- A step through a function. -/
theorem R_step {X : Prog} {f : Nat} {fn : XFunc} {args : List AV} {H : Heap} {s : Option (AV × Heap)} (hf : X.fn f = some fn) (hl : args.length = fn.nparams)
    (h : evS X (R X) fn.code (env0 args) H (finK fn.results) (fun _ _ _ => none) (finK fn.results) = s) {r : AV × Heap} (hr : s = some r) : R X f args H = some r := R_le hf hl r (h.trans hr)

/-- A step through a loop. -/
theorem loop_step {b : XCode} {e : Env} {H : Heap} {kx : Nat → Env → Heap → Option α} {kr : Env → Heap → Option α} {s : Option α}
    (h : evS X C b e H (fun e H => loopK X C b e H kx kr) kx kr = s) {r : α} (hr : s = some r) : loopK X C b e H kx kr = some r := loopK_le b e H kx kr r (h.trans hr)

/-- Comes back, with an answer of which something holds. -/
def Yl (x : Option (AV × Heap)) (Q : AV → Heap → Prop) : Prop := ∃ v H, x = some (v, H) ∧ Q v H

theorem R_yl {X : Prog} {f : Nat} {fn : XFunc} {args : List AV} {H : Heap} {s : Option (AV × Heap)} {Q : AV → Heap → Prop} (hf : X.fn f = some fn) (hl : args.length = fn.nparams)
    (h : evS X (R X) fn.code (env0 args) H (finK fn.results) (fun _ _ _ => none) (finK fn.results) = s) (hr : Yl s Q) : Yl (R X f args H) Q := by
  obtain ⟨v, H', h1, h2⟩ := hr
  exact ⟨v, H', R_step hf hl h h1, h2⟩

theorem loop_yl {b : XCode} {e : Env} {H : Heap} {kx : Nat → Env → Heap → Option (AV × Heap)} {kr : Env → Heap → Option (AV × Heap)} {s : Option (AV × Heap)} {Q : AV → Heap → Prop}
    (h : evS X C b e H (fun e H => loopK X C b e H kx kr) kx kr = s) (hr : Yl s Q) : Yl (loopK X C b e H kx kr) Q := by
  obtain ⟨v, H', h1, h2⟩ := hr
  exact ⟨v, H', loop_step h h1, h2⟩
end
end X
end Go.Proofs.YtplginnkececaaaGreatDoor

set_option linter.unusedSimpArgs false
set_option linter.unusedVariables false
namespace Go.Proofs.YtplginnkececaaaGreatDoor
open Go
namespace X

theorem yl_some {v : AV} {H : Heap} {Q : AV → Heap → Prop} : Yl (some (v, H)) Q ↔ Q v H := by
  constructor
  · rintro ⟨v', H', h, hq⟩; cases h; exact hq
  · exact fun h => ⟨v, H, rfl, h⟩
theorem yl_none {Q : AV → Heap → Prop} : Yl none Q ↔ False := by
  constructor
  · rintro ⟨v', H', h, hq⟩; cases h
  · exact False.elim
theorem Yl.mono {x : Option (AV × Heap)} {Q Q' : AV → Heap → Prop} (h : Yl x Q) (hq : ∀ v H, Q v H → Q' v H) : Yl x Q' := by
  obtain ⟨v, H, h1, h2⟩ := h; exact ⟨v, H, h1, hq _ _ h2⟩
theorem Yl.bind {x : Option (AV × Heap)} {f : AV × Heap → Option (AV × Heap)} {Q Q' : AV → Heap → Prop} (h : Yl x Q') (hf : ∀ v H, Q' v H → Yl (f (v, H)) Q) : Yl (x.bind f) Q := by
  obtain ⟨v, H, h1, h2⟩ := h; rw [h1]; exact hf _ _ h2

theorem obind {α β : Type} (a : α) (f : α → Option β) : (some a).bind f = f a := (rfl)
theorem condK_bool {α : Type} (b : Bool) (A B : Option α) : condK (.bool b) A B = if b = true then A else B := (rfl)
theorem gB_bool {α : Type} (b : Bool) (A B : Option α) : gB (.bool b) A B = if b = true then A else B := by cases b <;> rfl

section ints
variable (H : Heap) (ek : EK) (k : IntKind) (a b : Int)
theorem bin_lss : binAV H .lss ek (.int k a) (.int k b) = some (.bool (decide (a < b))) := by simp [binAV, intBin]
theorem bin_leq : binAV H .leq ek (.int k a) (.int k b) = some (.bool (decide (a ≤ b))) := by simp [binAV, intBin]
theorem bin_gtr : binAV H .gtr ek (.int k a) (.int k b) = some (.bool (decide (b < a))) := by simp [binAV, intBin]
theorem bin_geq : binAV H .geq ek (.int k a) (.int k b) = some (.bool (decide (b ≤ a))) := by simp [binAV, intBin]
theorem bin_eql : binAV H .eql ek (.int k a) (.int k b) = some (.bool (decide (a = b))) := by
  simp only [binAV, intBin, if_true, Option.some.injEq, AV.bool.injEq]; exact rfl
theorem bin_neq : binAV H .neq ek (.int k a) (.int k b) = some (.bool (decide (a ≠ b))) := by
  simp only [binAV, intBin, if_true, Option.some.injEq, AV.bool.injEq, bne]
  cases hd : decide (a = b) <;> simp_all
theorem bin_add : binAV H .add ek (.int k a) (.int k b) = some (.int k (k.wrap (a + b))) := by simp [binAV, intBin]
theorem bin_sub : binAV H .sub ek (.int k a) (.int k b) = some (.int k (k.wrap (a - b))) := by simp [binAV, intBin]
theorem bin_mul : binAV H .mul ek (.int k a) (.int k b) = some (.int k (k.wrap (a * b))) := by simp [binAV, intBin]
theorem bin_rem (h : b ≠ 0) : binAV H .rem ek (.int k a) (.int k b) = some (.int k (a.tmod b)) := by simp [binAV, intBin, h]
theorem bin_quo (h : b ≠ 0) : binAV H .quo ek (.int k a) (.int k b) = some (.int k (k.wrap (a.tdiv b))) := by simp [binAV, intBin, h]
end ints

/-- A number of a machine's length stays as it is. -/
theorem wrap64 {n : Int} (h1 : -9223372036854775808 ≤ n) (h2 : n < 9223372036854775808) : IntKind.wrap .i64 n = n := by
  unfold IntKind.wrap
  simp [IntKind.signed, IntKind.bits]
  omega

theorem add64 (H : Heap) (ek : EK) {a b : Int} (h1 : -9223372036854775808 ≤ a + b) (h2 : a + b < 9223372036854775808) : binAV H .add ek (.int .i64 a) (.int .i64 b) = some (.int .i64 (a + b)) := by
  rw [bin_add, wrap64 h1 h2]
theorem sub64 (H : Heap) (ek : EK) {a b : Int} (h1 : -9223372036854775808 ≤ a - b) (h2 : a - b < 9223372036854775808) : binAV H .sub ek (.int .i64 a) (.int .i64 b) = some (.int .i64 (a - b)) := by
  rw [bin_sub, wrap64 h1 h2]
theorem mul64 (H : Heap) (ek : EK) {a b : Int} (h1 : -9223372036854775808 ≤ a * b) (h2 : a * b < 9223372036854775808) : binAV H .mul ek (.int .i64 a) (.int .i64 b) = some (.int .i64 (a * b)) := by
  rw [bin_mul, wrap64 h1 h2]

section strs
variable (H : Heap) (ek : EK) (s t : List UInt8)
theorem str_eql : binAV H .eql ek (.str s) (.str t) = some (.bool (decide (s = t))) := by
  simp only [binAV, strBin, Option.some.injEq, AV.bool.injEq]
  cases hd : decide (s = t) <;> simp_all
theorem str_neq : binAV H .neq ek (.str s) (.str t) = some (.bool (decide (s ≠ t))) := by
  simp only [binAV, strBin, Option.some.injEq, AV.bool.injEq]
  cases hd : decide (s = t) <;> simp_all
theorem str_lss : binAV H .lss ek (.str s) (.str t) = some (.bool (Op.bytesLess s t)) := by simp [binAV, strBin]
theorem str_leq : binAV H .leq ek (.str s) (.str t) = some (.bool (Op.bytesLess s t || s == t)) := by simp [binAV, strBin]
theorem str_gtr : binAV H .gtr ek (.str s) (.str t) = some (.bool (!(Op.bytesLess s t || s == t))) := by simp [binAV, strBin]
theorem str_geq : binAV H .geq ek (.str s) (.str t) = some (.bool (!Op.bytesLess s t)) := by simp [binAV, strBin]
end strs

theorem un_not (b : Bool) : unAV .not (.bool b) = some (.bool !b) := (rfl)
theorem ext0 (a : AV) (l : List AV) : extractAV (.tuple (a :: l)) 0 = some a := (rfl)
theorem ext1 (a b : AV) (l : List AV) : extractAV (.tuple (a :: b :: l)) 1 = some b := (rfl)
theorem ext2 (a b c : AV) (l : List AV) : extractAV (.tuple (a :: b :: c :: l)) 2 = some c := (rfl)
theorem nilc_ptr (b i o : Nat) : nilCheckAV (.ptr b i o) = some (.ptr b i o) := (rfl)
theorem nilc_vptr (cs : List AV) : nilCheckAV (.vptr cs) = some (.vptr cs) := (rfl)
theorem fa_ptr (off b i o : Nat) : fieldAddrAV off (.ptr b i o) = some (.ptr b i (o + off)) := (rfl)
theorem fa_vptr0 (cs : List AV) : fieldAddrAV 0 (.vptr cs) = some (.vptr cs) := by simp [fieldAddrAV]
theorem fa_vptr {off : Nat} {cs : List AV} (h : off ≤ cs.length) : fieldAddrAV off (.vptr cs) = some (.vptr (cs.drop off)) := by simp [fieldAddrAV, h]
theorem load_vptr (H : Heap) (c : AV) (cs : List AV) : loadAV H none (.vptr (c :: cs)) = some c := (rfl)
theorem load_vptrs (H : Heap) {n : Nat} {cs : List AV} (h : n ≤ cs.length) : loadAV H (some n) (.vptr cs) = some (.agg (cs.take n)) := by simp [loadAV, pickAV, h]
theorem load_ptr {H : Heap} {n : Option Nat} {b i o sz : Nat} {es : List AV} {e v : AV} (hb : H[b]? = some (.arr sz es)) (hi : es[i]? = some e) (hp : pickAV n e.cells o = some v) : loadAV H n (.ptr b i o) = some v := by
  simp [loadAV, hb, hi, hp]
theorem store_ptr {H : Heap} {n b i o sz : Nat} {es : List AV} {e x : AV} (hb : H[b]? = some (.arr sz es)) (hi : es[i]? = some e) (h1 : x.cells.length = n) (h2 : x.cells.all AV.storable = true) (h3 : o + n ≤ e.cells.length) (h4 : e.cells.length = sz) :
    storeAV H n (.ptr b i o) x = some (H.set b (.arr sz (es.set i (e.setCells o x.cells)))) := by
  simp [storeAV, hb, hi, h1, h2, h4]; omega

theorem len_vslice (H : Heap) (es : List AV) : lenX H .slice (.vslice es) = some (.int .i64 es.length) := (rfl)
theorem len_slice (H : Heap) (b o n : Nat) : lenX H .slice (.slice b o n) = some (.int .i64 n) := (rfl)
theorem len_nil (H : Heap) : lenX H .slice .nilslice = some (.int .i64 0) := (rfl)
theorem len_str (H : Heap) (s : List UInt8) : lenX H (.one .str) (.str s) = some (.int .i64 s.length) := (rfl)

theorem idx_nat {n len : Nat} (h : n < len) : idx (n : Int) len = some n := by simp [idx]; omega
theorem index_vslice {H : Heap} {sz : Nat} {es : List AV} {k : IntKind} {n : Nat} {e : AV} (h : es[n]? = some e) (hc : e.cells.length = sz) : indexV H sz (.vslice es) (.int k (n : Int)) = some (.vptr e.cells) := by
  have hn : n < es.length := (List.getElem?_eq_some_iff.1 h).1
  simp [indexV, AV.asInt, indexAddrAV, idx_nat hn, h, hc]
theorem index_slice {H : Heap} {sz b o len n : Nat} {es : List AV} {k : IntKind} (hb : H[b]? = some (.arr sz es)) (h : n < len) : indexV H sz (.slice b o len) (.int k (n : Int)) = some (.ptr b (o + n) 0) := by
  simp [indexV, AV.asInt, indexAddrAV, idx_nat h, hb]
theorem index_str {s : List UInt8} {k : IntKind} {n : Nat} {c : UInt8} (h : s[n]? = some c) : indexStrAV (.str s) (.int k (n : Int)) = some (.int .u8 c.toNat) := by
  have hn : n < s.length := (List.getElem?_eq_some_iff.1 h).1
  simp [indexStrAV, AV.asInt, idx_nat hn, h]
theorem app_get {α : Type} (H l : List α) (k : Nat) : (H ++ l)[H.length + k]? = l[k]? := by rw [List.getElem?_append_right (by omega)]; congr 1; omega
theorem app_get0 {α : Type} (H : List α) (x : α) (l : List α) : (H ++ x :: l)[H.length]? = some x := by rw [List.getElem?_append_right (by omega)]; simp
theorem app_set0 {α : Type} (H : List α) (x y : α) (l : List α) : (H ++ x :: l).set H.length y = H ++ y :: l := by rw [List.set_append_right _ _ (by omega)]; simp
theorem app_old {α : Type} {H : List α} {b : Nat} {x : α} (l : List α) (h : H[b]? = some x) : (H ++ l)[b]? = some x := by
  rw [List.getElem?_append_left (List.getElem?_eq_some_iff.1 h).1]; exact h
theorem set_other {α : Type} {H : List α} {b c : Nat} {x : α} (y : α) (hne : b ≠ c) (h : H[b]? = some x) : (H.set c y)[b]? = some x := by
  rw [List.getElem?_set_ne (Ne.symm hne)]; exact h
theorem set_same {α : Type} {H : List α} {b : Nat} {x : α} (y : α) (h : H[b]? = some x) : (H.set b y)[b]? = some y := by
  rw [List.getElem?_set_self (List.getElem?_eq_some_iff.1 h).1]

theorem slice_vs_to {H : Heap} {sz : Nat} {es : List AV} {k : IntKind} {n : Nat} (h : n ≤ es.length) : sliceSlAV H sz (.vslice es) none (some (.int k (n : Int))) = some (.vslice (es.take n)) := by
  simp [sliceSlAV, optV, AV.asNat, natArg, sliceAV, h]
theorem slice_vs_from {H : Heap} {sz : Nat} {es : List AV} {k : IntKind} {n : Nat} (h : n ≤ es.length) (hs : ∀ e ∈ es, e.cells.length = sz) : sliceSlAV H sz (.vslice es) (some (.int k (n : Int))) none = some (.vslice (es.drop n)) := by
  have : (es.all fun e => e.cells.length == sz) = true := List.all_eq_true.2 fun e he => by simp [hs e he]
  simp [sliceSlAV, optV, AV.asNat, natArg, sliceAV, h]
  exact fun _ => hs
theorem slice_sl_to {H : Heap} {sz b o len : Nat} {es : List AV} {k : IntKind} {n : Nat} (hb : H[b]? = some (.arr sz es)) (h : o + n ≤ es.length) : sliceSlAV H sz (.slice b o len) none (some (.int k (n : Int))) = some (.slice b o n) := by
  simp [sliceSlAV, optV, AV.asNat, natArg, sliceAV, hb, h]
theorem box_ok {H : Heap} {sz : Nat} {v : AV} (h1 : v.cells.length = sz) (h2 : v.cells.all AV.storable = true) : boxAV sz v H = some (.ptr H.length 0 0, H ++ [.arr sz [v]]) := by simp [boxAV, h1]; simpa using h2
theorem store_box {H : Heap} {sz : Nat} {zs cs : List AV} {l : List Blk} (h0 : zs.length = sz) (h1 : cs.length = sz) (h2 : cs.all AV.storable = true) : storeAV (H ++ .arr sz [.agg zs] :: l) sz (.ptr H.length 0 0) (.agg cs) = some (H ++ .arr sz [.agg cs] :: l) := by
  rw [store_ptr (x := .agg cs) (app_get0 H _ l) (i := 0) (e := .agg zs) rfl h1 h2 (by simp [AV.cells, h0]) h0, app_set0]
  simp [AV.setCells, AV.cells, h0, h1]
theorem load_box (H : Heap) (sz : Nat) (cs : List AV) (l : List Blk) (o : Nat) : loadAV (H ++ .arr sz [.agg cs] :: l) none (.ptr H.length 0 o) = cs[o]? := by
  simp [loadAV, pickAV, AV.cells, app_get0]
theorem load_box1 (H : Heap) (sz : Nat) (v : AV) (l : List Blk) (h : v.cells = [v]) : loadAV (H ++ .arr sz [v] :: l) none (.ptr H.length 0 0) = some v := by
  simp [loadAV, pickAV, h, app_get0]
theorem load_boxs (H : Heap) (sz n : Nat) (cs : List AV) (l : List Blk) (h : n = cs.length) : loadAV (H ++ .arr sz [.agg cs] :: l) (some n) (.ptr H.length 0 0) = some (.agg cs) := by
  subst h; simp [loadAV, pickAV, AV.cells, app_get0]
theorem pred64 (H : Heap) (ek : EK) {n : Nat} (h1 : 1 ≤ n) (h : n < 1000000000000) : binAV H .sub ek (.int .i64 (n : Int)) (.int .i64 1) = some (.int .i64 ((n - 1 : Nat) : Int)) := by
  rw [sub64 _ _ (by omega) (by omega), show ((n : Int) - 1) = ((n - 1 : Nat) : Int) by omega]
theorem get0 {α : Type} (a : α) (l : List α) : (a :: l)[0]? = some a := (rfl)
theorem get1 {α : Type} (a b : α) (l : List α) : (a :: b :: l)[1]? = some b := (rfl)
theorem get2 {α : Type} (a b c : α) (l : List α) : (a :: b :: c :: l)[2]? = some c := (rfl)
theorem get3 {α : Type} (a b c d : α) (l : List α) : (a :: b :: c :: d :: l)[3]? = some d := (rfl)
theorem mapM_id {α : Type} {f : α → Option α} : ∀ {l : List α}, (∀ a ∈ l, f a = some a) → l.mapM f = some l
  | [], _ => rfl
  | a :: l, h => by
    rw [List.mapM_cons, h a (by simp), mapM_id fun b hb => h b (by simp [hb])]
    rfl
theorem elems_vslice (H : Heap) (es : List AV) : elems H (.vslice es) = some es := (rfl)

/-! ### calls -/

/-- What a call may hand over as it is: nothing in it lies in the heap. -/
def Fz (v : AV) : Prop := (∀ H, snap H deep v = some v) ∧ noRef deep v = true

theorem fz_int (k : IntKind) (n : Int) : Fz (.int k n) := ⟨fun _ => rfl, rfl⟩
theorem fz_str (s : List UInt8) : Fz (.str s) := ⟨fun _ => rfl, rfl⟩
theorem fz_bool (b : Bool) : Fz (.bool b) := ⟨fun _ => rfl, rfl⟩
theorem fz_vslice (es : List AV) : Fz (.vslice es) := ⟨fun _ => rfl, rfl⟩
theorem fz_vptr (es : List AV) : Fz (.vptr es) := ⟨fun _ => rfl, rfl⟩
theorem fz_vmap (ks vs : List AV) : Fz (.vmap ks vs) := ⟨fun _ => rfl, rfl⟩

theorem mapM_fz {H : Heap} : ∀ {args : List AV}, (∀ a ∈ args, Fz a) → args.mapM (snap H deep) = some args
  | [], _ => rfl
  | a :: l, h => by
    rw [List.mapM_cons, (h a (by simp)).1 H, mapM_fz fun b hb => h b (by simp [hb])]
    rfl

theorem pure_fz {X : Prog} {f : Nat} {args : List AV} {H : Heap} {v : AV} (hf : ∀ a ∈ args, Fz a) (hp : X.prim f args = none) (hy : Yl (R X f args []) fun v' H' => snap H' deep v' = some v) :
    pureCall X (R X) f args H = some v := by
  obtain ⟨v', H', h1, h2⟩ := hy
  have hn : args.all (noRef deep) = true := List.all_eq_true.2 fun a ha => (hf a ha).2
  simp only [pureCall, mapM_fz hf, Option.bind_some, hp, h1, hn, Bool.true_or, if_true, h2]

theorem pure_snap {X : Prog} {f : Nat} {args bs : List AV} {H : Heap} {v : AV} (hs : args.mapM (snap H deep) = some bs) (hp : X.prim f bs = none) (hy : Yl (R X f bs []) fun v' H' => snap H' deep v' = some v ∧ ownOnly H' deep v' = true) :
    pureCall X (R X) f args H = some v := by
  obtain ⟨v', H', h1, h2, h3⟩ := hy
  simp only [pureCall, hs, Option.bind_some, hp, h1, h3, Bool.or_true, if_true, h2]

theorem pure_sn {X : Prog} {f : Nat} {args bs : List AV} {H : Heap} {v : AV} (hs : args.mapM (snap H deep) = some bs) (hn : args.all (noRef deep) = true) (hp : X.prim f bs = none) (hy : Yl (R X f bs []) fun v' H' => snap H' deep v' = some v) :
    pureCall X (R X) f args H = some v := by
  obtain ⟨v', H', h1, h2⟩ := hy
  simp only [pureCall, hs, Option.bind_some, hp, h1, hn, Bool.true_or, if_true, h2]

theorem callK_pure {α : Type} {X : Prog} {C : Oracle} {f : Nat} {cap args : List AV} {H : Heap} {K : AV → Heap → Option α} (hm : X.mode f = .pure) :
    callK X C (.func (.func f) cap) args H K = (pureCall X C f (args ++ cap) H).bind fun v => K v H := by simp only [callK, hm]

theorem pure_prim {X : Prog} {f : Nat} {args : List AV} {H : Heap} {v : AV} (hf : ∀ a ∈ args, Fz a) (hp : X.prim f args = some v) : pureCall X (R X) f args H = some v := by
  have hn : args.all (noRef deep) = true := List.all_eq_true.2 fun a ha => (hf a ha).2
  simp only [pureCall, mapM_fz hf, Option.bind_some, hp, hn, if_true]

/-- A closed call, by running it. -/
theorem yl_run {X : Prog} {k f : Nat} {args : List AV} {H : Heap} {v : AV} {Q : AV → Heap → Prop} (h : ((run X k f args H).bind fun r => snap r.2 deep r.1) = some v) (hq : ∀ v' H', snap H' deep v' = some v → Q v' H') : Yl (R X f args H) Q := by
  rw [Option.bind_eq_some_iff] at h
  obtain ⟨r, h1, h2⟩ := h
  exact ⟨r.1, r.2, R_some.2 ⟨k, h1⟩, hq _ _ h2⟩

/-- The rules for steps, all in one. -/
theorem SS : (type_of% @obind) ∧ (type_of% @condK_bool) ∧ (type_of% @gB_bool) ∧ (type_of% @bin_lss) ∧ (type_of% @bin_leq) ∧ (type_of% @bin_gtr) ∧ (type_of% @bin_geq) ∧ (type_of% @bin_eql) ∧ (type_of% @bin_neq) ∧ (type_of% @str_eql) ∧ (type_of% @str_neq) ∧ (type_of% @un_not) ∧ (type_of% @ext0) ∧ (type_of% @ext1) ∧ (type_of% @ext2) ∧ (type_of% @nilc_ptr) ∧ (type_of% @nilc_vptr) ∧ (type_of% @fa_ptr) ∧ (type_of% @fa_vptr0) ∧ (type_of% @load_vptr) ∧ (type_of% @len_vslice) ∧ (type_of% @len_slice) ∧ (type_of% @len_nil) ∧ (type_of% @len_str) ∧ (type_of% @load_box) ∧ (type_of% @get0) ∧ (type_of% @get1) ∧ (type_of% @get2) ∧ (type_of% @get3) ∧ (type_of% @yl_some) ∧ (type_of% @decide_eq_true_eq) ∧ (type_of% @Bool.false_eq_true) ∧ (type_of% @Bool.not_true) ∧ (type_of% @Bool.not_false) ∧ (type_of% @Bool.not_eq_true) ∧ (type_of% @Bool.not_eq_true') ∧ (type_of% @decide_eq_false_iff_not) ∧ (type_of% @Bool.true_eq_false) ∧ (type_of% @Nat.zero_add) ∧ (type_of% @Nat.add_zero) ∧ (type_of% @if_true.{1}) ∧ (type_of% @if_false.{1}) ∧ (type_of% @eq_self.{1}) :=
  ⟨@obind, @condK_bool, @gB_bool, @bin_lss, @bin_leq, @bin_gtr, @bin_geq, @bin_eql, @bin_neq, @str_eql, @str_neq, @un_not, @ext0, @ext1, @ext2, @nilc_ptr, @nilc_vptr, @fa_ptr, @fa_vptr0, @load_vptr, @len_vslice, @len_slice, @len_nil, @len_str, @load_box, @get0, @get1, @get2, @get3, @yl_some, @decide_eq_true_eq, @Bool.false_eq_true, @Bool.not_true, @Bool.not_false, @Bool.not_eq_true, @Bool.not_eq_true', @decide_eq_false_iff_not, @Bool.true_eq_false, @Nat.zero_add, @Nat.add_zero, @if_true.{1}, @if_false.{1}, @eq_self.{1}⟩
end X
end Go.Proofs.YtplginnkececaaaGreatDoor
