/- Functions with loops over maps: from how their pieces are gone through to what is known of their calls. No condition. -/
import Derived.Test.YtkaigfcjejabfaaGreatDoorXMR
import Derived.Test.YtkaigfcjejabfaaGreatDoorXN
set_option linter.unusedSimpArgs false
set_option linter.unusedVariables false
namespace Go.Proofs.YtkaigfcjejabfaaGreatDoor
open Go
namespace X

def seqL : Code → Code | .seq a _ => a | c => c
def seqR : Code → Code | .seq _ b => b | c => c
def rOps : Code → Array Oper | .region _ ops _ => ops | _ => #[]
def rId : Code → Nat | .region id _ _ => id | _ => 0
def blkIn : Code → Code | .block _ b => b | c => c
def loopIn : Code → Code | .loop b => b | c => c

def seqAll : List XCode → XCode
  | [] => .skip
  | [x] => x
  | x :: xs => .seq x (seqAll xs)

section
variable {P : Program} {G : Nat → Option AV} {X : Prog}

/-- What comes after a normal end. -/
def onNormal (K : Env → Heap → Prop) (T : Ex → Env → Heap → Prop) : Ex → Env → Heap → Prop
  | .normal, e, H => K e H
  | x, e, H => T x e H

theorem fits_all {n : Nat} {ops : Array Oper} (h : ops.toList.all (operFits n ops) = true) : ∀ (i : Nat) (o : Oper), ops[i]? = some o → operFits n ops o = true := by
  intro i o ho
  refine List.all_eq_true.1 h o ?_
  exact List.mem_of_getElem? (by simpa using ho)

def SeqW (X : Prog) : List XCode → (Env → Heap → (Ex → Env → Heap → Prop) → Prop) → Env → Heap → (Ex → Env → Heap → Prop) → Prop
  | [], W => W
  | x :: xs, W => fun e H T => ∃ y e' H', code X (R X) Li x e H = some (y, e', H') ∧ match y with | .normal => SeqW X xs W e' H' T | y => T y e' H'

theorem SeqW_of {W : Env → Heap → (Ex → Env → Heap → Prop) → Prop} {T : Ex → Env → Heap → Prop} {r : XCode} : ∀ {xs : List XCode} {e : Env} {H : Heap} {e0 : Env} {H0 : Heap}, code X (R X) Li (seqAll (xs ++ [r])) e H = some (.normal, e0, H0) →
    (∀ e' H', code X (R X) Li r e' H' = some (.normal, e0, H0) → W e' H' T) → SeqW X xs W e H T
  | [], e, H, e0, H0, h, hw => hw e H h
  | x :: xs, e, H, e0, H0, h, hw => by
    have hs : seqAll (x :: xs ++ [r]) = .seq x (seqAll (xs ++ [r])) := by
      cases xs <;> rfl
    rw [hs] at h
    simp only [code, Option.bind_eq_some_iff] at h
    obtain ⟨⟨y, e1, H1⟩, h1, h2⟩ := h
    refine ⟨y, e1, H1, h1, ?_⟩
    cases y with
    | normal => exact SeqW_of h2 hw
    | exit i => cases h2
    | ret => cases h2

theorem SoundW.cons {n : Nat} {c a b : Code} {x : XCode} {xs : List XCode} {W : Env → Heap → (Ex → Env → Heap → Prop) → Prop} (hc : c = .seq a b) (ha : Sound P G n a (code X (R X) Li x)) (hb : SoundW P G n b (SeqW X xs W)) : SoundW P G n c (SeqW X (x :: xs) W) := by
  subst hc
  intro e H B σ μ ac w T Q hW hs hq
  refine ha.toW.seq hb e H B σ μ ac w T Q ?_ hs hq
  obtain ⟨y, e', H', h1, h2⟩ := hW
  exact ⟨y, e', H', h1, h2⟩

theorem SoundW.two {n : Nat} {c a b : Code} {x : XCode} {W : Env → Heap → (Ex → Env → Heap → Prop) → Prop} (hc : c = .seq a b) (ha : SoundW P G n a W) (hb : Sound P G n b (code X (R X) Li x)) :
    SoundW P G n c fun e H T => W e H (onNormal (fun e' H' => ∃ y e'' H'', code X (R X) Li x e' H' = some (y, e'', H'') ∧ T y e'' H'') T) := by
  subst hc
  intro e H B σ μ ac w T Q hW hs hq
  refine wp_seq (ha e H B σ μ ac w _ _ hW hs fun y e' H' a' w' hT hb' => ?_)
  cases y with
  | normal =>
    obtain ⟨σ', μ', k1, k2⟩ := hb'
    exact hb.toW e' H' B σ' μ' a' w' T Q hT k1 fun x e'' H'' a'' w'' hT' hb'' => hq _ _ _ _ _ hT' (Behind.trans k2 hb'')
  | exit i => exact hq _ _ _ _ _ hT hb'
  | ret => exact hq _ _ _ _ _ hT hb'

theorem code_of_evS {α : Type} {x : XCode} {e : Env} {H : Heap} {kn : Env → Heap → Option α} {kx : Nat → Env → Heap → Option α} {kr : Env → Heap → Option α} {z : α} (h : evS X (R X) x e H kn kx kr = some z) :
    ∃ y e' H', code X (R X) Li x e H = some (y, e', H') ∧ disp kn kx kr (y, e', H') = some z := by
  have := evS_le (X := X) (C := R X) x e H (fun e H => Le.refl (kn e H)) (fun i e H => Le.refl (kx i e H)) (fun e H => Le.refl (kr e H)) z h
  rw [← evK_eq, Option.bind_eq_some_iff] at this
  obtain ⟨⟨y, e', H'⟩, h1, h2⟩ := this
  exact ⟨y, e', H', h1, h2⟩

theorem pre_yl {x : XCode} {e : Env} {H : Heap} (rs : List Nat) {s : Option (AV × Heap)} {Q : AV → Heap → Prop} (hs : evS X (R X) x e H (fun e H => some (.tuple (rs.map e), H)) (fun _ _ _ => none) (fun _ _ => none) = s) (h : Yl s Q) :
    ∃ e0 H0, code X (R X) Li x e H = some (.normal, e0, H0) ∧ Q (.tuple (rs.map e0)) H0 := by
  obtain ⟨v, H', h1, h2⟩ := h
  obtain ⟨y, e0, H0, h3, h4⟩ := code_of_evS (hs.trans h1)
  cases y with
  | normal => simp only [disp, Option.some.injEq, Prod.mk.injEq] at h4; obtain ⟨rfl, rfl⟩ := h4; exact ⟨e0, H0, h3, h2⟩
  | exit i => cases h4
  | ret => cases h4

theorem body_yl {x : XCode} {e : Env} {H : Heap} (nxb : Nat) (rs : List Nat) {s : Option (AV × Heap)} {Q : AV → Heap → Prop}
    (hs : evS X (R X) x e H (fun e H => some (.tuple (rs.map e), H)) (fun i e H => bif Nat.beq i nxb then some (.tuple (rs.map e), H) else none) (fun _ _ => none) = s) (h : Yl s Q) :
    ∃ y e0 H0, code X (R X) Li x e H = some (y, e0, H0) ∧ (y = .normal ∨ y = .exit nxb) ∧ Q (.tuple (rs.map e0)) H0 := by
  obtain ⟨v, H', h1, h2⟩ := h
  obtain ⟨y, e0, H0, h3, h4⟩ := code_of_evS (hs.trans h1)
  cases y with
  | normal => simp only [disp, Option.some.injEq, Prod.mk.injEq] at h4; obtain ⟨rfl, rfl⟩ := h4; exact ⟨_, e0, H0, h3, .inl rfl, h2⟩
  | exit i =>
    simp only [disp] at h4
    cases hb : Nat.beq i nxb with
    | true =>
      rw [hb] at h4
      simp only [cond_true, Option.some.injEq, Prod.mk.injEq] at h4
      obtain ⟨rfl, rfl⟩ := h4
      exact ⟨_, e0, H0, h3, .inr (by rw [Nat.eq_of_beq_eq_true hb]), h2⟩
    | false => rw [hb] at h4; cases h4
  | ret => cases h4

theorem rest_yl {x : XCode} {e : Env} {H : Heap} (rs : List XRes) {s : Option (AV × Heap)} {Q : AV → Heap → Prop} (hs : evS X (R X) x e H (finK rs) (fun _ _ _ => none) (finK rs) = s) (h : Yl s Q) :
    ∃ y e0 H0, code X (R X) Li x e H = some (y, e0, H0) ∧ (y = .normal ∨ y = .ret) ∧ ∃ u, resultsOf rs e0 H0 = some u ∧ Q u H0 := by
  obtain ⟨v, H', h1, h2⟩ := h
  obtain ⟨y, e0, H0, h3, h4⟩ := code_of_evS (hs.trans h1)
  have key : ∀ e H, finK rs e H = (resultsOf rs e H).map (fun v => (v, H)) := by
    intro e H
    unfold finK resultsOf
    rw [← resK_eq, Option.map_map, Option.map_eq_bind]
    rfl
  have fin : finK rs e0 H0 = some (v, H') → ∃ u, resultsOf rs e0 H0 = some u ∧ Q u H0 := by
    intro hf
    rw [key, Option.map_eq_some_iff] at hf
    obtain ⟨u, h5, h6⟩ := hf
    cases h6
    exact ⟨_, h5, h2⟩
  cases y with
  | normal => exact ⟨_, e0, H0, h3, .inl rfl, fin h4⟩
  | exit i => cases h4
  | ret => exact ⟨_, e0, H0, h3, .inr rfl, fin h4⟩

/-- A function whose last loop goes over a map. -/
theorem pure_w {f n : Nat} {g : Func} {c : Code} {rs : List XRes} {xs : List XCode} {xs0 : List XOper} {x0 : Arg} {xb xB : XCode} {keep drop : List Nat} {nxb it pair : Nat} (hg : P.funcs[f]? = some g) (hb : g.body = some c) (hn : g.ntmps = n)
    (hW : SoundW P G n c (SeqW X xs fun e H T => RangeW X xs0 x0 xb keep nxb it pair drop e H (onNormal (fun e' H' => ∃ y e'' H'', code X (R X) Li xB e' H' = some (y, e'', H'') ∧ T y e'' H'') T)))
    (hname : (g.name == "runtime.NumGoroutine") = false) (hrs : g.results.toList.mapM (compResult P) = some rs) {args : List AV} (hna : args.length ≤ n) {v : AV} {e0 : Env} {H0 : Heap} {b : Nat} {ks vs : List AV}
    (hA : code X (R X) Li (seqAll (xs ++ [.region xs0 []])) (env0 args) [] = some (.normal, e0, H0)) (hm : x0.ev e0 = .map b) (hH : H0[b]? = some (.map ks vs)) (hl : ks.length = vs.length) (hk : ks.all (ownOnly [] deep) = true) (hv : vs.all (ownOnly [] deep) = true)
    (hF : FoldW X xb nxb it pair drop ks.length (ks.zip vs) (keepEnv keep (e0.set it (.iter H0.length))) (H0.set b .dead ++ [.dead]) fun e H =>
      ∃ y e'' H'', code X (R X) Li xB e H = some (y, e'', H'') ∧ (y = .normal ∨ y = .ret) ∧ ∃ u, resultsOf rs e'' H'' = some u ∧ snap H'' deep u = some v) : PureOK P G f args v := by
  subst hn
  refine func_w hg hb hW hname hrs hna ?_
  refine SeqW_of hA fun e' H' hr => ?_
  simp only [code, Option.bind_eq_some_iff, List.all_nil, if_true, Option.some.injEq, Prod.mk.injEq, true_and] at hr
  obtain ⟨r, h1, rfl, rfl⟩ := hr
  exact ⟨r.1, r.2, b, ks, vs, h1, hm, hH, hl, hk, hv, hF⟩
end
end X
end Go.Proofs.YtkaigfcjejabfaaGreatDoor
