/- Operations that may change places in the engine. The engine's regions are sound. The engine's code and functions are sound. No condition. -/
import Derived.Test.YtplginnkececaaaGreatDoorZXG
import Derived.LoopN
set_option linter.unusedSimpArgs false
set_option linter.unusedVariables false
namespace Go.Proofs.YtplginnkececaaaGreatDoor
open Go
namespace X

theorem mapM_mono {α β : Type} {f g : α → Option β} (h : ∀ a b, f a = some b → g a = some b) : ∀ {l : List α} {r : List β}, l.mapM f = some r → l.mapM g = some r
  | [], r, hr => by simpa using hr
  | a :: l, r, hr => by
    simp only [List.mapM_cons, Option.pure_def, Option.bind_eq_bind, Option.bind_eq_some_iff] at hr ⊢
    obtain ⟨b, hb, bs, hbs, hr⟩ := hr
    exact ⟨b, h a b hb, bs, mapM_mono h hbs, hr⟩

section
variable {H l : Heap} {X : Prog} {C : Oracle} {e e' : Env}

theorem get_mono {b : Nat} {k : Blk} (h : H[b]? = some k) : (H ++ l)[b]? = some k := by
  rw [List.getElem?_append_left (List.getElem?_eq_some_iff.1 h).1]; exact h

theorem snap_mono : ∀ {k : Nat} {v u : AV}, snap H k v = some u → snap (H ++ l) k v = some u := by
  intro k
  induction k with
  | zero => intro v u h; simp [snap] at h
  | succ k ih =>
    intro v u h
    cases v <;> simp only [snap] at h ⊢ <;> try exact h
    case ptr b i off =>
      split at h
      · rename_i hb
        rw [get_mono hb]
        simp only [Option.bind_eq_some_iff, Option.map_eq_some_iff] at h ⊢
        obtain ⟨e, he, r, hr, rfl⟩ := h
        exact ⟨e, he, r, mapM_mono (fun _ _ => ih) hr, rfl⟩
      · cases h
    case slice b off len =>
      split at h
      · rename_i hb
        rw [get_mono hb]
        simp only
        split at h
        · rename_i hl
          rw [if_pos hl]
          simp only [Option.map_eq_some_iff] at h ⊢
          obtain ⟨r, hr, rfl⟩ := h
          exact ⟨r, mapM_mono (fun _ _ => ih) hr, rfl⟩
        · cases h
      · cases h
    case map b =>
      split at h
      · rename_i hb
        rw [get_mono hb]
        simp only [Option.bind_eq_some_iff, Option.map_eq_some_iff] at h ⊢
        obtain ⟨ks, hk, vs, hv, rfl⟩ := h
        exact ⟨ks, mapM_mono (fun _ _ => ih) hk, vs, mapM_mono (fun _ _ => ih) hv, rfl⟩
      · cases h
    all_goals
      simp only [Option.map_eq_some_iff] at h ⊢
      obtain ⟨r, hr, rfl⟩ := h
      first
        | exact ⟨r, mapM_mono (fun _ _ => ih) hr, rfl⟩
        | exact ⟨r, ih hr, rfl⟩

theorem live_mono {b : Nat} (h : H.live b = true) : Heap.live (H ++ l) b = true := by
  unfold Heap.live at h ⊢
  split at h
  · rename_i hb; rw [get_mono hb]
  · cases h

theorem eqAV_mono {ek : EK} {x y : AV} {r : Bool} (h : eqAV H ek x y = some r) : eqAV (H ++ l) ek x y = some r := by
  cases ek with
  | ptr =>
    cases x <;> cases y <;> simp only [eqAV] at h ⊢ <;> try exact h
    split at h
    · rename_i h1; rw [if_pos h1]; exact h
    · rename_i h1
      rw [if_neg h1]
      split at h
      · rename_i h2
        rw [if_pos ⟨h2.1, h2.2.1, h2.2.2.1, h2.2.2.2.1, h2.2.2.2.2.1, live_mono h2.2.2.2.2.2.1, live_mono h2.2.2.2.2.2.2⟩]
        exact h
      · cases h
  | one f => cases f <;> exact h
  | _ => exact h

theorem binAV_mono {op : BinOp} {ek : EK} {x y v : AV} (h : binAV H op ek x y = some v) : binAV (H ++ l) op ek x y = some v := by
  unfold binAV at h ⊢
  split <;> first | (simp only at h; exact h) | skip
  rename_i h1 h2
  split at h <;> try cases h
  case h_1 => rename_i a b c d; exact absurd rfl (h1 _ _ _ _ · rfl)
  case h_2 => rename_i a b; exact absurd rfl (h2 _ _ · rfl)
  split <;> simp only at h <;> try cases h
  all_goals
    simp only [Option.map_eq_some_iff] at h ⊢
    obtain ⟨r, hr, rfl⟩ := h
    exact ⟨r, eqAV_mono hr, rfl⟩

theorem loadAV_mono {n : Option Nat} {a v : AV} (h : loadAV H n a = some v) : loadAV (H ++ l) n a = some v := by
  cases a <;> simp only [loadAV] at h ⊢ <;> try exact h
  split at h
  · rename_i hb; rw [get_mono hb]; exact h
  · cases h

theorem sliceAV_mono {sz : Nat} {x v : AV} {lo hi : Option Nat} (h : sliceAV H sz x lo hi = some v) : sliceAV (H ++ l) sz x lo hi = some v := by
  cases x <;> simp only [sliceAV] at h ⊢ <;> try exact h
  split at h
  · rename_i hb; rw [get_mono hb]; exact h
  · cases h

theorem indexAddrAV_mono {sz : Nat} {x v : AV} {n : Int} (h : indexAddrAV H sz x n = some v) : indexAddrAV (H ++ l) sz x n = some v := by
  cases x <;> simp only [indexAddrAV] at h ⊢ <;> try exact h
  rw [Option.bind_eq_some_iff] at h ⊢
  obtain ⟨i, hi, h⟩ := h
  refine ⟨i, hi, ?_⟩
  split at h
  · rename_i hb; rw [get_mono hb]; exact h
  · cases h

theorem lenAV_mono {ek : EK} {x : AV} {n : Nat} (h : lenAV H ek x = some n) : lenAV (H ++ l) ek x = some n := by
  unfold lenAV at h ⊢
  split <;> simp only at h ⊢ <;> try exact h
  split at h
  · rename_i hb; rw [get_mono hb]; exact h
  · cases h

theorem lookupAV_mono {ek : EK} {z : AV} {ok : Bool} {m k v : AV} (h : lookupAV H ek z ok m k = some v) : lookupAV (H ++ l) ek z ok m k = some v := by
  unfold lookupAV at h ⊢
  split at h
  · cases h
  · rename_i hk
    rw [if_neg hk]
    rw [Option.map_eq_some_iff] at h ⊢
    obtain ⟨r, hr, rfl⟩ := h
    refine ⟨r, ?_, rfl⟩
    cases m <;> simp only at hr ⊢ <;> try exact hr
    split at hr
    · rename_i hb; rw [get_mono hb]; exact hr
    · cases hr

theorem pureCall_mono {f : Nat} {args : List AV} {v : AV} (h : pureCall X C f args H = some v) : pureCall X C f args (H ++ l) = some v := by
  unfold pureCall at h ⊢
  rw [Option.bind_eq_some_iff] at h ⊢
  obtain ⟨as, ha, h⟩ := h
  exact ⟨as, mapM_mono (fun _ _ => snap_mono) ha, h⟩


theorem class_call {f : Arg} {as : List Arg} {c : Class} (h : (XOp.call f as).class X = c) (hc : c ≠ .write) : (c = .read ∧ ∃ g cap, f = .const (.func (.func g) cap) ∧ X.mode g = .pure) ∨ (c = .make ∧ ∃ g cap, f = .const (.func (.func g) cap) ∧ X.mode g = .fresh) := by
  unfold XOp.class at h
  split at h <;> try (first | (rename_i hh; cases hh; done) | (rename_i hh _; cases hh; done))
  all_goals first
    | (subst h; exact absurd rfl hc)
    | skip
  rename_i g cap as' heq
  cases heq
  split at h
  · rename_i hm
    exact .inl ⟨h.symm, g, cap, rfl, hm⟩
  · rename_i hm
    exact .inr ⟨h.symm, g, cap, rfl, hm⟩
  · subst h; exact absurd rfl hc

theorem class_lit {sz : Nat} {z : List AV} {ps : List (Nat × Arg)} {own : Bool} : (XOp.lit sz z ps own).class X = if own then .make else .none := by
  cases own <;> rfl

theorem class_bin {op : BinOp} {ek : EK} {x y : Arg} : (XOp.bin op ek x y).class X = if ek = .ptr then .read else .none := rfl
theorem class_len {ek : EK} {x : Arg} : (XOp.len ek x).class X = if ek = .map then .read else .none := rfl

theorem eqAV_any {K : Heap} {ek : EK} {x y : AV} (he : ek ≠ .ptr) : eqAV H ek x y = eqAV K ek x y := by
  cases ek with
  | ptr => exact (he rfl).elim
  | one f => cases f <;> rfl
  | _ => rfl

theorem binAV_any {K : Heap} {op : BinOp} {ek : EK} {x y : AV} (he : ek ≠ .ptr) : binAV H op ek x y = binAV K op ek x y := by
  have h : eqAV H ek = eqAV K ek := funext fun a => funext fun b => eqAV_any he
  unfold binAV
  rw [h]

theorem lenAV_any {K : Heap} {ek : EK} {x : AV} (he : ek ≠ .map) : lenAV H ek x = lenAV K ek x := by
  unfold lenAV
  split <;> first | rfl | (exact (he rfl).elim)

def ArrEq (H K : Heap) : Prop := ∀ (b sz : Nat) (es : List AV), H[b]? = some (Blk.arr sz es) → K[b]? = some (Blk.arr sz es)

theorem xop_look {op : XOp} {v : AV} {H' : Heap} (hc : op.class X = .look) (h : xop X C op e H = some (v, H')) : H' = H ∧ ∀ K, ArrEq H K → xop X C op e K = some (v, K) := by
  cases op
  case call f args => exact (class_call hc (by decide)).elim (fun h => absurd h.1 (by decide)) (fun h => absurd h.1 (by decide))
  case lit sz zero parts own => rw [class_lit] at hc; cases own <;> exact absurd hc (by decide)
  case bin op ek x y => rw [class_bin] at hc; split at hc <;> cases hc
  case len ek x => rw [class_len] at hc; split at hc <;> cases hc
  case load n a =>
    simp only [xop, Option.map_eq_some_iff, Prod.mk.injEq] at h
    obtain ⟨u, hu, rfl, rfl⟩ := h
    refine ⟨rfl, fun K hK => ?_⟩
    have : loadAV K n (a.ev e) = some u := by
      cases ha : a.ev e <;> rw [ha] at hu <;> simp only [loadAV] at hu ⊢ <;> try exact hu
      split at hu
      · rename_i hb; rw [hK _ _ _ hb]; exact hu
      · cases hu
    simp only [xop, this, Option.map_some]
  case sliceSl sz x lo hi =>
    simp only [xop, Option.bind_eq_some_iff, Option.map_eq_some_iff, Prod.mk.injEq] at h
    obtain ⟨lo', h1, hi', h2, u, hu, rfl, rfl⟩ := h
    refine ⟨rfl, fun K hK => ?_⟩
    have : sliceAV K sz (x.ev e) lo' hi' = some u := by
      cases ha : x.ev e <;> rw [ha] at hu <;> simp only [sliceAV] at hu ⊢ <;> try exact hu
      split at hu
      · rename_i hb; rw [hK _ _ _ hb]; exact hu
      · cases hu
    simp only [xop, h1, h2, Option.bind_some, this, Option.map_some]
  case indexAddr sz x i =>
    simp only [xop, Option.bind_eq_some_iff, Option.map_eq_some_iff, Prod.mk.injEq] at h
    obtain ⟨n, h1, u, hu, rfl, rfl⟩ := h
    refine ⟨rfl, fun K hK => ?_⟩
    have : indexAddrAV K sz (x.ev e) n = some u := by
      cases ha : x.ev e <;> rw [ha] at hu <;> simp only [indexAddrAV] at hu ⊢ <;> try exact hu
      rw [Option.bind_eq_some_iff] at hu ⊢
      obtain ⟨i, hi, hu⟩ := hu
      refine ⟨i, hi, ?_⟩
      split at hu
      · rename_i hb; rw [hK _ _ _ hb]; exact hu
      · cases hu
    simp only [xop, h1, Option.bind_some, this, Option.map_some]
  all_goals exact absurd hc (by simp [XOp.class])

theorem pcallAV_mono {fn : AV} {args : List AV} {v : AV} (h : pcallAV X C fn args H = some v) : pcallAV X C fn args (H ++ l) = some v := by
  unfold pcallAV at h ⊢
  split at h
  · split at h
    · exact pureCall_mono h
    · cases h
  · cases h

theorem xop_read {op : XOp} {v : AV} {H' : Heap} (hc : op.class X = .read) (h : xop X C op e H = some (v, H')) : H' = H ∧ ∀ l, xop X C op e (H ++ l) = some (v, H ++ l) := by
  cases op
  case call f args =>
    obtain ⟨-, g, cap, rfl, hm⟩ := (class_call hc (by decide)).resolve_right (fun h => absurd h.1 (by decide))
    simp only [xop, Arg.ev, callAV, hm, Option.map_eq_some_iff, Prod.mk.injEq] at h
    obtain ⟨u, hu, rfl, rfl⟩ := h
    exact ⟨rfl, fun l => by simp only [xop, Arg.ev, callAV, hm]; rw [pureCall_mono hu]; rfl⟩
  case lit sz zero parts own => rw [class_lit] at hc; cases own <;> exact absurd hc (by decide)
  case bin op ek x y =>
    simp only [xop, Option.map_eq_some_iff, Prod.mk.injEq] at h
    obtain ⟨u, hu, rfl, rfl⟩ := h
    exact ⟨rfl, fun l => by simp only [xop]; rw [binAV_mono hu]; rfl⟩
  case lookup ek zero ok m k =>
    simp only [xop, Option.map_eq_some_iff, Prod.mk.injEq] at h
    obtain ⟨u, hu, rfl, rfl⟩ := h
    exact ⟨rfl, fun l => by simp only [xop]; rw [lookupAV_mono hu]; rfl⟩
  case pcall f args =>
    simp only [xop, Option.map_eq_some_iff, Prod.mk.injEq] at h
    obtain ⟨u, hu, rfl, rfl⟩ := h
    exact ⟨rfl, fun l => by simp only [xop]; rw [pcallAV_mono hu]; rfl⟩
  case len ek x =>
    simp only [xop] at h
    cases hl : lenAV H ek (x.ev e) with
    | none => rw [hl] at h; cases h
    | some n =>
      rw [hl] at h
      cases h
      exact ⟨rfl, fun l => by simp only [xop]; rw [lenAV_mono hl]; rfl⟩
  all_goals exact absurd hc (by simp [XOp.class])

theorem xop_mapWrite {op : XOp} {v : AV} {H' : Heap} (hc : op.class X = .mapWrite) (h : xop X C op e H = some (v, H')) : ArrEq H H' ∧ ArrEq H' H := by
  cases op
  case call f args => exact (class_call hc (by decide)).elim (fun h => absurd h.1 (by decide)) (fun h => absurd h.1 (by decide))
  case lit sz zero parts own => rw [class_lit] at hc; cases own <;> exact absurd hc (by decide)
  case bin op ek x y => rw [class_bin] at hc; split at hc <;> cases hc
  case len ek x => rw [class_len] at hc; split at hc <;> cases hc
  case mapUpdate ek m k x =>
    simp only [xop] at h
    split at h
    · rename_i b hb
      split at h
      · rename_i ks vs hks
        split at h
        · rw [Option.map_eq_some_iff] at h
          obtain ⟨r, hr, h⟩ := h
          cases h
          constructor
          · intro c sz es hcc
            rw [List.getElem?_set]
            split
            · rename_i hbc; subst hbc; rw [hks] at hcc; cases hcc
            · exact hcc
          · intro c sz es hcc
            rw [List.getElem?_set] at hcc
            split at hcc
            · split at hcc <;> cases hcc
            · exact hcc
        · cases h
      · cases h
    · cases h
  all_goals exact absurd hc (by simp [XOp.class])

theorem arrEq_append {l : Heap} : ArrEq H (H ++ l) := fun _ _ _ h => get_mono h

theorem xop_make {op : XOp} {v : AV} {H' : Heap} (hc : op.class X = .make) (h : xop X C op e H = some (v, H')) : ∃ l, H' = H ++ l := by
  cases op
  case box sz x =>
    simp only [xop] at h
    split at h
    · simp only [Option.some.injEq, Prod.mk.injEq] at h; exact ⟨_, h.2.symm⟩
    · cases h
  case lit sz zero parts own =>
    rw [class_lit] at hc
    cases own
    · exact absurd hc (by decide)
    · simp only [xop, Option.bind_eq_some_iff] at h
      obtain ⟨es, _, h⟩ := h
      simp only [if_true, Option.some.injEq, Prod.mk.injEq] at h; exact ⟨_, h.2.symm⟩
  case mkMap => simp only [xop, Option.some.injEq, Prod.mk.injEq] at h; exact ⟨_, h.2.symm⟩
  case mkSlice sz bytes zero len cap =>
    simp only [xop, Option.bind_eq_some_iff] at h
    obtain ⟨a, _, b, _, h⟩ := h
    split at h
    · simp only [Option.some.injEq, Prod.mk.injEq] at h; exact ⟨_, h.2.symm⟩
    · cases h
  case call f args =>
    obtain ⟨-, g, cap, rfl, hm⟩ := (class_call hc (by decide)).resolve_left (fun h => absurd h.1 (by decide))
    simp only [xop, Arg.ev, callAV, hm, freshCall, Option.bind_eq_some_iff] at h
    obtain ⟨as, _, q, _, h⟩ := h
    split at h
    · simp only [Option.some.injEq, Prod.mk.injEq] at h; exact ⟨_, h.2.symm⟩
    · cases h
  case bin op ek x y => rw [class_bin] at hc; split at hc <;> cases hc
  case len ek x => rw [class_len] at hc; split at hc <;> cases hc
  all_goals exact absurd hc (by simp [XOp.class])

theorem xop_none {op : XOp} {v : AV} {H' : Heap} (hc : op.class X = .none) (h : xop X C op e H = some (v, H')) : H' = H ∧ ∀ K, xop X C op e K = some (v, K) := by
  cases op
  case call f args => exact (class_call hc (by decide)).elim (fun h => absurd h.1 (by decide)) (fun h => absurd h.1 (by decide))
  case lit sz zero parts own =>
    rw [class_lit] at hc
    cases own
    · simp only [xop, Option.bind_eq_some_iff, Bool.false_eq_true, if_false] at h
      obtain ⟨es, h1, h⟩ := h
      split at h
      · rename_i h2
        simp only [Option.some.injEq, Prod.mk.injEq] at h
        obtain ⟨rfl, rfl⟩ := h
        exact ⟨rfl, fun K => by simp only [xop, h1, Option.bind_some, Bool.false_eq_true, if_false]; rw [if_pos h2]⟩
      · cases h
    · exact absurd hc (by decide)
  case bin op ek x y =>
    rw [class_bin] at hc
    split at hc
    · cases hc
    · rename_i hek
      simp only [xop, Option.map_eq_some_iff, Prod.mk.injEq] at h
      obtain ⟨u, hu, rfl, rfl⟩ := h
      exact ⟨rfl, fun K => by simp only [xop]; rw [binAV_any (K := H) hek, hu]; rfl⟩
  case len ek x =>
    rw [class_len] at hc
    split at hc
    · cases hc
    · rename_i hek
      simp only [xop] at h
      cases hl : lenAV H ek (x.ev e) with
      | none => rw [hl] at h; cases h
      | some n =>
        rw [hl] at h
        cases h
        exact ⟨rfl, fun K => by simp only [xop]; rw [lenAV_any (K := H) hek, hl]; rfl⟩
  all_goals first
    | (simp [XOp.class] at hc; done)
    | clear hc
  all_goals simp only [xop] at h ⊢
  all_goals first
    | (split at h <;> simp_all; done)
    | (simp only [Option.map_eq_some_iff, Option.bind_eq_some_iff, Prod.mk.injEq] at h ⊢; grind)
    | grind
    | (split at h <;> (try simp only [Option.map_eq_some_iff, Option.bind_eq_some_iff, Prod.mk.injEq] at h ⊢) <;> grind)

theorem ev_agree {op : XOp} (h : ∀ t ∈ op.args.flatMap Arg.tmps, e t = e' t) : ∀ x ∈ op.args, x.ev e = x.ev e' := by
  intro x hx
  cases x with
  | const v => rfl
  | tmp t => exact h t (List.mem_flatMap.2 ⟨_, hx, by simp [Arg.tmps]⟩)

theorem optArg_agree {x : Option Arg} (h : ∀ y ∈ x.toList, y.ev e = y.ev e') : optArg e x = optArg e' x := by
  cases x with
  | none => rfl
  | some y => simp only [optArg, h y (by simp)]

theorem xop_agree {op : XOp} (ht : ∀ t ∈ op.args.flatMap Arg.tmps, e t = e' t) : xop X C op e H = xop X C op e' H := by
  have h := ev_agree ht
  clear ht
  cases op <;> simp only [XOp.args, List.mem_cons, List.not_mem_nil, or_false, forall_eq, List.mem_map, forall_exists_index, and_imp, forall_apply_eq_imp_iff₂, forall_eq_or_imp, List.mem_append] at h
  case build zero parts =>
    simp only [xop]
    rw [List.map_congr_left (g := fun p => (p.1, p.2.1, p.2.2.ev e')) (fun p hp => by rw [h p hp])]
  case lit sz zero parts own =>
    simp only [xop]
    rw [List.map_congr_left (g := fun p => (p.1, p.2.ev e')) (fun p hp => by rw [h p hp])]
  case mkFunc fn cap =>
    simp only [xop]
    rw [List.map_congr_left h]
  case mm mx xs =>
    simp only [xop]
    rw [List.map_congr_left h]
  case call f args =>
    simp only [xop]
    rw [h.1, List.map_congr_left h.2]
  case pcall f args =>
    simp only [xop]
    rw [h.1, List.map_congr_left h.2]
  case sliceStr x lo hi =>
    simp only [xop]
    rw [h.1, optArg_agree fun y hy => h.2 y (.inl hy), optArg_agree fun y hy => h.2 y (.inr hy)]
  case sliceSl sz x lo hi =>
    simp only [xop]
    rw [h.1, optArg_agree fun y hy => h.2 y (.inl hy), optArg_agree fun y hy => h.2 y (.inr hy)]
  all_goals
    simp only [xop]
    try simp only [h]

theorem wanted_agree {g : Option (Nat × Bool)} (h : ∀ t b, g = some (t, b) → e t = e' t) : wanted g e = wanted g e' := by
  unfold wanted
  split
  · rfl
  · rename_i t b
    rw [h t b rfl]

theorem put_other {d : Option Nat} {v : AV} {t : Nat} (h : d ≠ some t) : putDst e d v t = e t := by
  cases d with
  | none => rfl
  | some s =>
    have hb : Nat.beq t s = false := by
      cases hh : Nat.beq t s with
      | false => rfl
      | true => exact (h (by rw [Nat.eq_of_beq_eq_true hh])).elim
    simp [putDst, Env.set, hb]

theorem put_put {d d' : Option Nat} {v v' : AV} (h : ∀ t, d = some t → d' ≠ some t) : putDst (putDst e d v) d' v' = putDst (putDst e d' v') d v := by
  funext t
  by_cases h1 : d = some t
  · rw [put_other (h t h1)]
    subst h1
    simp [putDst, Env.set]
  · by_cases h2 : d' = some t
    · rw [put_other h1]
      subst h2
      simp [putDst, Env.set]
    · rw [put_other h1, put_other h2, put_other h2, put_other h1]

theorem looks_xop {x : XOper} {d : Option Nat} {v : AV} (h : ∀ t, d = some t → t ∉ x.looks) (H : Heap) : xop X C x.op (putDst e d v) H = xop X C x.op e H := by
  refine xop_agree fun t ht => put_other fun hd => h t hd ?_
  unfold XOper.looks
  exact List.mem_append_left _ ht

theorem looks_wanted {x : XOper} {d : Option Nat} {v : AV} (h : ∀ t, d = some t → t ∉ x.looks) : wanted x.guard (putDst e d v) = wanted x.guard e := by
  refine wanted_agree fun t b hg => put_other fun hd => h t hd ?_
  unfold XOper.looks
  rw [hg]
  simp

theorem apart_spec {x y : XOper} (h : apart x y = true) : (∀ t, x.dst = some t → t ∉ y.looks) ∧ (∀ t, x.dst = some t → y.dst ≠ some t) ∧ (∀ t, y.dst = some t → t ∉ x.looks) := by
  refine ⟨fun d hd => ?_, fun d hd => ?_, fun d hd => ?_⟩ <;> simp [apart, hd] at h
  · exact h.1.1
  · exact h.1.2
  · exact h.2

theorem oper_eq {o : XOper} {r : Env × Heap} : oper X C o e H = some r ↔ (wanted o.guard e = some true ∧ ∃ v H', xop X C o.op e H = some (v, H') ∧ r = (putDst e o.dst v, H')) ∨ (wanted o.guard e = some false ∧ r = (putDst e o.dst (.tuple []), H)) := by
  unfold oper
  rw [Option.bind_eq_some_iff]
  constructor
  · rintro ⟨b, hb, h⟩
    cases b
    · right
      simp at h
      exact ⟨hb, h.symm⟩
    · left
      simp only [if_true, Option.map_eq_some_iff] at h
      obtain ⟨u, hu, rfl⟩ := h
      exact ⟨hb, u.1, u.2, hu, rfl⟩
  · rintro (⟨hb, v, H', hx, rfl⟩ | ⟨hb, rfl⟩)
    · exact ⟨true, hb, by simp [hx]⟩
    · exact ⟨false, hb, by simp⟩

theorem oper_flip {x y : XOper} (hf : flips X x y = true) {r : Env × Heap} (h : (oper X C x e H).bind (fun r => oper X C y r.1 r.2) = some r) : (oper X C y e H).bind (fun r => oper X C x r.1 r.2) = some r := by
  simp only [flips, Bool.and_eq_true] at hf
  obtain ⟨ha, hc⟩ := hf
  obtain ⟨a1, a2, a3⟩ := apart_spec ha
  rw [Option.bind_eq_some_iff] at h ⊢
  obtain ⟨s, hx, hy⟩ := h
  rw [oper_eq] at hx hy
  have a2' : ∀ t, y.dst = some t → x.dst ≠ some t := fun t h1 h2 => a2 t h2 h1
  rcases hx with ⟨gx, v, H1, hx, rfl⟩ | ⟨gx, rfl⟩ <;> rcases hy with ⟨gy, u, H2, hy, rfl⟩ | ⟨gy, rfl⟩
  · rw [looks_wanted a1] at gy
    rw [looks_xop a1] at hy
    have key : ∃ K, xop X C y.op e H = some (u, K) ∧ xop X C x.op e K = some (v, H2) := by
      cases cy : y.op.class X with
      | none =>
        obtain ⟨rfl, hall⟩ := xop_none cy hy
        exact ⟨H, hall _, hx⟩
      | look =>
        obtain ⟨rfl, hall⟩ := xop_look cy hy
        cases cx : x.op.class X with
        | none => obtain ⟨rfl, h'⟩ := xop_none cx hx; exact ⟨_, hy, h' _⟩
        | look => obtain ⟨rfl, h'⟩ := xop_look cx hx; exact ⟨_, hy, hx⟩
        | read => obtain ⟨rfl, h'⟩ := xop_read cx hx; exact ⟨_, hy, hx⟩
        | mapWrite => exact ⟨_, hall _ (xop_mapWrite cx hx).2, hx⟩
        | _ => rw [cx, cy] at hc; cases hc
      | read =>
        obtain ⟨rfl, hall⟩ := xop_read cy hy
        cases cx : x.op.class X with
        | none => obtain ⟨rfl, h'⟩ := xop_none cx hx; exact ⟨_, hy, h' _⟩
        | look => obtain ⟨rfl, h'⟩ := xop_look cx hx; exact ⟨_, hy, hx⟩
        | read => obtain ⟨rfl, h'⟩ := xop_read cx hx; exact ⟨_, hy, hx⟩
        | _ => rw [cx, cy] at hc; cases hc
      | make =>
        obtain ⟨l, rfl⟩ := xop_make cy hy
        cases cx : x.op.class X with
        | none => obtain ⟨rfl, h'⟩ := xop_none cx hx; exact ⟨_, hy, h' _⟩
        | look => obtain ⟨rfl, h'⟩ := xop_look cx hx; exact ⟨_, hy, h' _ arrEq_append⟩
        | read => obtain ⟨rfl, h'⟩ := xop_read cx hx; exact ⟨_, hy, h' l⟩
        | _ => rw [cx, cy] at hc; cases hc
      | mapWrite =>
        cases cx : x.op.class X with
        | none => obtain ⟨rfl, h'⟩ := xop_none cx hx; exact ⟨_, hy, h' _⟩
        | look => obtain ⟨rfl, h'⟩ := xop_look cx hx; exact ⟨_, hy, h' _ (xop_mapWrite cy hy).1⟩
        | _ => rw [cx, cy] at hc; cases hc
      | write =>
        cases cx : x.op.class X with
        | none => obtain ⟨rfl, h'⟩ := xop_none cx hx; exact ⟨_, hy, h' _⟩
        | _ => rw [cx, cy] at hc; cases hc
    obtain ⟨K, k1, k2⟩ := key
    refine ⟨(putDst e y.dst u, K), oper_eq.2 (.inl ⟨gy, u, K, k1, rfl⟩), oper_eq.2 (.inl ⟨by rw [looks_wanted a3]; exact gx, v, H2, by rw [looks_xop a3]; exact k2, ?_⟩)⟩
    rw [put_put a2]
  · rw [looks_wanted a1] at gy
    refine ⟨(putDst e y.dst (.tuple []), H), oper_eq.2 (.inr ⟨gy, rfl⟩), oper_eq.2 (.inl ⟨by rw [looks_wanted a3]; exact gx, v, H1, by rw [looks_xop a3]; exact hx, ?_⟩)⟩
    rw [put_put a2]
  · rw [looks_wanted a1] at gy
    rw [looks_xop a1] at hy
    refine ⟨(putDst e y.dst u, H2), oper_eq.2 (.inl ⟨gy, u, H2, hy, rfl⟩), oper_eq.2 (.inr ⟨by rw [looks_wanted a3]; exact gx, ?_⟩)⟩
    rw [put_put a2]
  · rw [looks_wanted a1] at gy
    refine ⟨(putDst e y.dst (.tuple []), H), oper_eq.2 (.inr ⟨gy, rfl⟩), oper_eq.2 (.inr ⟨by rw [looks_wanted a3]; exact gx, ?_⟩)⟩
    rw [put_put a2]

theorem look_frame {op : XOp} {v : AV} {H' K : Heap} {x : Arg} (hc : op.class X = .look) (ha : op.addr = some x) (h : xop X C op e H = some (v, H')) (hK : ∀ (c : Nat) (k : Blk), (x.ev e).blockOf = some c → H[c]? = some k → K[c]? = some k) :
    H' = H ∧ xop X C op e K = some (v, K) := by
  cases op
  case call f args => exact (class_call hc (by decide)).elim (fun h => absurd h.1 (by decide)) (fun h => absurd h.1 (by decide))
  case lit sz zero parts own => rw [class_lit] at hc; cases own <;> exact absurd hc (by decide)
  case bin op ek x y => rw [class_bin] at hc; split at hc <;> cases hc
  case len ek x => rw [class_len] at hc; split at hc <;> cases hc
  case load n a =>
    simp only [XOp.addr, Option.some.injEq] at ha
    subst ha
    simp only [xop, Option.map_eq_some_iff, Prod.mk.injEq] at h
    obtain ⟨u, hu, rfl, rfl⟩ := h
    refine ⟨rfl, ?_⟩
    have : loadAV K n (a.ev e) = some u := by
      cases ha : a.ev e <;> rw [ha] at hu hK <;> simp only [loadAV] at hu ⊢ <;> try exact hu
      split at hu
      · rename_i hb; rw [hK _ _ rfl hb]; exact hu
      · cases hu
    simp only [xop, this, Option.map_some]
  case sliceSl sz x lo hi =>
    simp only [XOp.addr, Option.some.injEq] at ha
    subst ha
    simp only [xop, Option.bind_eq_some_iff, Option.map_eq_some_iff, Prod.mk.injEq] at h
    obtain ⟨lo', h1, hi', h2, u, hu, rfl, rfl⟩ := h
    refine ⟨rfl, ?_⟩
    have : sliceAV K sz (x.ev e) lo' hi' = some u := by
      cases ha : x.ev e <;> rw [ha] at hu hK <;> simp only [sliceAV] at hu ⊢ <;> try exact hu
      split at hu
      · rename_i hb; rw [hK _ _ rfl hb]; exact hu
      · cases hu
    simp only [xop, h1, h2, Option.bind_some, this, Option.map_some]
  case indexAddr sz x i =>
    simp only [XOp.addr, Option.some.injEq] at ha
    subst ha
    simp only [xop, Option.bind_eq_some_iff, Option.map_eq_some_iff, Prod.mk.injEq] at h
    obtain ⟨n, h1, u, hu, rfl, rfl⟩ := h
    refine ⟨rfl, ?_⟩
    have : indexAddrAV K sz (x.ev e) n = some u := by
      cases ha : x.ev e <;> rw [ha] at hu hK <;> simp only [indexAddrAV] at hu ⊢ <;> try exact hu
      rw [Option.bind_eq_some_iff] at hu ⊢
      obtain ⟨i, hi, hu⟩ := hu
      refine ⟨i, hi, ?_⟩
      split at hu
      · rename_i hb; rw [hK _ _ rfl hb]; exact hu
      · cases hu
    simp only [xop, h1, Option.bind_some, this, Option.map_some]
  all_goals exact absurd hc (by simp [XOp.class])

theorem write_frame {op : XOp} {v : AV} {H' : Heap} {x : Arg} (hw : op.writes X = true) (ha : op.addr = some x) (h : xop X C op e H = some (v, H')) {c : Nat} {k : Blk} (hne : (x.ev e).blockOf ≠ some c) (hk : H[c]? = some k) : H'[c]? = some k := by
  have hset : ∀ (b : Nat) (k' : Blk), b ≠ c → (H.set b k')[c]? = some k := by
    intro b k' hb
    rw [List.getElem?_set_ne hb]; exact hk
  cases op
  case store n a y =>
    simp only [XOp.addr, Option.some.injEq] at ha
    subst ha
    simp only [xop, Option.map_eq_some_iff, Prod.mk.injEq] at h
    obtain ⟨u, hu, rfl, rfl⟩ := h
    cases hv : a.ev e <;> rw [hv] at hu hne <;> simp only [storeAV] at hu <;> try cases hu
    rename_i b i off
    have hb : b ≠ c := fun h => hne (by simp [AV.blockOf, h])
    split at hu
    · rw [Option.bind_eq_some_iff] at hu
      obtain ⟨e0, _, hu⟩ := hu
      split at hu
      · cases hu; exact hset _ _ hb
      · cases hu
    · cases hu
  case append sz bytes s y =>
    simp only [XOp.addr, Option.some.injEq] at ha
    subst ha
    simp only [xop, Option.bind_eq_some_iff] at h
    obtain ⟨ys, _, h⟩ := h
    unfold appendAV at h
    split at h
    · cases h
    · split at h
      · split at h
        · cases h; exact hk
        · split at h
          · cases h; exact get_mono hk
          · cases h
      · rename_i b off len hv
        have hb : b ≠ c := fun h => hne (by rw [hv]; simp [AV.blockOf, h])
        split at h
        · cases h; exact hk
        · split at h
          · split at h
            · cases h
            · split at h
              · split at h
                · cases h; exact get_mono (hset _ _ hb)
                · cases h
              · split at h
                · cases h; exact hset _ _ hb
                · cases h
          · cases h
      · cases h
  case call f as =>
    match f, as, ha with
    | .const (.func (.func f) []), y :: as, ha =>
      simp only [XOp.addr, Option.some.injEq] at ha
      subst ha
      simp only [XOp.writes, decide_eq_true_eq] at hw
      simp only [xop, Arg.ev, callAV, hw, cutCall, List.map_cons, List.append_nil, List.head?_cons, Option.bind_some, Option.bind_eq_some_iff] at h
      obtain ⟨q, hq, h⟩ := h
      split at h
      · rename_i hc
        rw [Option.map_eq_some_iff] at h
        obtain ⟨u, hu, h⟩ := h
        cases h
        have hlt : c < H.length := (List.getElem?_eq_some_iff.1 hk).1
        rw [List.getElem?_take_of_lt hlt]
        obtain ⟨k', hk'⟩ : ∃ k', q.2[c]? = some k' := ⟨_, List.getElem?_eq_getElem (by omega)⟩
        rcases hc.2.1 c k' hlt hk' with h | ⟨h, _⟩
        · rw [hk', ← h, hk]
        · exact absurd h hne
      · cases h
  all_goals exact absurd hw (by simp [XOp.writes])

theorem dyn_flip {x y : XOper} {p : Arg × Arg} (hd : dyn X x y = some p) (hne : differ (p.1.ev e) (p.2.ev e) = true) {r : Env × Heap} (h : (oper X C x e H).bind (fun r => oper X C y r.1 r.2) = some r) : (oper X C y e H).bind (fun r => oper X C x r.1 r.2) = some r := by
  unfold dyn at hd
  split at hd
  · rename_i hc
    simp only [Bool.and_eq_true, decide_eq_true_eq] at hc
    obtain ⟨⟨ha, hl⟩, hw⟩ := hc
    simp only [Option.bind_eq_some_iff, Option.map_eq_some_iff] at hd
    obtain ⟨a, hxa, b, hyb, rfl⟩ := hd
    obtain ⟨a1, a2, a3⟩ := apart_spec ha
    rw [Option.bind_eq_some_iff] at h ⊢
    obtain ⟨s, hx, hy⟩ := h
    rw [oper_eq] at hx hy
    have a2' : ∀ t, y.dst = some t → x.dst ≠ some t := fun t h1 h2 => a2 t h2 h1
    rcases hx with ⟨gx, v, H1, hx, rfl⟩ | ⟨gx, rfl⟩ <;> rcases hy with ⟨gy, u, H2, hy, rfl⟩ | ⟨gy, rfl⟩
    · rw [looks_wanted a1] at gy
      rw [looks_xop a1] at hy
      obtain ⟨hh, _⟩ := look_frame hl hxa hx (K := H) fun _ _ _ h => h
      subst hh
      have k2 : xop X C x.op e H2 = some (v, H2) := (look_frame hl hxa hx fun c k hc hk => write_frame hw hyb hy (by
        intro hbc
        simp only [differ, hc, hbc, Nat.beq_refl] at hne
        simp at hne) hk).2
      refine ⟨(putDst e y.dst u, H2), oper_eq.2 (.inl ⟨gy, u, H2, hy, rfl⟩), oper_eq.2 (.inl ⟨by rw [looks_wanted a3]; exact gx, v, H2, by rw [looks_xop a3]; exact k2, ?_⟩)⟩
      rw [put_put a2]
    · rw [looks_wanted a1] at gy
      refine ⟨(putDst e y.dst (.tuple []), H), oper_eq.2 (.inr ⟨gy, rfl⟩), oper_eq.2 (.inl ⟨by rw [looks_wanted a3]; exact gx, v, H1, by rw [looks_xop a3]; exact hx, ?_⟩)⟩
      rw [put_put a2]
    · rw [looks_wanted a1] at gy
      rw [looks_xop a1] at hy
      refine ⟨(putDst e y.dst u, H2), oper_eq.2 (.inl ⟨gy, u, H2, hy, rfl⟩), oper_eq.2 (.inr ⟨by rw [looks_wanted a3]; exact gx, ?_⟩)⟩
      rw [put_put a2]
    · rw [looks_wanted a1] at gy
      refine ⟨(putDst e y.dst (.tuple []), H), oper_eq.2 (.inr ⟨gy, rfl⟩), oper_eq.2 (.inr ⟨by rw [looks_wanted a3]; exact gx, ?_⟩)⟩
      rw [put_put a2]
  · cases hd

theorem opers_keeps {t : Nat} {r : Env × Heap} : ∀ {ops : List XOper} {e : Env} {H : Heap}, opers X C ops e H = some r → (∀ o ∈ ops, o.dst ≠ some t) → r.1 t = e t
  | [], e, H, h, _ => by simp only [opers, Option.some.injEq] at h; subst h; rfl
  | o :: ops, e, H, h, hw => by
    simp only [opers, Option.bind_eq_some_iff] at h
    obtain ⟨s, h1, h⟩ := h
    rw [opers_keeps h fun o ho => hw o (List.mem_cons_of_mem _ ho)]
    rcases oper_eq.1 h1 with ⟨_, v, H', _, rfl⟩ | ⟨_, rfl⟩
    · exact put_other (hw o List.mem_cons_self)
    · exact put_other (hw o List.mem_cons_self)

theorem ev_keeps {x : Arg} {r : Env × Heap} {ops : List XOper} (h : opers X C ops e H = some r) (hw : ∀ t ∈ x.tmps, ∀ o ∈ ops, o.dst ≠ some t) : x.ev r.1 = x.ev e := by
  cases x with
  | const v => rfl
  | tmp t => exact opers_keeps h (hw t (by simp [Arg.tmps]))

theorem stable_tail {x : XOper} {l : List XOper} (h : stable (x :: l) = true) : stable l = true := by
  simp only [stable, Bool.and_eq_true] at h; exact h.2

theorem stable_head {x : XOper} {l : List XOper} (h : stable (x :: l) = true) {a : Arg} (ha : x.op.addr = some a) : ∀ t ∈ a.tmps, ∀ o ∈ x :: l, o.dst ≠ some t := by
  simp only [stable, Bool.and_eq_true, ha, List.all_eq_true] at h
  intro t ht o ho
  have := h.1 t ht o ho
  simpa using this

theorem stable_mid {x : XOper} {post : List XOper} : ∀ {pre : List XOper}, stable (pre ++ x :: post) = true → stable (x :: post) = true
  | [], h => h
  | _ :: _, h => stable_mid (stable_tail h)

theorem stable_cut {x : XOper} {post : List XOper} : ∀ {pre : List XOper}, stable (pre ++ x :: post) = true → stable (pre ++ post) = true
  | [], h => stable_tail h
  | z :: pre, h => by
    have h1 := stable_cut (stable_tail h)
    simp only [List.cons_append, stable, Bool.and_eq_true] at h ⊢
    refine ⟨?_, h1⟩
    have := h.1
    split at this
    · rename_i a ha
      rw [List.all_eq_true] at this ⊢
      intro t ht
      have := this t ht
      rw [List.all_eq_true] at this ⊢
      intro o ho
      refine this o ?_
      simp only [List.mem_cons, List.mem_append] at ho ⊢
      rcases ho with h | h | h
      · exact .inl h
      · exact .inr (.inl h)
      · exact .inr (.inr (.inr h))
    · rfl

def Goes (X : Prog) (ef : Env) (D : Prop) (z x : XOper) : Prop := flips X z x = true ∨ (D ∧ ∃ p, dyn X z x = some p ∧ differ (p.1.ev ef) (p.2.ev ef) = true)

theorem Goes.apart {ef : Env} {D : Prop} {z x : XOper} (h : Goes X ef D z x) : apart z x = true := by
  rcases h with h | ⟨_, p, h, _⟩
  · simp only [flips, Bool.and_eq_true] at h; exact h.1
  · unfold dyn at h
    split at h
    · rename_i hc; simp only [Bool.and_eq_true] at hc; exact hc.1.1
    · cases h

theorem dyn_addr {z x : XOper} {p : Arg × Arg} (h : dyn X z x = some p) : z.op.addr = some p.1 ∧ x.op.addr = some p.2 := by
  unfold dyn at h
  split at h
  · simp only [Option.bind_eq_some_iff, Option.map_eq_some_iff] at h
    obtain ⟨a, h1, b, h2, rfl⟩ := h
    exact ⟨h1, h2⟩
  · cases h

theorem addr_looks {x : XOper} {b : Arg} (h : x.op.addr = some b) : ∀ t ∈ b.tmps, t ∈ x.looks := by
  intro t ht
  unfold XOper.looks
  refine List.mem_append_left _ (List.mem_flatMap.2 ⟨b, ?_, ht⟩)
  cases hx : x.op
  case call f as =>
    rw [hx] at h
    match f, as, h with
    | .const (.func (.func f) []), y :: as, h => simp only [XOp.addr, Option.some.injEq] at h; subst h; simp [XOp.args]
  all_goals (rw [hx] at h; simp [XOp.addr] at h <;> subst h <;> simp [XOp.args])

theorem opers_front {D : Prop} {x : XOper} {r : Env × Heap} {post : List XOper} : ∀ {pre : List XOper} {e : Env} {H : Heap}, (∀ z ∈ pre, Goes X r.1 D z x) → (D → stable (pre ++ x :: post) = true) → opers X C (pre ++ x :: post) e H = some r → opers X C (x :: (pre ++ post)) e H = some r
  | [], e, H, _, _, h => h
  | z :: pre, e, H, hz, hst, h => by
    have hfull := h
    simp only [List.cons_append, opers, Option.bind_eq_some_iff] at h
    obtain ⟨s, h1, h⟩ := h
    have := opers_front (fun y hy => hz y (List.mem_cons_of_mem _ hy)) (fun hD => stable_tail (hst hD)) h
    simp only [opers, Option.bind_eq_some_iff] at this
    obtain ⟨s', h2, h3⟩ := this
    have hfl : (oper X C x e H).bind (fun r => oper X C z r.1 r.2) = some s' := by
      rcases hz z List.mem_cons_self with hg | ⟨hD, p, hp, hne⟩
      · exact oper_flip hg (by rw [h1]; exact h2)
      · refine dyn_flip hp ?_ (by rw [h1]; exact h2)
        obtain ⟨pa, pb⟩ := dyn_addr hp
        have e1 : p.1.ev r.1 = p.1.ev e := ev_keeps hfull (by simpa using stable_head (hst hD) pa)
        have e2 : p.2.ev r.1 = p.2.ev e := ev_keeps hfull (by
          intro t ht o ho
          have hx := stable_head (stable_mid (pre := z :: pre) (hst hD)) pb t ht
          have htl := addr_looks pb t ht
          rcases List.mem_append.1 ho with ho | ho
          · exact fun hd => (apart_spec (Goes.apart (hz o ho))).1 t hd htl
          · exact hx o ho)
        rw [← e1, ← e2]; exact hne
    rw [Option.bind_eq_some_iff] at hfl
    obtain ⟨s'', h4, h5⟩ := hfl
    simp only [List.cons_append, opers, Option.bind_eq_some_iff]
    exact ⟨s'', h4, s', h5, h3⟩
end
end X
end Go.Proofs.YtplginnkececaaaGreatDoor

set_option linter.unusedSimpArgs false
set_option linter.unusedVariables false
namespace Go.Proofs.YtplginnkececaaaGreatDoor
open Go
namespace X

section
variable {P : Program} {G : Nat → Option AV} {w : World} {σ : Nat → Prop} {μ : Mu} {B : Nat} {H : Heap}
variable {X : Prog} {C : Oracle} {e : Env} {a : Act}

theorem Behind.trans {n : Nat} {σ' : Nat → Prop} {μ' : Mu} {w' w'' : World} {e'' : Env} {H'' : Heap} {a'' : Act} (s : Step B σ μ w σ' μ' w') (h : Behind G B n σ' μ' w' e'' H'' a'' w'') : Behind G B n σ μ w e'' H'' a'' w'' := by
  obtain ⟨σ'', μ'', h1, h2⟩ := h
  exact ⟨σ'', μ'', h1, s.trans h2⟩

theorem SR.same {n : Nat} {w' : World} (h : SR G B n σ μ e H a w) (hw : w'.heap = w.heap) (ho : Same w w' := by exact ⟨rfl, rfl, rfl⟩) : SR G B n σ μ e H a w' ∧ Step B σ μ w σ μ w' := by
  obtain ⟨h1, h2⟩ := h.hr.same hw ho
  exact ⟨h.step h1 h2, h2⟩

theorem opers_ok {ops : Array Oper} {n : Nat} {own : Nat → Bool} (hfit : ∀ (i : Nat) (o : Oper), ops[i]? = some o → operFits n ops o = true) (hC : OracleOK P G C) (hP : PrimOK P G X) {Q : Exit → Act → World → Prop} :
    ∀ {l : List Nat} {xs : List XOper} {e : Env} {H : Heap} {r : Env × Heap} {σ : Nat → Prop} {μ : Mu} {a : Act} {w : World},
      l.mapM (fun i => (ops[i]?).bind (compOper P G (own i) ops)) = some xs → opers X C xs e H = some r → SR G B n σ μ e H a w →
      (∀ a' w', Behind G B n σ μ w r.1 r.2 a' w' → Q .normal a' w') → wpOps P ops Q l a w
  | [], xs, e, H, r, σ, μ, a, w, hc, hx, hs, hq => by
    simp at hc
    subst hc
    simp only [opers, Option.some.injEq] at hx
    subst hx
    exact hq _ _ ⟨σ, μ, hs, Step.refl _ _ _ _⟩
  | i :: l, xs, e, H, r, σ, μ, a, w, hc, hx, hs, hq => by
    simp only [List.mapM_cons, Option.pure_def, Option.bind_eq_bind, Option.bind_eq_some_iff, Option.some.injEq] at hc
    obtain ⟨x, ⟨o, hi, ho⟩, xs', hxs, rfl⟩ := hc
    simp only [opers, Option.bind_eq_some_iff] at hx
    obtain ⟨s, h1, h2⟩ := hx
    rw [wpOps_cons]
    refine oper_ok hi ho (hfit i o hi) hC hP (e' := s.1) (H' := s.2) h1 hs ?_
    rintro a' w' ⟨σ', μ', k1, k2⟩
    exact opers_ok hfit hC hP hxs h2 k1 fun a'' w'' hb => hq _ _ (Behind.trans k2 hb)


def Closed (bs : List (List Nat)) (listed : Array Bool) : Prop := ∀ k, listed.getD k false = true → ∀ j ∈ bs.getD k [], listed.getD j false = true

theorem befores_go {bf : Oper → List (List Nat) → List Nat} : ∀ (ops : List Oper) (acc : List (List Nat)) (k : Nat), k < acc.length →
    (ops.foldl (fun acc o => acc ++ [bf o acc]) acc).getD k [] = acc.getD k []
  | [], acc, k, h => rfl
  | o :: ops, acc, k, h => by
    simp only [List.foldl_cons]
    rw [befores_go ops _ k (by simp; omega)]
    simp [List.getD_eq_getElem?_getD, List.getElem?_append_left h]

theorem befores_at {bf : Oper → List (List Nat) → List Nat} : ∀ (ops : List Oper) (acc : List (List Nat)) (k : Nat) (o : Oper), ops[k]? = some o →
    ∃ acc', (ops.foldl (fun acc o => acc ++ [bf o acc]) acc).getD (acc.length + k) [] = bf o acc' ∧
      ∀ j, acc'.getD j [] = (ops.foldl (fun acc o => acc ++ [bf o acc]) acc).getD j [] ∨ acc'.getD j [] = []
  | [], acc, k, o, h => by simp at h
  | p :: ops, acc, k, o, h => by
    simp only [List.foldl_cons]
    cases k with
    | zero =>
      simp at h
      subst h
      refine ⟨acc, ?_, fun j => ?_⟩
      · rw [Nat.add_zero, befores_go ops _ acc.length (by simp)]
        simp [List.getD_eq_getElem?_getD]
      · by_cases hj : j < acc.length
        · left
          rw [befores_go ops _ j (by simp; omega)]
          simp [List.getD_eq_getElem?_getD, List.getElem?_append_left hj]
        · right
          simp [List.getD_eq_getElem?_getD, List.getElem?_eq_none (Nat.le_of_not_lt hj)]
    | succ k =>
      simp at h
      obtain ⟨acc', h1, h2⟩ := befores_at ops (acc ++ [bf p acc]) k o h
      refine ⟨acc', ?_, h2⟩
      rw [← h1, List.length_append, List.length_singleton, Nat.add_assoc, Nat.add_comm 1 k]

theorem mem_mergeN {j : Nat} : ∀ {xs m : List Nat}, j ∈ mergeN xs m → j ∈ xs ∨ j ∈ m
  | [], m, h => .inr h
  | x :: xs, m, h => by
    unfold mergeN at h
    split at h
    · rcases mem_mergeN h with h | h
      · exact .inl (List.mem_cons_of_mem _ h)
      · exact .inr h
    · rcases mem_mergeN h with h | h
      · exact .inl (List.mem_cons_of_mem _ h)
      · rcases List.mem_cons.1 h with rfl | h
        · exact .inl List.mem_cons_self
        · exact .inr h

theorem mem_before {acc : List (List Nat)} {j : Nat} : ∀ {l : List Edge}, j ∈ l.foldr (before1 acc) [] →
    ∃ d ∈ l, Region.binds .any d = true ∧ (j = d.on ∨ j ∈ acc.getD d.on [])
  | [], h => nomatch h
  | e :: l, h => by
    rw [List.foldr_cons] at h
    unfold before1 at h
    split at h
    · rename_i hb
      rw [Bool.and_eq_true] at hb
      rcases List.mem_cons.1 h with h | h
      · exact ⟨e, List.mem_cons_self, hb.1, .inl h⟩
      · rcases mem_mergeN h with h | h
        · exact ⟨e, List.mem_cons_self, hb.1, .inr h⟩
        · obtain ⟨d, h1, h2⟩ := mem_before (l := l) h
          exact ⟨d, List.mem_cons_of_mem _ h1, h2⟩
    · obtain ⟨d, h1, h2⟩ := mem_before (l := l) h
      exact ⟨d, List.mem_cons_of_mem _ h1, h2⟩

theorem befores_spec {ops : Array Oper} {i : Nat} {o : Oper} (hi : ops[i]? = some o) {j : Nat} (hj : j ∈ (befores ops.toList).getD i []) :
    ∃ d ∈ o.after, Region.binds .any d = true ∧ (j = d.on ∨ j ∈ (befores ops.toList).getD d.on []) := by
  have hi' : ops.toList[i]? = some o := by simpa using hi
  obtain ⟨acc', h1, h2⟩ := befores_at (bf := fun (o : Oper) acc => o.after.toList.foldr (before1 acc) []) ops.toList [] i o hi'
  simp only [List.length_nil, Nat.zero_add] at h1
  unfold befores at hj ⊢
  rw [h1] at hj
  obtain ⟨d, hd, hb, hj⟩ := mem_before hj
  refine ⟨d, by simpa using hd, hb, ?_⟩
  rcases hj with hj | hj
  · exact .inl hj
  · right
    rcases h2 d.on with h | h
    · rw [← h]; exact hj
    · rw [h] at hj; simp at hj

theorem ready_spec {ops : Array Oper} {listed : Array Bool} {i : Nat} (h : i ∈ Region.ready .any ops listed) :
    ∃ o, ops[i]? = some o ∧ listed.getD i true = false ∧ ∀ d ∈ o.after, Region.binds .any d = true → listed.getD d.on false = true := by
  simp only [Region.ready, List.mem_filter, List.mem_range, Bool.and_eq_true, Bool.not_eq_true'] at h
  obtain ⟨h1, h2, h3⟩ := h
  have hi : ops[i]? = some ops[i] := by simp [h1]
  rw [hi] at h3
  simp only [Option.map_some, Option.getD_some, Array.all_eq_true_iff_forall_mem, Bool.or_eq_true, Bool.not_eq_true'] at h3
  refine ⟨_, hi, h2, fun d hd hb => ?_⟩
  rcases h3 d hd with h | h
  · rw [hb] at h; cases h
  · exact h

theorem getD_set_true {l : Array Bool} {i k : Nat} {d : Bool} : (l.setIfInBounds i true).getD k d = true ↔ (k = i ∧ k < l.size) ∨ l.getD k d = true := by
  simp only [Array.getD_eq_getD_getElem?]
  by_cases hk : i = k
  · subst hk
    by_cases hl : i < l.size
    · rw [Array.getElem?_setIfInBounds_self_of_lt hl]; simp [hl]
    · rw [Array.getElem?_eq_none (by simp; omega), Array.getElem?_eq_none (by omega)]
      simp [hl]
  · rw [Array.getElem?_setIfInBounds_ne hk]
    constructor
    · exact .inr
    · rintro (⟨rfl, _⟩ | h)
      · exact (hk rfl).elim
      · exact h

def Pairs (X : Prog) (ef : Env) (D : Prop) (bs : List (List Nat)) : List (Nat × XOper) → Prop
  | [] => True
  | p :: rest => (∀ q ∈ rest, (bs.getD q.1 []).contains p.1 = true ∨ Goes X ef D p.2 q.2) ∧ Pairs X ef D bs rest

theorem Pairs.cut {ef : Env} {D : Prop} {bs : List (List Nat)} {p : Nat × XOper} {post : List (Nat × XOper)} : ∀ {pre : List (Nat × XOper)}, Pairs X ef D bs (pre ++ p :: post) →
    (∀ q ∈ pre, (bs.getD p.1 []).contains q.1 = true ∨ Goes X ef D q.2 p.2) ∧ Pairs X ef D bs (pre ++ post)
  | [], h => ⟨by simp, h.2⟩
  | q :: pre, h => by
    rw [List.cons_append] at h ⊢
    simp only [Pairs] at h ⊢
    obtain ⟨h1, h2⟩ := Pairs.cut h.2
    refine ⟨?_, ?_, h2⟩
    · intro z hz
      rcases List.mem_cons.1 hz with rfl | hz
      · exact h.1 p (by simp)
      · exact h1 z hz
    · intro z hz
      refine h.1 z ?_
      simp only [List.mem_append, List.mem_cons] at hz ⊢
      rcases hz with hz | hz
      · exact .inl hz
      · exact .inr (.inr hz)

theorem mapM_mem {α β : Type} {f : α → Option β} : ∀ {l : List α} {r : List β}, l.mapM f = some r → ∀ x ∈ l, ∃ y ∈ r, f x = some y
  | [], r, h, x, hx => by cases hx
  | a :: l, r, h, x, hx => by
    simp only [List.mapM_cons, Option.pure_def, Option.bind_eq_bind, Option.bind_eq_some_iff, Option.some.injEq] at h
    obtain ⟨b, hb, bs, hbs, rfl⟩ := h
    rcases List.mem_cons.1 hx with rfl | hx
    · exact ⟨b, by simp, hb⟩
    · obtain ⟨y, hy, h⟩ := mapM_mem hbs x hx
      exact ⟨y, by simp [hy], h⟩

theorem pairs_of_chk {ef : Env} {bs : List (List Nat)} : ∀ {xs : List (Nat × XOper)} {chk : List (Arg × Arg)} {D : Prop}, pairsChk X bs xs = some chk → (chk ≠ [] → D) → (∀ c ∈ chk, differ (c.1.ev ef) (c.2.ev ef) = true) → Pairs X ef D bs xs
  | [], chk, D, _, _, _ => trivial
  | p :: rest, chk, D, h, hD, hc => by
    simp only [pairsChk, Option.bind_eq_some_iff, Option.map_eq_some_iff] at h
    obtain ⟨l, hl, m, hm, rfl⟩ := h
    refine ⟨?_, pairs_of_chk hm (fun hne => hD (by intro h0; simp only [List.append_eq_nil_iff] at h0; exact hne h0.2)) fun c hcm => hc c (List.mem_append_right _ hcm)⟩
    intro q hq
    obtain ⟨y, hy, hf⟩ := mapM_mem hl q hq
    unfold pairChk at hf
    split at hf
    · rename_i hok
      simp only [Bool.or_eq_true] at hok
      rcases hok with hok | hok
      · exact .inl hok
      · exact .inr (.inl hok)
    · rw [Option.map_eq_some_iff] at hf
      obtain ⟨c, hcd, rfl⟩ := hf
      have hcm : c ∈ l.flatten ++ m := List.mem_append_left _ (List.mem_flatten.2 ⟨[c], hy, by simp⟩)
      exact .inr (.inr ⟨hD (fun h0 => by rw [h0] at hcm; cases hcm), c, hcd, hc c hcm⟩)

theorem nodup_cut {α : Type} {p : α} {pre post : List α} (h : (pre ++ p :: post).Nodup) : (pre ++ post).Nodup ∧ p ∉ pre ++ post := by
  rw [List.nodup_append] at h ⊢
  obtain ⟨h1, h2, h3⟩ := h
  rw [List.nodup_cons] at h2
  refine ⟨⟨h1, h2.2, fun a ha b hb => h3 a ha b (List.mem_cons_of_mem _ hb)⟩, ?_⟩
  intro hp
  rcases List.mem_append.1 hp with hp | hp
  · exact h3 p hp p List.mem_cons_self rfl
  · exact h2.1 hp

theorem getD_bool {l : Array Bool} {k : Nat} (hk : k < l.size) (d d' : Bool) : l.getD k d = l.getD k d' := by
  simp [Array.getD, hk]

theorem ready_some {ops : Array Oper} {listed : Array Bool} (hsz : listed.size = ops.size) (hback : backOk ops = true) : ∀ (i : Nat), i < ops.size → listed.getD i true = false → Region.ready .any ops listed ≠ [] := by
  intro i
  induction i using Nat.strongRecOn with
  | _ i ih =>
    intro hi hl
    have ho : ops[i]? = some ops[i] := by simp [hi]
    have hb : ∀ d ∈ (ops[i]).after, Region.binds .any d = true → d.on < i := by
      intro d hd hdb
      have := List.all_eq_true.1 hback i (List.mem_range.2 hi)
      simp only [ho, Array.all_eq_true_iff_forall_mem] at this
      have := this d hd
      rw [hdb] at this
      simpa using this
    by_cases hall : ∀ d ∈ (ops[i]).after, Region.binds .any d = true → listed.getD d.on false = true
    · intro hnil
      have : i ∈ Region.ready .any ops listed := by
        simp only [Region.ready, List.mem_filter, List.mem_range, Bool.and_eq_true, Bool.not_eq_true']
        refine ⟨hi, hl, ?_⟩
        rw [ho]
        simp only [Option.map_some, Option.getD_some, Array.all_eq_true_iff_forall_mem, Bool.or_eq_true, Bool.not_eq_true']
        intro d hd
        cases hdb : Region.binds .any d with
        | false => exact .inl rfl
        | true => exact .inr (hall d hd hdb)
      rw [hnil] at this
      cases this
    · simp only [Classical.not_forall] at hall
      obtain ⟨d, hd, hdb, hn⟩ := hall
      have hlt := hb d hd hdb
      refine ih d.on hlt (by omega) ?_
      rw [getD_bool (by omega) true false]
      simpa using hn

theorem any_ok {ops : Array Oper} {n : Nat} {own : Nat → Bool} {D : Prop} (hfit : ∀ (i : Nat) (o : Oper), ops[i]? = some o → operFits n ops o = true) (hback : backOk ops = true) (hC : OracleOK P G C) (hP : PrimOK P G X) {Q : Exit → Act → World → Prop} :
    ∀ (fuel : Nat) {xs : List (Nat × XOper)} {listed : Array Bool} {e : Env} {H : Heap} {r : Env × Heap} {σ : Nat → Prop} {μ : Mu} {a : Act} {w : World}, xs.length = fuel →
      (∀ p ∈ xs, (ops[p.1]?).bind (compOper P G (own p.1) ops) = some p.2) → Pairs X r.1 D (befores ops.toList) xs → (D → stable (xs.map (·.2)) = true) → listed.size = ops.size →
      Closed (befores ops.toList) listed → (xs.map (·.1)).Nodup → (∀ i, i < ops.size → (listed.getD i true = false ↔ i ∈ xs.map (·.1))) →
      opers X C (xs.map (·.2)) e H = some r → SR G B n σ μ e H a w →
      (∀ a' w', Behind G B n σ μ w r.1 r.2 a' w' → Q .normal a' w') → wpAny P .any ops Q fuel listed a w := by
  intro fuel
  induction fuel with
  | zero =>
    intro xs listed e H r σ μ a w hlen hcomp hpairs hstab hsz hclosed hnd hmem hx hs hq
    obtain rfl := List.length_eq_zero_iff.1 hlen
    simp only [List.map_nil, opers, Option.some.injEq] at hx
    subst hx
    refine ⟨?_, hq _ _ ⟨σ, μ, hs, Step.refl _ _ _ _⟩⟩
    rw [List.eq_nil_iff_forall_not_mem]
    intro i hi
    obtain ⟨o, ho, hl, _⟩ := ready_spec hi
    have := (hmem i (by simpa using (Array.getElem?_eq_some_iff.1 ho).1)).1 hl
    simp at this
  | succ fuel ih =>
    intro xs listed e H r σ μ a w hlen hcomp hpairs hstab hsz hclosed hnd hmem hx hs hq
    have hne : Region.ready .any ops listed ≠ [] := by
      cases xs with
      | nil => simp at hlen
      | cons p xs =>
        have hp : p.1 < ops.size := by
          have := hcomp p (by simp)
          rw [Option.bind_eq_some_iff] at this
          obtain ⟨o, ho, _⟩ := this
          simpa using (Array.getElem?_eq_some_iff.1 ho).1
        exact ready_some hsz hback p.1 hp ((hmem p.1 hp).2 (by simp))
    refine ⟨fun h => (hne h).elim, fun i hi => ?_⟩
    obtain ⟨o, ho, hl, hdeps⟩ := ready_spec hi
    have hilt : i < ops.size := by simpa using (Array.getElem?_eq_some_iff.1 ho).1
    obtain ⟨p, hp, hpi⟩ := List.mem_map.1 ((hmem i hilt).1 hl)
    obtain ⟨pre, post, rfl⟩ := List.append_of_mem hp
    obtain ⟨j, x⟩ := p
    simp only at hpi
    subst hpi
    obtain ⟨hflip, hpairs'⟩ := Pairs.cut hpairs
    have hlistedBefore : ∀ k ∈ (befores ops.toList).getD j [], listed.getD k false = true := by
      intro k hk
      obtain ⟨d, hd, hb, hk⟩ := befores_spec ho hk
      have hdl := hdeps d hd hb
      rcases hk with rfl | hk
      · exact hdl
      · exact hclosed _ hdl k hk
    have hfl : ∀ z ∈ pre.map (·.2), Goes X r.1 D z x := by
      intro z hz
      obtain ⟨q, hq', rfl⟩ := List.mem_map.1 hz
      rcases hflip q hq' with h | h
      · have hq1 := hlistedBefore q.1 (by simpa using h)
        have hqlt : q.1 < ops.size := by
          have := hcomp q (by simp [hq'])
          rw [Option.bind_eq_some_iff] at this
          obtain ⟨o', ho', _⟩ := this
          simpa using (Array.getElem?_eq_some_iff.1 ho').1
        have hq2 := (hmem q.1 hqlt).2 (by simp only [List.map_append, List.mem_append, List.mem_map]; exact .inl ⟨q, hq', rfl⟩)
        rw [getD_bool (by omega) true false, hq1] at hq2
        cases hq2
      · exact h
    have hx' : opers X C (x :: (pre.map (·.2) ++ post.map (·.2))) e H = some r := by
      refine opers_front hfl (fun hD => by simpa using hstab hD) ?_
      simpa using hx
    simp only [opers, Option.bind_eq_some_iff] at hx'
    obtain ⟨s, h1, h2⟩ := hx'
    have hcx := hcomp (j, x) (by simp)
    rw [Option.bind_eq_some_iff] at hcx
    obtain ⟨o', ho', hcx⟩ := hcx
    refine oper_ok ho' hcx (hfit j o' ho') hC hP (e' := s.1) (H' := s.2) h1 hs ?_
    rintro a' w' ⟨σ', μ', k1, k2⟩
    have hnd' : (pre.map (·.1) ++ post.map (·.1)).Nodup ∧ j ∉ pre.map (·.1) ++ post.map (·.1) := nodup_cut (by simpa using hnd)
    refine ih (xs := pre ++ post) (r := r) (e := s.1) (H := s.2) ?_ ?_ hpairs' (fun hD => by have := hstab hD; simp only [List.map_append, List.map_cons] at this ⊢; exact stable_cut this) (by simpa using hsz) ?_ (by simpa using hnd'.1) ?_ (by simpa using h2) k1 fun a'' w'' hb => hq _ _ (Behind.trans k2 hb)
    · simp at hlen ⊢; omega
    · intro p hp
      refine hcomp p ?_
      simp only [List.mem_append, List.mem_cons] at hp ⊢
      rcases hp with hp | hp
      · exact .inl hp
      · exact .inr (.inr hp)
    · intro k hk m hm
      rw [getD_set_true] at hk ⊢
      rcases hk with ⟨rfl, _⟩ | hk
      · exact .inr (hlistedBefore m hm)
      · exact .inr (hclosed k hk m hm)
    · intro k hk
      have hkd : ((listed.setIfInBounds j true).getD k true = false) ↔ (k ≠ j ∧ listed.getD k true = false) := by
        have h := getD_set_true (l := listed) (i := j) (k := k) (d := true)
        constructor
        · intro hf
          rw [← Bool.not_eq_true, h] at hf
          refine ⟨fun hkj => hf (.inl ⟨hkj, by omega⟩), ?_⟩
          cases hg : listed.getD k true with
          | false => rfl
          | true => exact (hf (.inr hg)).elim
        · rintro ⟨h3, h4⟩
          rw [← Bool.not_eq_true, h]
          rintro (⟨h5, _⟩ | h5)
          · exact h3 h5
          · rw [h4] at h5; cases h5
      rw [hkd, hmem k hk]
      simp only [List.map_append, List.map_cons, List.mem_append, List.mem_cons]
      constructor
      · rintro ⟨h5, h6 | h6 | h6⟩
        · exact .inl h6
        · exact (h5 h6).elim
        · exact .inr h6
      · intro h5
        refine ⟨?_, ?_⟩
        · rintro rfl
          exact hnd'.2 (by simpa using h5)
        · rcases h5 with h5 | h5
          · exact .inl h5
          · exact .inr (.inr h5)

theorem order_spec {f : Nat → Option XOper} : ∀ {l : List Nat} {xs : List (Nat × XOper)}, l.mapM (fun i => (f i).map fun x => (i, x)) = some xs → xs.map (·.1) = l ∧ ∀ p ∈ xs, f p.1 = some p.2
  | [], xs, h => by simp at h; subst h; simp
  | i :: l, xs, h => by
    simp only [List.mapM_cons, Option.pure_def, Option.bind_eq_bind, Option.bind_eq_some_iff, Option.some.injEq, Option.map_eq_some_iff] at h
    obtain ⟨p, ⟨x, hx, rfl⟩, ys, hys, rfl⟩ := h
    obtain ⟨h1, h2⟩ := order_spec hys
    refine ⟨by simp [h1], ?_⟩
    intro q hq
    rcases List.mem_cons.1 hq with rfl | hq
    · exact hx
    · exact h2 q hq

theorem nodup_of_distinct : ∀ {l : List Nat}, distinct l = true → l.Nodup
  | [], _ => List.nodup_nil
  | x :: xs, h => by
    simp only [distinct, Bool.and_eq_true, Bool.not_eq_true'] at h
    refine List.nodup_cons.2 ⟨fun hx => ?_, nodup_of_distinct h.2⟩
    have := h.1
    rw [← Bool.not_eq_true] at this
    exact this (List.any_eq_true.2 ⟨x, hx, by simp⟩)

theorem region_ok {id : Nat} {ops : Array Oper} {draw : Bool} {n : Nat} {h : Hints} {c : XCode} (hm : P.follows .mixedOrders = true) (hfit : ops.toList.all (operFits n ops) = true) (hC : OracleOK P G C) (hP : PrimOK P G X)
    {Q : Exit → Act → World → Prop} (hc : compRegion P G X h id ops draw = some c) {L : (Env → Heap → Option (Ex × Env × Heap)) → Env → Heap → Option (Ex × Env × Heap)} {r : Ex × Env × Heap}
    (hx : code X C L c e H = some r) (hs : SR G B n σ μ e H a w) (hq : r.1 = .normal → ∀ a' w', Behind G B n σ μ w r.2.1 r.2.2 a' w' → Q .normal a' w') : (Code.region id ops draw).wp P Q a w := by
  have hfit' : ∀ (i : Nat) (o : Oper), ops[i]? = some o → operFits n ops o = true := by
    intro i o ho
    refine List.all_eq_true.1 hfit o ?_
    exact List.mem_of_getElem? (by simpa using ho)
  unfold compRegion at hc
  cases draw with
  | false =>
    simp only [Bool.not_false, if_true, Option.map_eq_some_iff] at hc
    obtain ⟨xs, hxs, rfl⟩ := hc
    simp only [code, Option.bind_eq_some_iff] at hx
    obtain ⟨s, hs', hx⟩ := hx
    split at hx
    · cases hx
      exact wp_region (opers_ok hfit' hC hP hxs hs' hs (hq rfl))
    · cases hx
  | true =>
    simp only [Bool.not_true, Bool.false_eq_true, if_false, Option.bind_eq_some_iff] at hc
    obtain ⟨xs, hxs, hc⟩ := hc
    split at hc
    · rename_i hck
      obtain ⟨hdist, hlen, hall, hback⟩ := hck
      rw [Option.bind_eq_some_iff] at hc
      obtain ⟨chk, hchk, hc⟩ := hc
      split at hc
      · rename_i hst
        cases hc
        simp only [code, Option.bind_eq_some_iff] at hx
        obtain ⟨s, hs', hx⟩ := hx
        split at hx
        · rename_i hdiff
          cases hx
          obtain ⟨hs1, hstep⟩ := hs.same (w' := { w with drawn := w.drawn + 1 }) rfl
          obtain ⟨hfst, hcomp⟩ := order_spec hxs
          refine wp_region_any hm ?_
          have hlen' : xs.length = ops.size := by
            rw [← hlen, ← hfst, List.length_map]
          have hpairs : Pairs X s.1 (chk ≠ []) (befores ops.toList) xs := pairs_of_chk hchk (fun h => h) (by simpa using hdiff)
          have hstab : chk ≠ [] → stable (xs.map (·.2)) = true := by
            intro hne
            simp only [Bool.or_eq_true, List.isEmpty_iff] at hst
            exact hst.resolve_left hne
          refine any_ok hfit' hback hC hP ops.size (xs := xs) (r := s) (e := e) (H := H) (own := h.own id) hlen' hcomp hpairs hstab (by simp) ?_ ?_ ?_ hs' hs1 fun a' w' hb => hq rfl _ _ (Behind.trans hstep hb)
          · intro k hk
            simp [Array.getD] at hk
          · rw [hfst]
            exact nodup_of_distinct hdist
          · intro i hi
            rw [hfst]
            have := List.all_eq_true.1 hall i (List.mem_range.2 hi)
            simp only [Array.getD, Array.size_replicate, hi, dif_pos, Array.getInternal_eq_getElem, Array.getElem_replicate, true_iff]
            simpa using this
        · cases hx
      · cases hc
    · cases hc
end
end X
end Go.Proofs.YtplginnkececaaaGreatDoor

set_option linter.unusedSimpArgs false
set_option linter.unusedVariables false
namespace Go.Proofs.YtplginnkececaaaGreatDoor
open Go
namespace X

section
variable {P : Program} {G : Nat → Option AV} {X : Prog} {C : Oracle}

def Ex.out : Ex → Exit
  | .normal => .normal
  | .exit id => .exit id
  | .ret => .ret

def Sound (P : Program) (G : Nat → Option AV) (n : Nat) (c : Code) (f : Env → Heap → Option (Ex × Env × Heap)) : Prop :=
  ∀ (e : Env) (H : Heap) (r : Ex × Env × Heap) (B : Nat) (σ : Nat → Prop) (μ : Mu) (a : Act) (w : World) (Q : Exit → Act → World → Prop), f e H = some r → SR G B n σ μ e H a w →
    (∀ a' w', Behind G B n σ μ w r.2.1 r.2.2 a' w' → Q r.1.out a' w') → c.wp P Q a w

theorem SR.keep {B n : Nat} {σ : Nat → Prop} {μ : Mu} {w : World} {e : Env} {H : Heap} {a : Act} (h : SR G B n σ μ e H a w) (l : List Nat) : SR G B n σ μ (keepEnv l e) H a w := by
  refine ⟨h.hr, fun t => ?_, h.sz, h.df⟩
  unfold keepEnv
  split
  · exact h.er t
  · exact .undef _ _

theorem Behind.keep {B n : Nat} {σ : Nat → Prop} {μ : Mu} {w w' : World} {e : Env} {H : Heap} {a : Act} (h : Behind G B n σ μ w e H a w') (l : List Nat) : Behind G B n σ μ w (keepEnv l e) H a w' := by
  obtain ⟨σ', μ', h1, h2⟩ := h
  exact ⟨σ', μ', h1.keep l, h2⟩

variable {L : (Env → Heap → Option (Ex × Env × Heap)) → Env → Heap → Option (Ex × Env × Heap)}

theorem Sound.keepBehind {n : Nat} {c : Code} {x : XCode} (h : Sound P G n c (code X C L x)) (l : List Nat) : Sound P G n c (code X C L (.seq x (.keep l))) := by
  intro e H r B σ μ a w Q hx hs hq
  simp only [code, Option.bind_eq_some_iff] at hx
  obtain ⟨s, h1, h2⟩ := hx
  refine h e H s B σ μ a w Q h1 hs fun a' w' hb => ?_
  obtain ⟨ex, e1, H1⟩ := s
  cases ex <;> simp only [Option.some.injEq] at h2 <;> subst h2
  · exact hq _ _ (hb.keep l)
  · exact hq _ _ hb
  · exact hq _ _ hb

theorem Sound.keepAhead {n : Nat} {c : Code} {x : XCode} (h : Sound P G n c (code X C L x)) (l : List Nat) : Sound P G n c (code X C L (.seq (.keep l) x)) := by
  intro e H r B σ μ a w Q hx hs hq
  simp only [code, Option.bind_some] at hx
  exact h _ H r B σ μ a w Q hx (hs.keep l) hq

theorem Sound.kept {n : Nat} {c : Code} {x : XCode} (h : Sound P G n c (code X C L x)) (k : Option (List Nat)) : Sound P G n c (code X C L (kept k x)) := by
  cases k with
  | none => exact h
  | some l => exact h.keepBehind l

theorem Sound.loop {n k : Nat} {c : Code} {f : Env → Heap → Option (Ex × Env × Heap)} (h : Sound P G n c f) : Sound P G n (.loop c) (rounds f k) := by
  intro e H r B σ μ a w Q hx hs hq
  refine wp_loop_rounds k ?_
  induction k generalizing e H σ μ a w with
  | zero => simp [rounds] at hx
  | succ k ih =>
    rw [rounds_succ]
    simp only [rounds, Option.bind_eq_some_iff] at hx
    obtain ⟨s, h1, h2⟩ := hx
    refine h e H s B σ μ a w _ h1 hs fun a' w' hb => ?_
    obtain ⟨ex, e1, H1⟩ := s
    cases ex with
    | normal =>
      simp only at h2
      obtain ⟨σ', μ', k1, k2⟩ := hb
      exact ih _ _ σ' μ' a' w' h2 k1 fun a'' w'' hb' => hq _ _ (Behind.trans k2 hb')
    | exit id =>
      simp only [Option.some.injEq] at h2; subst h2
      exact hq _ _ hb
    | ret =>
      simp only [Option.some.injEq] at h2; subst h2
      exact hq _ _ hb

theorem code_ok {h : Hints} {n k : Nat} (hm : P.follows .mixedOrders = true) (hC : OracleOK P G C) (hP : PrimOK P G X) : ∀ (c : Code) (blk : Nat) (x : XCode), compCode P G X h blk c = some x → codeFits n c = true →
    Sound P G n c (code X C (fun b => rounds b k) x) := by
  intro c
  induction c with
  | skip =>
    intro blk x hc hf e H r B σ μ a w Q hx hs hq
    simp only [compCode, Option.some.injEq] at hc
    subst hc
    simp only [code, Option.some.injEq] at hx
    subst hx
    exact wp_skip (hq _ _ ⟨σ, μ, hs, Step.refl _ _ _ _⟩)
  | region id ops draw =>
    intro blk x hc hf
    simp only [compCode, Option.map_eq_some_iff] at hc
    obtain ⟨y, hy, rfl⟩ := hc
    refine Sound.kept ?_ _
    intro e H r B σ μ a w Q hx hs hq
    have hn : r.1 = .normal := by
      obtain ⟨xs, chk, rfl⟩ : ∃ xs chk, y = .region xs chk := by
        unfold compRegion at hy
        cases draw
        · simp only [Bool.not_false, if_true, Option.map_eq_some_iff] at hy
          obtain ⟨xs, _, rfl⟩ := hy
          exact ⟨_, _, rfl⟩
        · simp only [Bool.not_true, Bool.false_eq_true, if_false, Option.bind_eq_some_iff] at hy
          obtain ⟨xs, _, hy⟩ := hy
          split at hy
          · rw [Option.bind_eq_some_iff] at hy
            obtain ⟨chk, _, hy⟩ := hy
            split at hy
            · cases hy; exact ⟨_, _, rfl⟩
            · cases hy
          · cases hy
      simp only [code, Option.bind_eq_some_iff] at hx
      obtain ⟨s, _, hx⟩ := hx
      split at hx
      · cases hx; rfl
      · cases hx
    refine region_ok hm hf hC hP hy hx hs fun _ a' w' hb => ?_
    have := hq a' w' hb
    rw [hn] at this
    exact this
  | seq c d ihc ihd =>
    intro blk x hc hf e H r B σ μ a w Q hx hs hq
    simp only [compCode, Option.bind_eq_some_iff, Option.map_eq_some_iff] at hc
    obtain ⟨y, hy, z, hz, rfl⟩ := hc
    simp only [codeFits, Bool.and_eq_true] at hf
    simp only [code, Option.bind_eq_some_iff] at hx
    obtain ⟨s, h1, h2⟩ := hx
    refine wp_seq (ihc blk y hy hf.1 e H s B σ μ a w _ h1 hs fun a' w' hb => ?_)
    obtain ⟨ex, e1, H1⟩ := s
    cases ex with
    | normal =>
      simp only at h2
      obtain ⟨σ', μ', k1, k2⟩ := hb
      exact ihd blk z hz hf.2 e1 H1 r B σ' μ' a' w' Q h2 k1 fun a'' w'' hb' => hq _ _ (Behind.trans k2 hb')
    | exit id => simp only [Option.some.injEq] at h2; subst h2; exact hq _ _ hb
    | ret => simp only [Option.some.injEq] at h2; subst h2; exact hq _ _ hb
  | cond o c d ihc ihd =>
    intro blk x hc hf e H r B σ μ a w Q hx hs hq
    simp only [compCode, Option.bind_eq_some_iff, Option.map_eq_some_iff] at hc
    obtain ⟨o', ho, y, hy, z, hz, rfl⟩ := hc
    simp only [codeFits, Bool.and_eq_true] at hf
    simp only [code] at hx
    have hv := RV.arg hs.hr hs.er ho
    split at hx
    · rename_i t ht
      rw [ht] at hv
      refine wp_cond hv.bool_inv ?_
      cases t
      · exact ihd blk z hz hf.2 e H r B σ μ a w Q hx hs hq
      · exact ihc blk y hy hf.1 e H r B σ μ a w Q hx hs hq
    · cases hx
  | block id c ih =>
    intro blk x hc hf e H r B σ μ a w Q hx hs hq
    simp only [compCode, Option.map_eq_some_iff] at hc
    obtain ⟨y, hy, rfl⟩ := hc
    simp only [code, Option.bind_eq_some_iff] at hx
    obtain ⟨s, h1, h2⟩ := hx
    refine wp_block (ih id y hy hf e H s B σ μ a w _ h1 hs fun a' w' hb => ?_)
    obtain ⟨ex, e1, H1⟩ := s
    cases ex with
    | normal => simp only [Option.some.injEq] at h2; subst h2; exact hq _ _ hb
    | ret => simp only [Option.some.injEq] at h2; subst h2; exact hq _ _ hb
    | exit i =>
      simp only at h2
      simp only [Ex.out, Exit.inBlock]
      by_cases hi : i = id
      · subst hi
        simp only [Nat.beq_refl, if_true, Option.some.injEq] at h2
        subst h2
        rw [if_pos rfl]
        exact hq _ _ hb
      · have : Nat.beq i id = false := by
          cases hh : Nat.beq i id with
          | false => rfl
          | true => exact (hi (Nat.eq_of_beq_eq_true hh)).elim
        simp only [this, Bool.false_eq_true, if_false, Option.some.injEq] at h2
        subst h2
        rw [if_neg hi]
        exact hq _ _ hb
  | loop c ih =>
    intro blk x hc hf
    simp only [compCode, Option.map_eq_some_iff] at hc
    obtain ⟨y, hy, rfl⟩ := hc
    have := ih blk y hy hf
    split
    · exact Sound.loop this
    · rename_i l hl
      refine Sound.keepAhead ?_ l
      exact Sound.loop (this.keepBehind l)
  | exit id =>
    intro blk x hc hf e H r B σ μ a w Q hx hs hq
    simp only [compCode, Option.some.injEq] at hc
    subst hc
    simp only [code, Option.some.injEq] at hx
    subst hx
    exact wp_exit (hq _ _ ⟨σ, μ, hs, Step.refl _ _ _ _⟩)
  | ret =>
    intro blk x hc hf e H r B σ μ a w Q hx hs hq
    simp only [compCode, Option.some.injEq] at hc
    subst hc
    simp only [code, Option.some.injEq] at hx
    subst hx
    exact wp_ret (hq _ _ ⟨σ, μ, hs, Step.refl _ _ _ _⟩)
  | _ =>
    intro blk x hc hf e H r B σ μ a w Q hx hs hq
    simp only [compCode, Option.some.injEq] at hc
    subst hc
    simp [code] at hx
end
end X
end Go.Proofs.YtplginnkececaaaGreatDoor
