/- Operations that may change places in the engine. No condition. -/
import Derived.Test.YtkaigfcjejabfaaGreatDoorXG
set_option linter.unusedSimpArgs false
set_option linter.unusedVariables false
namespace Go.Proofs.YtkaigfcjejabfaaGreatDoor
open Go
namespace X

theorem mapM_mono {α β : Type} {f g : α → Option β} (h : ∀ a b, f a = some b → g a = some b) : ∀ {l : List α} {r : List β}, l.mapM f = some r → l.mapM g = some r
  | [], r, hr => by simpa using hr
  | a :: l, r, hr => by
    simp only [List.mapM_cons, Option.pure_def, Option.bind_eq_bind, Option.bind_eq_some_iff] at hr ⊢
    obtain ⟨b, hb, bs, hbs, hr⟩ := hr
    exact ⟨b, h a b hb, bs, mapM_mono h hbs, hr⟩

section
variable {H l : Heap} {X : Prog} {C : Oracle} {e e' : Env}

theorem get_mono {b : Nat} {k : Blk} (h : H[b]? = some k) : (H ++ l)[b]? = some k := by
  rw [List.getElem?_append_left (List.getElem?_eq_some_iff.1 h).1]; exact h

theorem snap_mono : ∀ {k : Nat} {v u : AV}, snap H k v = some u → snap (H ++ l) k v = some u := by
  intro k
  induction k with
  | zero => intro v u h; simp [snap] at h
  | succ k ih =>
    intro v u h
    cases v <;> simp only [snap] at h ⊢ <;> try exact h
    case ptr b i off =>
      split at h
      · rename_i hb
        rw [get_mono hb]
        simp only [Option.bind_eq_some_iff, Option.map_eq_some_iff] at h ⊢
        obtain ⟨e, he, r, hr, rfl⟩ := h
        exact ⟨e, he, r, mapM_mono (fun _ _ => ih) hr, rfl⟩
      · cases h
    case slice b off len =>
      split at h
      · rename_i hb
        rw [get_mono hb]
        simp only
        split at h
        · rename_i hl
          rw [if_pos hl]
          simp only [Option.map_eq_some_iff] at h ⊢
          obtain ⟨r, hr, rfl⟩ := h
          exact ⟨r, mapM_mono (fun _ _ => ih) hr, rfl⟩
        · cases h
      · cases h
    case map b =>
      split at h
      · rename_i hb
        rw [get_mono hb]
        simp only [Option.bind_eq_some_iff, Option.map_eq_some_iff] at h ⊢
        obtain ⟨ks, hk, vs, hv, rfl⟩ := h
        exact ⟨ks, mapM_mono (fun _ _ => ih) hk, vs, mapM_mono (fun _ _ => ih) hv, rfl⟩
      · cases h
    all_goals
      simp only [Option.map_eq_some_iff] at h ⊢
      obtain ⟨r, hr, rfl⟩ := h
      first
        | exact ⟨r, mapM_mono (fun _ _ => ih) hr, rfl⟩
        | exact ⟨r, ih hr, rfl⟩

theorem live_mono {b : Nat} (h : H.live b = true) : Heap.live (H ++ l) b = true := by
  unfold Heap.live at h ⊢
  split at h
  · rename_i hb; rw [get_mono hb]
  · cases h

theorem eqAV_mono {ek : EK} {x y : AV} {r : Bool} (h : eqAV H ek x y = some r) : eqAV (H ++ l) ek x y = some r := by
  cases ek with
  | ptr =>
    cases x <;> cases y <;> simp only [eqAV] at h ⊢ <;> try exact h
    split at h
    · rename_i h1; rw [if_pos h1]; exact h
    · rename_i h1
      rw [if_neg h1]
      split at h
      · rename_i h2
        rw [if_pos ⟨h2.1, h2.2.1, h2.2.2.1, h2.2.2.2.1, h2.2.2.2.2.1, live_mono h2.2.2.2.2.2.1, live_mono h2.2.2.2.2.2.2⟩]
        exact h
      · cases h
  | one f => cases f <;> exact h
  | _ => exact h

theorem binAV_mono {op : BinOp} {ek : EK} {x y v : AV} (h : binAV H op ek x y = some v) : binAV (H ++ l) op ek x y = some v := by
  unfold binAV at h ⊢
  split <;> first | (simp only at h; exact h) | skip
  rename_i h1 h2
  split at h <;> try cases h
  case h_1 => rename_i a b c d; exact absurd rfl (h1 _ _ _ _ · rfl)
  case h_2 => rename_i a b; exact absurd rfl (h2 _ _ · rfl)
  split <;> simp only at h <;> try cases h
  all_goals
    simp only [Option.map_eq_some_iff] at h ⊢
    obtain ⟨r, hr, rfl⟩ := h
    exact ⟨r, eqAV_mono hr, rfl⟩

theorem loadAV_mono {n : Option Nat} {a v : AV} (h : loadAV H n a = some v) : loadAV (H ++ l) n a = some v := by
  cases a <;> simp only [loadAV] at h ⊢ <;> try exact h
  split at h
  · rename_i hb; rw [get_mono hb]; exact h
  · cases h

theorem sliceAV_mono {sz : Nat} {x v : AV} {lo hi : Option Nat} (h : sliceAV H sz x lo hi = some v) : sliceAV (H ++ l) sz x lo hi = some v := by
  cases x <;> simp only [sliceAV] at h ⊢ <;> try exact h
  split at h
  · rename_i hb; rw [get_mono hb]; exact h
  · cases h

theorem indexAddrAV_mono {sz : Nat} {x v : AV} {n : Int} (h : indexAddrAV H sz x n = some v) : indexAddrAV (H ++ l) sz x n = some v := by
  cases x <;> simp only [indexAddrAV] at h ⊢ <;> try exact h
  rw [Option.bind_eq_some_iff] at h ⊢
  obtain ⟨i, hi, h⟩ := h
  refine ⟨i, hi, ?_⟩
  split at h
  · rename_i hb; rw [get_mono hb]; exact h
  · cases h

theorem lenAV_mono {ek : EK} {x : AV} {n : Nat} (h : lenAV H ek x = some n) : lenAV (H ++ l) ek x = some n := by
  unfold lenAV at h ⊢
  split <;> simp only at h ⊢ <;> try exact h
  split at h
  · rename_i hb; rw [get_mono hb]; exact h
  · cases h

theorem lookupAV_mono {ek : EK} {z : AV} {ok : Bool} {m k v : AV} (h : lookupAV H ek z ok m k = some v) : lookupAV (H ++ l) ek z ok m k = some v := by
  unfold lookupAV at h ⊢
  split at h
  · cases h
  · rename_i hk
    rw [if_neg hk]
    rw [Option.map_eq_some_iff] at h ⊢
    obtain ⟨r, hr, rfl⟩ := h
    refine ⟨r, ?_, rfl⟩
    cases m <;> simp only at hr ⊢ <;> try exact hr
    split at hr
    · rename_i hb; rw [get_mono hb]; exact hr
    · cases hr

theorem pureCall_mono {f : Nat} {args : List AV} {v : AV} (h : pureCall X C f args H = some v) : pureCall X C f args (H ++ l) = some v := by
  unfold pureCall at h ⊢
  rw [Option.bind_eq_some_iff] at h ⊢
  obtain ⟨as, ha, h⟩ := h
  exact ⟨as, mapM_mono (fun _ _ => snap_mono) ha, h⟩


theorem class_call {f : Arg} {as : List Arg} {c : Class} (h : (XOp.call f as).class X = c) (hc : c ≠ .write) : (c = .read ∧ ∃ g cap, f = .const (.func (.func g) cap) ∧ X.mode g = .pure) ∨ (c = .make ∧ ∃ g cap, f = .const (.func (.func g) cap) ∧ X.mode g = .fresh) := by
  unfold XOp.class at h
  split at h <;> try (first | (rename_i hh; cases hh; done) | (rename_i hh _; cases hh; done))
  all_goals first
    | (subst h; exact absurd rfl hc)
    | skip
  rename_i g cap as' heq
  cases heq
  split at h
  · rename_i hm
    exact .inl ⟨h.symm, g, cap, rfl, hm⟩
  · rename_i hm
    exact .inr ⟨h.symm, g, cap, rfl, hm⟩
  · subst h; exact absurd rfl hc

theorem class_lit {sz : Nat} {z : List AV} {ps : List (Nat × Arg)} {own : Bool} : (XOp.lit sz z ps own).class X = if own then .make else .none := by
  cases own <;> rfl

theorem class_bin {op : BinOp} {ek : EK} {x y : Arg} : (XOp.bin op ek x y).class X = if ek = .ptr then .read else .none := rfl
theorem class_len {ek : EK} {x : Arg} : (XOp.len ek x).class X = if ek = .map then .read else .none := rfl

theorem eqAV_any {K : Heap} {ek : EK} {x y : AV} (he : ek ≠ .ptr) : eqAV H ek x y = eqAV K ek x y := by
  cases ek with
  | ptr => exact (he rfl).elim
  | one f => cases f <;> rfl
  | _ => rfl

theorem binAV_any {K : Heap} {op : BinOp} {ek : EK} {x y : AV} (he : ek ≠ .ptr) : binAV H op ek x y = binAV K op ek x y := by
  have h : eqAV H ek = eqAV K ek := funext fun a => funext fun b => eqAV_any he
  unfold binAV
  rw [h]

theorem lenAV_any {K : Heap} {ek : EK} {x : AV} (he : ek ≠ .map) : lenAV H ek x = lenAV K ek x := by
  unfold lenAV
  split <;> first | rfl | (exact (he rfl).elim)

/-- Heaps that agree on what is no map. -/
def ArrEq (H K : Heap) : Prop := ∀ (b sz : Nat) (es : List AV), H[b]? = some (Blk.arr sz es) → K[b]? = some (Blk.arr sz es)

/-- An operation that looks at no map. -/
theorem xop_look {op : XOp} {v : AV} {H' : Heap} (hc : op.class X = .look) (h : xop X C op e H = some (v, H')) : H' = H ∧ ∀ K, ArrEq H K → xop X C op e K = some (v, K) := by
  cases op
  case call f args => exact (class_call hc (by decide)).elim (fun h => absurd h.1 (by decide)) (fun h => absurd h.1 (by decide))
  case lit sz zero parts own => rw [class_lit] at hc; cases own <;> exact absurd hc (by decide)
  case bin op ek x y => rw [class_bin] at hc; split at hc <;> cases hc
  case len ek x => rw [class_len] at hc; split at hc <;> cases hc
  case load n a =>
    simp only [xop, Option.map_eq_some_iff, Prod.mk.injEq] at h
    obtain ⟨u, hu, rfl, rfl⟩ := h
    refine ⟨rfl, fun K hK => ?_⟩
    have : loadAV K n (a.ev e) = some u := by
      cases ha : a.ev e <;> rw [ha] at hu <;> simp only [loadAV] at hu ⊢ <;> try exact hu
      split at hu
      · rename_i hb; rw [hK _ _ _ hb]; exact hu
      · cases hu
    simp only [xop, this, Option.map_some]
  case sliceSl sz x lo hi =>
    simp only [xop, Option.bind_eq_some_iff, Option.map_eq_some_iff, Prod.mk.injEq] at h
    obtain ⟨lo', h1, hi', h2, u, hu, rfl, rfl⟩ := h
    refine ⟨rfl, fun K hK => ?_⟩
    have : sliceAV K sz (x.ev e) lo' hi' = some u := by
      cases ha : x.ev e <;> rw [ha] at hu <;> simp only [sliceAV] at hu ⊢ <;> try exact hu
      split at hu
      · rename_i hb; rw [hK _ _ _ hb]; exact hu
      · cases hu
    simp only [xop, h1, h2, Option.bind_some, this, Option.map_some]
  case indexAddr sz x i =>
    simp only [xop, Option.bind_eq_some_iff, Option.map_eq_some_iff, Prod.mk.injEq] at h
    obtain ⟨n, h1, u, hu, rfl, rfl⟩ := h
    refine ⟨rfl, fun K hK => ?_⟩
    have : indexAddrAV K sz (x.ev e) n = some u := by
      cases ha : x.ev e <;> rw [ha] at hu <;> simp only [indexAddrAV] at hu ⊢ <;> try exact hu
      rw [Option.bind_eq_some_iff] at hu ⊢
      obtain ⟨i, hi, hu⟩ := hu
      refine ⟨i, hi, ?_⟩
      split at hu
      · rename_i hb; rw [hK _ _ _ hb]; exact hu
      · cases hu
    simp only [xop, h1, Option.bind_some, this, Option.map_some]
  all_goals exact absurd hc (by simp [XOp.class])

theorem pcallAV_mono {fn : AV} {args : List AV} {v : AV} (h : pcallAV X C fn args H = some v) : pcallAV X C fn args (H ++ l) = some v := by
  unfold pcallAV at h ⊢
  split at h
  · split at h
    · exact pureCall_mono h
    · cases h
  · cases h

/-- An operation that only looks. -/
theorem xop_read {op : XOp} {v : AV} {H' : Heap} (hc : op.class X = .read) (h : xop X C op e H = some (v, H')) : H' = H ∧ ∀ l, xop X C op e (H ++ l) = some (v, H ++ l) := by
  cases op
  case call f args =>
    obtain ⟨-, g, cap, rfl, hm⟩ := (class_call hc (by decide)).resolve_right (fun h => absurd h.1 (by decide))
    simp only [xop, Arg.ev, callAV, hm, Option.map_eq_some_iff, Prod.mk.injEq] at h
    obtain ⟨u, hu, rfl, rfl⟩ := h
    exact ⟨rfl, fun l => by simp only [xop, Arg.ev, callAV, hm]; rw [pureCall_mono hu]; rfl⟩
  case lit sz zero parts own => rw [class_lit] at hc; cases own <;> exact absurd hc (by decide)
  case bin op ek x y =>
    simp only [xop, Option.map_eq_some_iff, Prod.mk.injEq] at h
    obtain ⟨u, hu, rfl, rfl⟩ := h
    exact ⟨rfl, fun l => by simp only [xop]; rw [binAV_mono hu]; rfl⟩
  case lookup ek zero ok m k =>
    simp only [xop, Option.map_eq_some_iff, Prod.mk.injEq] at h
    obtain ⟨u, hu, rfl, rfl⟩ := h
    exact ⟨rfl, fun l => by simp only [xop]; rw [lookupAV_mono hu]; rfl⟩
  case pcall f args =>
    simp only [xop, Option.map_eq_some_iff, Prod.mk.injEq] at h
    obtain ⟨u, hu, rfl, rfl⟩ := h
    exact ⟨rfl, fun l => by simp only [xop]; rw [pcallAV_mono hu]; rfl⟩
  case len ek x =>
    simp only [xop] at h
    cases hl : lenAV H ek (x.ev e) with
    | none => rw [hl] at h; cases h
    | some n =>
      rw [hl] at h
      cases h
      exact ⟨rfl, fun l => by simp only [xop]; rw [lenAV_mono hl]; rfl⟩
  all_goals exact absurd hc (by simp [XOp.class])

/-- An update of a map. -/
theorem xop_mapWrite {op : XOp} {v : AV} {H' : Heap} (hc : op.class X = .mapWrite) (h : xop X C op e H = some (v, H')) : ArrEq H H' ∧ ArrEq H' H := by
  cases op
  case call f args => exact (class_call hc (by decide)).elim (fun h => absurd h.1 (by decide)) (fun h => absurd h.1 (by decide))
  case lit sz zero parts own => rw [class_lit] at hc; cases own <;> exact absurd hc (by decide)
  case bin op ek x y => rw [class_bin] at hc; split at hc <;> cases hc
  case len ek x => rw [class_len] at hc; split at hc <;> cases hc
  case mapUpdate ek m k x =>
    simp only [xop] at h
    split at h
    · rename_i b hb
      split at h
      · rename_i ks vs hks
        split at h
        · rw [Option.map_eq_some_iff] at h
          obtain ⟨r, hr, h⟩ := h
          cases h
          constructor
          · intro c sz es hcc
            rw [List.getElem?_set]
            split
            · rename_i hbc; subst hbc; rw [hks] at hcc; cases hcc
            · exact hcc
          · intro c sz es hcc
            rw [List.getElem?_set] at hcc
            split at hcc
            · split at hcc <;> cases hcc
            · exact hcc
        · cases h
      · cases h
    · cases h
  all_goals exact absurd hc (by simp [XOp.class])

theorem arrEq_append {l : Heap} : ArrEq H (H ++ l) := fun _ _ _ h => get_mono h

/-- An operation that makes a block. -/
theorem xop_make {op : XOp} {v : AV} {H' : Heap} (hc : op.class X = .make) (h : xop X C op e H = some (v, H')) : ∃ l, H' = H ++ l := by
  cases op
  case box sz x =>
    simp only [xop] at h
    split at h
    · simp only [Option.some.injEq, Prod.mk.injEq] at h; exact ⟨_, h.2.symm⟩
    · cases h
  case lit sz zero parts own =>
    rw [class_lit] at hc
    cases own
    · exact absurd hc (by decide)
    · simp only [xop, Option.bind_eq_some_iff] at h
      obtain ⟨es, _, h⟩ := h
      simp only [if_true, Option.some.injEq, Prod.mk.injEq] at h; exact ⟨_, h.2.symm⟩
  case mkMap => simp only [xop, Option.some.injEq, Prod.mk.injEq] at h; exact ⟨_, h.2.symm⟩
  case mkSlice sz bytes zero len cap =>
    simp only [xop, Option.bind_eq_some_iff] at h
    obtain ⟨a, _, b, _, h⟩ := h
    split at h
    · simp only [Option.some.injEq, Prod.mk.injEq] at h; exact ⟨_, h.2.symm⟩
    · cases h
  case call f args =>
    obtain ⟨-, g, cap, rfl, hm⟩ := (class_call hc (by decide)).resolve_left (fun h => absurd h.1 (by decide))
    simp only [xop, Arg.ev, callAV, hm, freshCall, Option.bind_eq_some_iff] at h
    obtain ⟨as, _, q, _, h⟩ := h
    split at h
    · simp only [Option.some.injEq, Prod.mk.injEq] at h; exact ⟨_, h.2.symm⟩
    · cases h
  case bin op ek x y => rw [class_bin] at hc; split at hc <;> cases hc
  case len ek x => rw [class_len] at hc; split at hc <;> cases hc
  all_goals exact absurd hc (by simp [XOp.class])

/-- An operation that looks at no block. -/
theorem xop_none {op : XOp} {v : AV} {H' : Heap} (hc : op.class X = .none) (h : xop X C op e H = some (v, H')) : H' = H ∧ ∀ K, xop X C op e K = some (v, K) := by
  cases op
  case call f args => exact (class_call hc (by decide)).elim (fun h => absurd h.1 (by decide)) (fun h => absurd h.1 (by decide))
  case lit sz zero parts own =>
    rw [class_lit] at hc
    cases own
    · simp only [xop, Option.bind_eq_some_iff, Bool.false_eq_true, if_false] at h
      obtain ⟨es, h1, h⟩ := h
      split at h
      · rename_i h2
        simp only [Option.some.injEq, Prod.mk.injEq] at h
        obtain ⟨rfl, rfl⟩ := h
        exact ⟨rfl, fun K => by simp only [xop, h1, Option.bind_some, Bool.false_eq_true, if_false]; rw [if_pos h2]⟩
      · cases h
    · exact absurd hc (by decide)
  case bin op ek x y =>
    rw [class_bin] at hc
    split at hc
    · cases hc
    · rename_i hek
      simp only [xop, Option.map_eq_some_iff, Prod.mk.injEq] at h
      obtain ⟨u, hu, rfl, rfl⟩ := h
      exact ⟨rfl, fun K => by simp only [xop]; rw [binAV_any (K := H) hek, hu]; rfl⟩
  case len ek x =>
    rw [class_len] at hc
    split at hc
    · cases hc
    · rename_i hek
      simp only [xop] at h
      cases hl : lenAV H ek (x.ev e) with
      | none => rw [hl] at h; cases h
      | some n =>
        rw [hl] at h
        cases h
        exact ⟨rfl, fun K => by simp only [xop]; rw [lenAV_any (K := H) hek, hl]; rfl⟩
  all_goals first
    | (simp [XOp.class] at hc; done)
    | clear hc
  all_goals simp only [xop] at h ⊢
  all_goals first
    | (split at h <;> simp_all; done)
    | (simp only [Option.map_eq_some_iff, Option.bind_eq_some_iff, Prod.mk.injEq] at h ⊢; grind)
    | grind
    | (split at h <;> (try simp only [Option.map_eq_some_iff, Option.bind_eq_some_iff, Prod.mk.injEq] at h ⊢) <;> grind)

theorem ev_agree {op : XOp} (h : ∀ t ∈ op.args.flatMap Arg.tmps, e t = e' t) : ∀ x ∈ op.args, x.ev e = x.ev e' := by
  intro x hx
  cases x with
  | const v => rfl
  | tmp t => exact h t (List.mem_flatMap.2 ⟨_, hx, by simp [Arg.tmps]⟩)

theorem optArg_agree {x : Option Arg} (h : ∀ y ∈ x.toList, y.ev e = y.ev e') : optArg e x = optArg e' x := by
  cases x with
  | none => rfl
  | some y => simp only [optArg, h y (by simp)]

theorem xop_agree {op : XOp} (ht : ∀ t ∈ op.args.flatMap Arg.tmps, e t = e' t) : xop X C op e H = xop X C op e' H := by
  have h := ev_agree ht
  clear ht
  cases op <;> simp only [XOp.args, List.mem_cons, List.not_mem_nil, or_false, forall_eq, List.mem_map, forall_exists_index, and_imp, forall_apply_eq_imp_iff₂, forall_eq_or_imp, List.mem_append] at h
  case build zero parts =>
    simp only [xop]
    rw [List.map_congr_left (g := fun p => (p.1, p.2.1, p.2.2.ev e')) (fun p hp => by rw [h p hp])]
  case lit sz zero parts own =>
    simp only [xop]
    rw [List.map_congr_left (g := fun p => (p.1, p.2.ev e')) (fun p hp => by rw [h p hp])]
  case mkFunc fn cap =>
    simp only [xop]
    rw [List.map_congr_left h]
  case mm mx xs =>
    simp only [xop]
    rw [List.map_congr_left h]
  case call f args =>
    simp only [xop]
    rw [h.1, List.map_congr_left h.2]
  case pcall f args =>
    simp only [xop]
    rw [h.1, List.map_congr_left h.2]
  case sliceStr x lo hi =>
    simp only [xop]
    rw [h.1, optArg_agree fun y hy => h.2 y (.inl hy), optArg_agree fun y hy => h.2 y (.inr hy)]
  case sliceSl sz x lo hi =>
    simp only [xop]
    rw [h.1, optArg_agree fun y hy => h.2 y (.inl hy), optArg_agree fun y hy => h.2 y (.inr hy)]
  all_goals
    simp only [xop]
    try simp only [h]

theorem wanted_agree {g : Option (Nat × Bool)} (h : ∀ t b, g = some (t, b) → e t = e' t) : wanted g e = wanted g e' := by
  unfold wanted
  split
  · rfl
  · rename_i t b
    rw [h t b rfl]

theorem put_other {d : Option Nat} {v : AV} {t : Nat} (h : d ≠ some t) : putDst e d v t = e t := by
  cases d with
  | none => rfl
  | some s =>
    have hb : Nat.beq t s = false := by
      cases hh : Nat.beq t s with
      | false => rfl
      | true => exact (h (by rw [Nat.eq_of_beq_eq_true hh])).elim
    simp [putDst, Env.set, hb]

theorem put_put {d d' : Option Nat} {v v' : AV} (h : ∀ t, d = some t → d' ≠ some t) : putDst (putDst e d v) d' v' = putDst (putDst e d' v') d v := by
  funext t
  by_cases h1 : d = some t
  · rw [put_other (h t h1)]
    subst h1
    simp [putDst, Env.set]
  · by_cases h2 : d' = some t
    · rw [put_other h1]
      subst h2
      simp [putDst, Env.set]
    · rw [put_other h1, put_other h2, put_other h2, put_other h1]

theorem looks_xop {x : XOper} {d : Option Nat} {v : AV} (h : ∀ t, d = some t → t ∉ x.looks) (H : Heap) : xop X C x.op (putDst e d v) H = xop X C x.op e H := by
  refine xop_agree fun t ht => put_other fun hd => h t hd ?_
  unfold XOper.looks
  exact List.mem_append_left _ ht

theorem looks_wanted {x : XOper} {d : Option Nat} {v : AV} (h : ∀ t, d = some t → t ∉ x.looks) : wanted x.guard (putDst e d v) = wanted x.guard e := by
  refine wanted_agree fun t b hg => put_other fun hd => h t hd ?_
  unfold XOper.looks
  rw [hg]
  simp

theorem apart_spec {x y : XOper} (h : apart x y = true) : (∀ t, x.dst = some t → t ∉ y.looks) ∧ (∀ t, x.dst = some t → y.dst ≠ some t) ∧ (∀ t, y.dst = some t → t ∉ x.looks) := by
  refine ⟨fun d hd => ?_, fun d hd => ?_, fun d hd => ?_⟩ <;> simp [apart, hd] at h
  · exact h.1.1
  · exact h.1.2
  · exact h.2

/-- What an operation does, told apart from the register it writes. -/
theorem oper_eq {o : XOper} {r : Env × Heap} : oper X C o e H = some r ↔ (wanted o.guard e = some true ∧ ∃ v H', xop X C o.op e H = some (v, H') ∧ r = (putDst e o.dst v, H')) ∨ (wanted o.guard e = some false ∧ r = (putDst e o.dst (.tuple []), H)) := by
  unfold oper
  rw [Option.bind_eq_some_iff]
  constructor
  · rintro ⟨b, hb, h⟩
    cases b
    · right
      simp at h
      exact ⟨hb, h.symm⟩
    · left
      simp only [if_true, Option.map_eq_some_iff] at h
      obtain ⟨u, hu, rfl⟩ := h
      exact ⟨hb, u.1, u.2, hu, rfl⟩
  · rintro (⟨hb, v, H', hx, rfl⟩ | ⟨hb, rfl⟩)
    · exact ⟨true, hb, by simp [hx]⟩
    · exact ⟨false, hb, by simp⟩

/-- Two operations that may change places. -/
theorem oper_flip {x y : XOper} (hf : flips X x y = true) {r : Env × Heap} (h : (oper X C x e H).bind (fun r => oper X C y r.1 r.2) = some r) : (oper X C y e H).bind (fun r => oper X C x r.1 r.2) = some r := by
  simp only [flips, Bool.and_eq_true] at hf
  obtain ⟨ha, hc⟩ := hf
  obtain ⟨a1, a2, a3⟩ := apart_spec ha
  rw [Option.bind_eq_some_iff] at h ⊢
  obtain ⟨s, hx, hy⟩ := h
  rw [oper_eq] at hx hy
  have a2' : ∀ t, y.dst = some t → x.dst ≠ some t := fun t h1 h2 => a2 t h2 h1
  rcases hx with ⟨gx, v, H1, hx, rfl⟩ | ⟨gx, rfl⟩ <;> rcases hy with ⟨gy, u, H2, hy, rfl⟩ | ⟨gy, rfl⟩
  · rw [looks_wanted a1] at gy
    rw [looks_xop a1] at hy
    have key : ∃ K, xop X C y.op e H = some (u, K) ∧ xop X C x.op e K = some (v, H2) := by
      cases cy : y.op.class X with
      | none =>
        obtain ⟨rfl, hall⟩ := xop_none cy hy
        exact ⟨H, hall _, hx⟩
      | look =>
        obtain ⟨rfl, hall⟩ := xop_look cy hy
        cases cx : x.op.class X with
        | none => obtain ⟨rfl, h'⟩ := xop_none cx hx; exact ⟨_, hy, h' _⟩
        | look => obtain ⟨rfl, h'⟩ := xop_look cx hx; exact ⟨_, hy, hx⟩
        | read => obtain ⟨rfl, h'⟩ := xop_read cx hx; exact ⟨_, hy, hx⟩
        | mapWrite => exact ⟨_, hall _ (xop_mapWrite cx hx).2, hx⟩
        | _ => rw [cx, cy] at hc; cases hc
      | read =>
        obtain ⟨rfl, hall⟩ := xop_read cy hy
        cases cx : x.op.class X with
        | none => obtain ⟨rfl, h'⟩ := xop_none cx hx; exact ⟨_, hy, h' _⟩
        | look => obtain ⟨rfl, h'⟩ := xop_look cx hx; exact ⟨_, hy, hx⟩
        | read => obtain ⟨rfl, h'⟩ := xop_read cx hx; exact ⟨_, hy, hx⟩
        | _ => rw [cx, cy] at hc; cases hc
      | make =>
        obtain ⟨l, rfl⟩ := xop_make cy hy
        cases cx : x.op.class X with
        | none => obtain ⟨rfl, h'⟩ := xop_none cx hx; exact ⟨_, hy, h' _⟩
        | look => obtain ⟨rfl, h'⟩ := xop_look cx hx; exact ⟨_, hy, h' _ arrEq_append⟩
        | read => obtain ⟨rfl, h'⟩ := xop_read cx hx; exact ⟨_, hy, h' l⟩
        | _ => rw [cx, cy] at hc; cases hc
      | mapWrite =>
        cases cx : x.op.class X with
        | none => obtain ⟨rfl, h'⟩ := xop_none cx hx; exact ⟨_, hy, h' _⟩
        | look => obtain ⟨rfl, h'⟩ := xop_look cx hx; exact ⟨_, hy, h' _ (xop_mapWrite cy hy).1⟩
        | _ => rw [cx, cy] at hc; cases hc
      | write =>
        cases cx : x.op.class X with
        | none => obtain ⟨rfl, h'⟩ := xop_none cx hx; exact ⟨_, hy, h' _⟩
        | _ => rw [cx, cy] at hc; cases hc
    obtain ⟨K, k1, k2⟩ := key
    refine ⟨(putDst e y.dst u, K), oper_eq.2 (.inl ⟨gy, u, K, k1, rfl⟩), oper_eq.2 (.inl ⟨by rw [looks_wanted a3]; exact gx, v, H2, by rw [looks_xop a3]; exact k2, ?_⟩)⟩
    rw [put_put a2]
  · rw [looks_wanted a1] at gy
    refine ⟨(putDst e y.dst (.tuple []), H), oper_eq.2 (.inr ⟨gy, rfl⟩), oper_eq.2 (.inl ⟨by rw [looks_wanted a3]; exact gx, v, H1, by rw [looks_xop a3]; exact hx, ?_⟩)⟩
    rw [put_put a2]
  · rw [looks_wanted a1] at gy
    rw [looks_xop a1] at hy
    refine ⟨(putDst e y.dst u, H2), oper_eq.2 (.inl ⟨gy, u, H2, hy, rfl⟩), oper_eq.2 (.inr ⟨by rw [looks_wanted a3]; exact gx, ?_⟩)⟩
    rw [put_put a2]
  · rw [looks_wanted a1] at gy
    refine ⟨(putDst e y.dst (.tuple []), H), oper_eq.2 (.inr ⟨gy, rfl⟩), oper_eq.2 (.inr ⟨by rw [looks_wanted a3]; exact gx, ?_⟩)⟩
    rw [put_put a2]

/-- What a look finds hangs on its own block alone. -/
theorem look_frame {op : XOp} {v : AV} {H' K : Heap} {x : Arg} (hc : op.class X = .look) (ha : op.addr = some x) (h : xop X C op e H = some (v, H')) (hK : ∀ (c : Nat) (k : Blk), (x.ev e).blockOf = some c → H[c]? = some k → K[c]? = some k) :
    H' = H ∧ xop X C op e K = some (v, K) := by
  cases op
  case call f args => exact (class_call hc (by decide)).elim (fun h => absurd h.1 (by decide)) (fun h => absurd h.1 (by decide))
  case lit sz zero parts own => rw [class_lit] at hc; cases own <;> exact absurd hc (by decide)
  case bin op ek x y => rw [class_bin] at hc; split at hc <;> cases hc
  case len ek x => rw [class_len] at hc; split at hc <;> cases hc
  case load n a =>
    simp only [XOp.addr, Option.some.injEq] at ha
    subst ha
    simp only [xop, Option.map_eq_some_iff, Prod.mk.injEq] at h
    obtain ⟨u, hu, rfl, rfl⟩ := h
    refine ⟨rfl, ?_⟩
    have : loadAV K n (a.ev e) = some u := by
      cases ha : a.ev e <;> rw [ha] at hu hK <;> simp only [loadAV] at hu ⊢ <;> try exact hu
      split at hu
      · rename_i hb; rw [hK _ _ rfl hb]; exact hu
      · cases hu
    simp only [xop, this, Option.map_some]
  case sliceSl sz x lo hi =>
    simp only [XOp.addr, Option.some.injEq] at ha
    subst ha
    simp only [xop, Option.bind_eq_some_iff, Option.map_eq_some_iff, Prod.mk.injEq] at h
    obtain ⟨lo', h1, hi', h2, u, hu, rfl, rfl⟩ := h
    refine ⟨rfl, ?_⟩
    have : sliceAV K sz (x.ev e) lo' hi' = some u := by
      cases ha : x.ev e <;> rw [ha] at hu hK <;> simp only [sliceAV] at hu ⊢ <;> try exact hu
      split at hu
      · rename_i hb; rw [hK _ _ rfl hb]; exact hu
      · cases hu
    simp only [xop, h1, h2, Option.bind_some, this, Option.map_some]
  case indexAddr sz x i =>
    simp only [XOp.addr, Option.some.injEq] at ha
    subst ha
    simp only [xop, Option.bind_eq_some_iff, Option.map_eq_some_iff, Prod.mk.injEq] at h
    obtain ⟨n, h1, u, hu, rfl, rfl⟩ := h
    refine ⟨rfl, ?_⟩
    have : indexAddrAV K sz (x.ev e) n = some u := by
      cases ha : x.ev e <;> rw [ha] at hu hK <;> simp only [indexAddrAV] at hu ⊢ <;> try exact hu
      rw [Option.bind_eq_some_iff] at hu ⊢
      obtain ⟨i, hi, hu⟩ := hu
      refine ⟨i, hi, ?_⟩
      split at hu
      · rename_i hb; rw [hK _ _ rfl hb]; exact hu
      · cases hu
    simp only [xop, h1, Option.bind_some, this, Option.map_some]
  all_goals exact absurd hc (by simp [XOp.class])

/-- What a write changes is its own block alone. -/
theorem write_frame {op : XOp} {v : AV} {H' : Heap} {x : Arg} (hw : op.writes = true) (ha : op.addr = some x) (h : xop X C op e H = some (v, H')) {c : Nat} {k : Blk} (hne : (x.ev e).blockOf ≠ some c) (hk : H[c]? = some k) : H'[c]? = some k := by
  have hset : ∀ (b : Nat) (k' : Blk), b ≠ c → (H.set b k')[c]? = some k := by
    intro b k' hb
    rw [List.getElem?_set_ne hb]; exact hk
  cases op
  case store n a y =>
    simp only [XOp.addr, Option.some.injEq] at ha
    subst ha
    simp only [xop, Option.map_eq_some_iff, Prod.mk.injEq] at h
    obtain ⟨u, hu, rfl, rfl⟩ := h
    cases hv : a.ev e <;> rw [hv] at hu hne <;> simp only [storeAV] at hu <;> try cases hu
    rename_i b i off
    have hb : b ≠ c := fun h => hne (by simp [AV.blockOf, h])
    split at hu
    · rw [Option.bind_eq_some_iff] at hu
      obtain ⟨e0, _, hu⟩ := hu
      split at hu
      · cases hu; exact hset _ _ hb
      · cases hu
    · cases hu
  case append sz bytes s y =>
    simp only [XOp.addr, Option.some.injEq] at ha
    subst ha
    simp only [xop, Option.bind_eq_some_iff] at h
    obtain ⟨ys, _, h⟩ := h
    unfold appendAV at h
    split at h
    · cases h
    · split at h
      · split at h
        · cases h; exact hk
        · split at h
          · cases h; exact get_mono hk
          · cases h
      · rename_i b off len hv
        have hb : b ≠ c := fun h => hne (by rw [hv]; simp [AV.blockOf, h])
        split at h
        · cases h; exact hk
        · split at h
          · split at h
            · cases h
            · split at h
              · split at h
                · cases h; exact get_mono (hset _ _ hb)
                · cases h
              · split at h
                · cases h; exact hset _ _ hb
                · cases h
          · cases h
      · cases h
  all_goals exact absurd hw (by simp [XOp.writes])

/-- A look and a write that have to do with different blocks. -/
theorem dyn_flip {x y : XOper} {p : Arg × Arg} (hd : dyn X x y = some p) (hne : differ (p.1.ev e) (p.2.ev e) = true) {r : Env × Heap} (h : (oper X C x e H).bind (fun r => oper X C y r.1 r.2) = some r) : (oper X C y e H).bind (fun r => oper X C x r.1 r.2) = some r := by
  unfold dyn at hd
  split at hd
  · rename_i hc
    simp only [Bool.and_eq_true, decide_eq_true_eq] at hc
    obtain ⟨⟨ha, hl⟩, hw⟩ := hc
    simp only [Option.bind_eq_some_iff, Option.map_eq_some_iff] at hd
    obtain ⟨a, hxa, b, hyb, rfl⟩ := hd
    obtain ⟨a1, a2, a3⟩ := apart_spec ha
    rw [Option.bind_eq_some_iff] at h ⊢
    obtain ⟨s, hx, hy⟩ := h
    rw [oper_eq] at hx hy
    have a2' : ∀ t, y.dst = some t → x.dst ≠ some t := fun t h1 h2 => a2 t h2 h1
    rcases hx with ⟨gx, v, H1, hx, rfl⟩ | ⟨gx, rfl⟩ <;> rcases hy with ⟨gy, u, H2, hy, rfl⟩ | ⟨gy, rfl⟩
    · rw [looks_wanted a1] at gy
      rw [looks_xop a1] at hy
      obtain ⟨hh, _⟩ := look_frame hl hxa hx (K := H) fun _ _ _ h => h
      subst hh
      have k2 : xop X C x.op e H2 = some (v, H2) := (look_frame hl hxa hx fun c k hc hk => write_frame hw hyb hy (by
        intro hbc
        simp only [differ, hc, hbc, Nat.beq_refl] at hne
        simp at hne) hk).2
      refine ⟨(putDst e y.dst u, H2), oper_eq.2 (.inl ⟨gy, u, H2, hy, rfl⟩), oper_eq.2 (.inl ⟨by rw [looks_wanted a3]; exact gx, v, H2, by rw [looks_xop a3]; exact k2, ?_⟩)⟩
      rw [put_put a2]
    · rw [looks_wanted a1] at gy
      refine ⟨(putDst e y.dst (.tuple []), H), oper_eq.2 (.inr ⟨gy, rfl⟩), oper_eq.2 (.inl ⟨by rw [looks_wanted a3]; exact gx, v, H1, by rw [looks_xop a3]; exact hx, ?_⟩)⟩
      rw [put_put a2]
    · rw [looks_wanted a1] at gy
      rw [looks_xop a1] at hy
      refine ⟨(putDst e y.dst u, H2), oper_eq.2 (.inl ⟨gy, u, H2, hy, rfl⟩), oper_eq.2 (.inr ⟨by rw [looks_wanted a3]; exact gx, ?_⟩)⟩
      rw [put_put a2]
    · rw [looks_wanted a1] at gy
      refine ⟨(putDst e y.dst (.tuple []), H), oper_eq.2 (.inr ⟨gy, rfl⟩), oper_eq.2 (.inr ⟨by rw [looks_wanted a3]; exact gx, ?_⟩)⟩
      rw [put_put a2]
  · cases hd

/-- A register that no operation writes. -/
theorem opers_keeps {t : Nat} {r : Env × Heap} : ∀ {ops : List XOper} {e : Env} {H : Heap}, opers X C ops e H = some r → (∀ o ∈ ops, o.dst ≠ some t) → r.1 t = e t
  | [], e, H, h, _ => by simp only [opers, Option.some.injEq] at h; subst h; rfl
  | o :: ops, e, H, h, hw => by
    simp only [opers, Option.bind_eq_some_iff] at h
    obtain ⟨s, h1, h⟩ := h
    rw [opers_keeps h fun o ho => hw o (List.mem_cons_of_mem _ ho)]
    rcases oper_eq.1 h1 with ⟨_, v, H', _, rfl⟩ | ⟨_, rfl⟩
    · exact put_other (hw o List.mem_cons_self)
    · exact put_other (hw o List.mem_cons_self)

theorem ev_keeps {x : Arg} {r : Env × Heap} {ops : List XOper} (h : opers X C ops e H = some r) (hw : ∀ t ∈ x.tmps, ∀ o ∈ ops, o.dst ≠ some t) : x.ev r.1 = x.ev e := by
  cases x with
  | const v => rfl
  | tmp t => exact opers_keeps h (hw t (by simp [Arg.tmps]))

theorem stable_tail {x : XOper} {l : List XOper} (h : stable (x :: l) = true) : stable l = true := by
  simp only [stable, Bool.and_eq_true] at h; exact h.2

theorem stable_head {x : XOper} {l : List XOper} (h : stable (x :: l) = true) {a : Arg} (ha : x.op.addr = some a) : ∀ t ∈ a.tmps, ∀ o ∈ x :: l, o.dst ≠ some t := by
  simp only [stable, Bool.and_eq_true, ha, List.all_eq_true] at h
  intro t ht o ho
  have := h.1 t ht o ho
  simpa using this

theorem stable_mid {x : XOper} {post : List XOper} : ∀ {pre : List XOper}, stable (pre ++ x :: post) = true → stable (x :: post) = true
  | [], h => h
  | _ :: _, h => stable_mid (stable_tail h)

theorem stable_cut {x : XOper} {post : List XOper} : ∀ {pre : List XOper}, stable (pre ++ x :: post) = true → stable (pre ++ post) = true
  | [], h => stable_tail h
  | z :: pre, h => by
    have h1 := stable_cut (stable_tail h)
    simp only [List.cons_append, stable, Bool.and_eq_true] at h ⊢
    refine ⟨?_, h1⟩
    have := h.1
    split at this
    · rename_i a ha
      rw [List.all_eq_true] at this ⊢
      intro t ht
      have := this t ht
      rw [List.all_eq_true] at this ⊢
      intro o ho
      refine this o ?_
      simp only [List.mem_cons, List.mem_append] at ho ⊢
      rcases ho with h | h | h
      · exact .inl h
      · exact .inr (.inl h)
      · exact .inr (.inr (.inr h))
    · rfl

/-- May 'x' go ahead of 'z', where all ends in this environment? -/
def Goes (X : Prog) (ef : Env) (D : Prop) (z x : XOper) : Prop := flips X z x = true ∨ (D ∧ ∃ p, dyn X z x = some p ∧ differ (p.1.ev ef) (p.2.ev ef) = true)

theorem Goes.apart {ef : Env} {D : Prop} {z x : XOper} (h : Goes X ef D z x) : apart z x = true := by
  rcases h with h | ⟨_, p, h, _⟩
  · simp only [flips, Bool.and_eq_true] at h; exact h.1
  · unfold dyn at h
    split at h
    · rename_i hc; simp only [Bool.and_eq_true] at hc; exact hc.1.1
    · cases h

theorem dyn_addr {z x : XOper} {p : Arg × Arg} (h : dyn X z x = some p) : z.op.addr = some p.1 ∧ x.op.addr = some p.2 := by
  unfold dyn at h
  split at h
  · simp only [Option.bind_eq_some_iff, Option.map_eq_some_iff] at h
    obtain ⟨a, h1, b, h2, rfl⟩ := h
    exact ⟨h1, h2⟩
  · cases h

theorem addr_looks {x : XOper} {b : Arg} (h : x.op.addr = some b) : ∀ t ∈ b.tmps, t ∈ x.looks := by
  intro t ht
  unfold XOper.looks
  refine List.mem_append_left _ (List.mem_flatMap.2 ⟨b, ?_, ht⟩)
  cases hx : x.op <;> rw [hx] at h <;> simp [XOp.addr] at h <;> subst h <;> simp [XOp.args]

/-- An operation moves ahead of all that it may change places with. -/
theorem opers_front {D : Prop} {x : XOper} {r : Env × Heap} {post : List XOper} : ∀ {pre : List XOper} {e : Env} {H : Heap}, (∀ z ∈ pre, Goes X r.1 D z x) → (D → stable (pre ++ x :: post) = true) → opers X C (pre ++ x :: post) e H = some r → opers X C (x :: (pre ++ post)) e H = some r
  | [], e, H, _, _, h => h
  | z :: pre, e, H, hz, hst, h => by
    have hfull := h
    simp only [List.cons_append, opers, Option.bind_eq_some_iff] at h
    obtain ⟨s, h1, h⟩ := h
    have := opers_front (fun y hy => hz y (List.mem_cons_of_mem _ hy)) (fun hD => stable_tail (hst hD)) h
    simp only [opers, Option.bind_eq_some_iff] at this
    obtain ⟨s', h2, h3⟩ := this
    have hfl : (oper X C x e H).bind (fun r => oper X C z r.1 r.2) = some s' := by
      rcases hz z List.mem_cons_self with hg | ⟨hD, p, hp, hne⟩
      · exact oper_flip hg (by rw [h1]; exact h2)
      · refine dyn_flip hp ?_ (by rw [h1]; exact h2)
        obtain ⟨pa, pb⟩ := dyn_addr hp
        have e1 : p.1.ev r.1 = p.1.ev e := ev_keeps hfull (by simpa using stable_head (hst hD) pa)
        have e2 : p.2.ev r.1 = p.2.ev e := ev_keeps hfull (by
          intro t ht o ho
          have hx := stable_head (stable_mid (pre := z :: pre) (hst hD)) pb t ht
          have htl := addr_looks pb t ht
          rcases List.mem_append.1 ho with ho | ho
          · exact fun hd => (apart_spec (Goes.apart (hz o ho))).1 t hd htl
          · exact hx o ho)
        rw [← e1, ← e2]; exact hne
    rw [Option.bind_eq_some_iff] at hfl
    obtain ⟨s'', h4, h5⟩ := hfl
    simp only [List.cons_append, opers, Option.bind_eq_some_iff]
    exact ⟨s'', h4, s', h5, h3⟩
end
end X
end Go.Proofs.YtkaigfcjejabfaaGreatDoor
