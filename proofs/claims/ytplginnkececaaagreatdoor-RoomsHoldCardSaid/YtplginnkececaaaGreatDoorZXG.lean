/- Snapshots and calls of the engine's are sound. Calls that see only what is written out, and hand out new memory. The engine's regions, code and functions are sound. No condition. -/
import Derived.Test.YtplginnkececaaaGreatDoorZXQ
set_option linter.unusedSimpArgs false
set_option linter.unusedVariables false
namespace Go.Proofs.YtplginnkececaaaGreatDoor
open Go
namespace X

section
variable {P : Program} {G : Nat → Option AV} {w : World} {σ : Nat → Prop} {μ : Mu} {B : Nat} {H : Heap}

theorem mapM_cons_some {α β : Type} {f : α → Option β} {x : α} {xs : List α} {ys : List β} (h : (x :: xs).mapM f = some ys) : ∃ y ys', f x = some y ∧ xs.mapM f = some ys' ∧ ys = y :: ys' := by
  simp only [List.mapM_cons, Option.pure_def, Option.bind_eq_bind, Option.bind_eq_some_iff, Option.some.injEq] at h
  obtain ⟨y, hy, ys', hys, rfl⟩ := h
  exact ⟨y, ys', hy, hys, rfl⟩

theorem RVs.mapM {μ' : Mu} {w' : World} {T : Nat → Prop} {f : AV → Option AV} : ∀ {vs us : List AV} {xs : List Value}, vs.mapM f = some us → RVs w σ μ vs xs → (∀ v ∈ vs, ∀ u x, f v = some u → RV w σ μ v x → RV w' T μ' u x) → RVs w' T μ' us xs
  | [], us, xs, h, hr, _ => by simp at h; subst h; cases hr; exact .nil _
  | v :: vs, us, xs, h, hr, hf => by
    obtain ⟨y, ys, h1, h2, rfl⟩ := mapM_cons_some h
    cases hr with
    | cons _ _ x _ xs hv hs => exact .cons _ _ _ _ _ (hf v (by simp) y x h1 hv) (RVs.mapM h2 hs fun v hv => hf v (by simp [hv]))

theorem snap_storable {k : Nat} {v u : AV} (h : snap H k v = some u) (hv : v.storable = true) : u.storable = true ∧ u.cells = [u] := by
  cases k with
  | zero => simp [snap] at h
  | succ k =>
    unfold snap at h
    split at h
    · cases h; exact ⟨rfl, rfl⟩
    · split at h
      · split at h
        · rw [Option.map_eq_some_iff] at h; obtain ⟨_, _, rfl⟩ := h; exact ⟨rfl, rfl⟩
        · cases h
      · cases h
    · split at h
      · simp only [Option.bind_eq_some_iff, Option.map_eq_some_iff] at h; obtain ⟨_, _, _, _, rfl⟩ := h; exact ⟨rfl, rfl⟩
      · cases h
    · split at h
      · simp only [Option.bind_eq_some_iff, Option.map_eq_some_iff] at h; obtain ⟨_, _, _, _, rfl⟩ := h; exact ⟨rfl, rfl⟩
      · cases h
    · cases h
    · rw [Option.map_eq_some_iff] at h; obtain ⟨_, _, rfl⟩ := h; exact ⟨rfl, rfl⟩
    · rw [Option.map_eq_some_iff] at h; obtain ⟨_, _, rfl⟩ := h; exact ⟨rfl, rfl⟩
    · simp [AV.storable] at hv
    · simp [AV.storable] at hv
    · cases h
      cases v <;> first | (exact ⟨hv, rfl⟩) | simp_all [AV.storable]

inductive Md where
  | noRef | all | own
  | above (n : Nat)

def okb : Md → Nat → Prop
  | .noRef, _ => False
  | .all, _ | .own, _ => True
  | .above n, b => n ≤ b

def okv (md : Md) (H : Heap) (k : Nat) (v : AV) : Bool :=
  match md with
  | .noRef => noRef k v
  | .all => true
  | .own => ownOnly H k v
  | .above n => above H n k v

def OKV (md : Md) (H : Heap) (v : AV) : Prop := ∃ k, okv md H k v = true

theorem OKV.slice {md : Md} {b off len sz : Nat} {es : List AV} (h : OKV md H (.slice b off len)) (hb : H[b]? = some (.arr sz es)) : okb md b ∧ ∀ e ∈ (es.drop off).take len, OKV md H e := by
  obtain ⟨k, h⟩ := h
  cases md with
  | noRef => cases k <;> simp [okv, noRef] at h
  | all => exact ⟨trivial, fun e _ => ⟨0, rfl⟩⟩
  | own =>
    cases k with
    | zero => simp [okv, ownOnly] at h
    | succ k => simp only [okv, ownOnly, hb, List.all_eq_true] at h; exact ⟨trivial, fun e he => ⟨k, h e he⟩⟩
  | above n =>
    cases k with
    | zero => simp [okv, X.above] at h
    | succ k => simp only [okv, X.above, hb, Bool.and_eq_true, List.all_eq_true, Nat.ble_eq] at h; exact ⟨h.1, fun e he => ⟨k, h.2 e he⟩⟩

theorem OKV.ptr {md : Md} {b i off sz : Nat} {es : List AV} {e : AV} (h : OKV md H (.ptr b i off)) (hb : H[b]? = some (.arr sz es)) (hi : es[i]? = some e) : okb md b ∧ ∀ c ∈ e.cells.drop off, OKV md H c := by
  obtain ⟨k, h⟩ := h
  cases md with
  | noRef => cases k <;> simp [okv, noRef] at h
  | all => exact ⟨trivial, fun e _ => ⟨0, rfl⟩⟩
  | own =>
    cases k with
    | zero => simp [okv, ownOnly] at h
    | succ k => simp only [okv, ownOnly, hb, hi, List.all_eq_true] at h; exact ⟨trivial, fun e he => ⟨k, h e he⟩⟩
  | above n =>
    cases k with
    | zero => simp [okv, X.above] at h
    | succ k => simp only [okv, X.above, hb, hi, Bool.and_eq_true, List.all_eq_true, Nat.ble_eq] at h; exact ⟨h.1, fun e he => ⟨k, h.2 e he⟩⟩

theorem OKV.map {md : Md} {b : Nat} {ks vs : List AV} (h : OKV md H (.map b)) (hb : H[b]? = some (.map ks vs)) : okb md b ∧ (∀ c ∈ ks, OKV md H c) ∧ ∀ c ∈ vs, OKV md H c := by
  obtain ⟨k, h⟩ := h
  cases md with
  | noRef => cases k <;> simp [okv, noRef] at h
  | all => exact ⟨trivial, fun e _ => ⟨0, rfl⟩, fun e _ => ⟨0, rfl⟩⟩
  | own =>
    cases k with
    | zero => simp [okv, ownOnly] at h
    | succ k => simp only [okv, ownOnly, hb, Bool.and_eq_true, List.all_eq_true] at h; exact ⟨trivial, fun e he => ⟨k, h.1 e he⟩, fun e he => ⟨k, h.2 e he⟩⟩
  | above n =>
    cases k with
    | zero => simp [okv, X.above] at h
    | succ k => simp only [okv, X.above, hb, Bool.and_eq_true, List.all_eq_true, Nat.ble_eq] at h; exact ⟨h.1.1, fun e he => ⟨k, h.1.2 e he⟩, fun e he => ⟨k, h.2 e he⟩⟩

theorem OKV.agg {md : Md} {cs : List AV} (h : OKV md H (.agg cs)) : ∀ c ∈ cs, OKV md H c := by
  obtain ⟨k, h⟩ := h
  intro c hc
  cases md <;> cases k <;> first | (exact ⟨0, rfl⟩) | (simp [okv, noRef, ownOnly, X.above] at h; done) | (simp only [okv, noRef, ownOnly, X.above, List.all_eq_true] at h; exact ⟨_, h c hc⟩)

theorem OKV.tuple {md : Md} {cs : List AV} (h : OKV md H (.tuple cs)) : ∀ c ∈ cs, OKV md H c := by
  obtain ⟨k, h⟩ := h
  intro c hc
  cases md <;> cases k <;> first | (exact ⟨0, rfl⟩) | (simp [okv, noRef, ownOnly, X.above] at h; done) | (simp only [okv, noRef, ownOnly, X.above, List.all_eq_true] at h; exact ⟨_, h c hc⟩)

theorem OKV.iface {md : Md} {t : Nat} {v : AV} (h : OKV md H (.iface t v)) : OKV md H v := by
  obtain ⟨k, h⟩ := h
  cases md <;> cases k <;> first | (exact ⟨0, rfl⟩) | (simp [okv, noRef, ownOnly, X.above] at h; done) | (simp only [okv, noRef, ownOnly, X.above] at h; exact ⟨_, h⟩)

theorem OKV.func {md : Md} {f : Fn} {cap : List AV} (h : OKV md H (.func f cap)) : ∀ c ∈ cap, OKV md H c := by
  obtain ⟨k, h⟩ := h
  intro c hc
  cases md <;> cases k <;> first | (exact ⟨0, rfl⟩) | (simp [okv, noRef, ownOnly, X.above] at h; done) | (simp only [okv, noRef, ownOnly, X.above, List.all_eq_true] at h; exact ⟨_, h c hc⟩)

theorem OKV.cells {md : Md} {v : AV} (h : OKV md H v) : ∀ c ∈ v.cells, OKV md H c := by
  intro c hc
  cases v with
  | agg cs => exact h.agg c hc
  | _ => simp only [AV.cells, List.mem_singleton] at hc; subst hc; exact h

theorem OKV.pure {md : Md} {v : AV} (h : OKV md H v) : md ≠ .own ∨ (∀ u us, v ≠ .vslice (u :: us)) ∧ (∀ cs, v ≠ .vptr cs) ∧ ∀ ks vs, v ≠ .vmap ks vs := by
  obtain ⟨k, h⟩ := h
  cases md with
  | own =>
    right
    cases k with
    | zero => simp [okv, ownOnly] at h
    | succ k => refine ⟨fun u us e => ?_, fun cs e => ?_, fun ks vs e => ?_⟩ <;> subst e <;> simp [okv, ownOnly] at h
  | _ => left; simp

theorem snap_cells {k : Nat} {w' : World} {T : Nat → Prop} {μ' : Mu} {md : Md} (ih : ∀ {j : Nat} {v u : AV} {x : Value}, j ≤ k → snap H j v = some u → RV w σ μ v x → OKV md H v → RV w' T μ' u x) {e u : AV} (h : snap H k e = some u) (hst : e.cells.all AV.storable = true)
    (hok : ∀ c ∈ e.cells, OKV md H c) {xs : List Value} (hx : RVs w σ μ e.cells xs) : RVs w' T μ' u.cells xs ∧ u.cells.length = e.cells.length ∧ u.cells.all AV.storable = true := by
  have hmap : ∀ {j : Nat}, j ≤ k → ∀ {cs us : List AV} {xs : List Value}, cs.mapM (snap H j) = some us → (∀ c ∈ cs, c.storable = true ∧ OKV md H c) → RVs w σ μ cs xs → RVs w' T μ' us xs ∧ us.length = cs.length ∧ us.all AV.storable = true := by
    intro j hj cs
    induction cs with
    | nil => intro us xs h _ hx; simp at h; subst h; cases hx; exact ⟨.nil _, rfl, rfl⟩
    | cons c cs ihc =>
      intro us xs h hs hx
      obtain ⟨y, ys, h1, h2, rfl⟩ := mapM_cons_some h
      cases hx with
      | cons _ _ x _ xs hv hxs =>
        obtain ⟨a1, a2, a3⟩ := ihc h2 (fun c hc => hs c (by simp [hc])) hxs
        exact ⟨.cons _ _ _ _ _ (ih hj h1 hv (hs c (by simp)).2) a1, by simp [a2], by simp [(snap_storable h1 (hs c (by simp)).1).1, a3]⟩
  rw [List.all_eq_true] at hst
  by_cases hag : ∃ cs, e = .agg cs
  · obtain ⟨cs, rfl⟩ := hag
    cases k with
    | zero => simp [snap] at h
    | succ k =>
      simp only [snap, Option.map_eq_some_iff] at h
      obtain ⟨us, hus, rfl⟩ := h
      exact hmap (Nat.le_succ _) hus (fun c hc => ⟨hst c hc, hok c hc⟩) hx
  · have hc : e.cells = [e] := by
      cases e <;> first | rfl | exact (hag ⟨_, rfl⟩).elim
    rw [hc] at hst hx hok
    have hes : e.storable = true := hst e (by simp)
    obtain ⟨g1, g2⟩ := snap_storable h hes
    rw [hc, g2]
    cases hx with
    | cons _ _ x _ xs hv hxs => cases hxs; exact ⟨.cons _ _ _ _ _ (ih (Nat.le_refl _) h hv (hok e (by simp))) (.nil _), rfl, by simp [g1]⟩

theorem snap_elems {k : Nat} {w' : World} {T : Nat → Prop} {μ' : Mu} {md : Md} {sz : Nat} (ih : ∀ {j : Nat} {v u : AV} {x : Value}, j ≤ k → snap H j v = some u → RV w σ μ v x → OKV md H v → RV w' T μ' u x) : ∀ {es us : List AV} {xs : List Value}, es.mapM (snap H k) = some us →
    (∀ e ∈ es, e.cells.length = sz ∧ e.cells.all AV.storable = true) → (∀ e ∈ es, OKV md H e) → RVs w σ μ (es.flatMap AV.cells) xs →
    RVs w' T μ' (us.flatMap AV.cells) xs ∧ us.length = es.length ∧ ∀ e ∈ us, e.cells.length = sz ∧ e.cells.all AV.storable = true
  | [], us, xs, h, _, _, hx => by simp at h; subst h; cases hx; exact ⟨.nil _, rfl, fun e he => by cases he⟩
  | e :: es, us, xs, h, hs, hok, hx => by
    obtain ⟨u, us', h1, h2, rfl⟩ := mapM_cons_some h
    rw [List.flatMap_cons] at hx
    obtain ⟨x1, x2⟩ := hx.split
    obtain ⟨a1, a2, a3⟩ := snap_cells ih h1 (hs e (by simp)).2 (hok e (by simp)).cells x1
    obtain ⟨b1, b2, b3⟩ := snap_elems ih h2 (fun e he => hs e (by simp [he])) (fun e he => hok e (by simp [he])) x2
    refine ⟨?_, by simp [b2], ?_⟩
    · rw [List.flatMap_cons]
      have := a1.append b1
      rwa [List.take_append_drop] at this
    · intro q hq
      rcases List.mem_cons.1 hq with rfl | hq
      · exact ⟨by rw [a2]; exact (hs e (by simp)).1, a3⟩
      · exact b3 q hq

theorem snap_ok {md : Md} {T : Nat → Prop} (hr : HR G B σ μ H w) (hT : md ≠ .own → ∀ b, σ b → T b) (hO : ∀ b k m, H[b]? = some k → k.alive → μ b = some m → okb md b → T m.rb) : ∀ {k : Nat} {v u : AV} {x : Value}, snap H k v = some u → RV w σ μ v x → OKV md H v →
    RV w T noMu u x := by
  intro k
  induction k using Nat.strongRecOn with
  | _ k ihk =>
  intro v u x h hx hok
  cases k with
  | zero => simp [snap] at h
  | succ k =>
    have ih : ∀ {j : Nat} {v u : AV} {x : Value}, j ≤ k → snap H j v = some u → RV w σ μ v x → OKV md H v → RV w T noMu u x := fun hj h hx hok => ihk _ (Nat.lt_succ_of_le hj) h hx hok
    unfold snap at h
    split at h
    · cases h; rw [hx.nilslice_inv]; exact .vslice0 _ _ _
    · rename_i b off len
      split at h
      · rename_i sz es hb
        split at h
        · rename_i hle
          rw [Option.map_eq_some_iff] at h
          obtain ⟨us, hus, rfl⟩ := h
          obtain ⟨cap, m, rfl, hm, g1, g2, g3⟩ := hx.slice_inv
          obtain ⟨b1, b2, b3, b4, c, ty, b5, b6, vs, b7, b8⟩ := hr.blk b _ m hb hm
          have hall : ∀ e ∈ es, e.cells.length = sz := fun e h => (b3 e h).1
          obtain ⟨o1, o2⟩ := hok.slice hb
          have hsub : ∀ e ∈ (es.drop off).take len, e ∈ es := fun e he => List.mem_of_mem_drop (List.mem_of_mem_take he)
          have hv2 : RVs w σ μ (((es.drop off).take len).flatMap AV.cells) ((vs.drop (off * sz)).take (len * sz)) := by
            rw [flat_take len (fun e h => hall e (List.mem_of_mem_drop h)), flat_drop off hall]
            exact (b7.drop _).take _
          obtain ⟨a1, a2, a3⟩ := snap_elems ih hus (fun e he => b3 e (hsub e he)) o2 hv2
          have hl : us.length = len := by rw [a2]; simp; omega
          rw [← hl]
          have hvl := b7.length
          rw [flat_length hall] at hvl
          exact .vslice _ us m.rb (m.ro + off * m.sz) c ty (0, 0) _ sz cap (hO b _ m hb trivial hm o1) b5 (by
            intro i hi
            simp only [List.length_take, List.length_drop] at hi
            rw [Nat.add_assoc, b1, b8 _ (by omega), List.getElem?_take_of_lt (by omega), List.getElem?_drop]) a3 a1 (by omega)
        · cases h
      · cases h
    · rename_i b i off
      split at h
      · rename_i sz es hb
        simp only [Option.bind_eq_some_iff, Option.map_eq_some_iff] at h
        obtain ⟨e0, he0, us, hus, rfl⟩ := h
        obtain ⟨m, rfl, hm⟩ := hx.ptr_inv
        have hbr := hr.blk b _ m hb hm
        obtain ⟨b1, b2, b3, b4, c, ty, b5, b6, vs, b7, b8⟩ := hbr
        obtain ⟨o1, o2⟩ := hok.ptr hb he0
        have hall : ∀ e ∈ es, e.cells.length = sz := fun e h => (b3 e h).1
        have hc0 := flat_mem hall he0
        have hlt := (List.getElem?_eq_some_iff.1 he0).1
        have hle : i * sz + sz ≤ es.length * sz := by rw [← Nat.succ_mul]; exact Nat.mul_le_mul_right _ hlt
        have hvl := b7.length
        rw [flat_length hall] at hvl
        have hcs : RVs w σ μ (e0.cells.drop off) (((vs.drop (i * sz)).take sz).drop off) := by rw [hc0]; exact ((b7.drop _).take _).drop _
        have hus' : RVs w T noMu us (((vs.drop (i * sz)).take sz).drop off) := RVs.mapM hus hcs (fun v hv u x h1 h2 => ih (Nat.le_refl _) h1 h2 (o2 v hv))
        exact .vptr _ us m.rb (m.ro + i * m.sz + off) c ty (0, 0) _ (hO b _ m hb trivial hm o1) b5 (by
          intro j hj
          simp only [List.length_drop, List.length_take] at hj
          rw [List.getElem?_drop, List.getElem?_take_of_lt (by omega), List.getElem?_drop, ← b8 _ (by omega), b1]
          congr 1; omega) hus'
      · cases h
    · rename_i b
      split at h
      · rename_i ks vs hb
        simp only [Option.bind_eq_some_iff, Option.map_eq_some_iff] at h
        obtain ⟨ks', hks, vs', hvs, rfl⟩ := h
        obtain ⟨m, rfl, hm⟩ := hx.map_inv
        obtain ⟨en, clock, b1, b2, b3, b4⟩ := hr.blk b _ m hb hm
        obtain ⟨o1, o2, o3⟩ := hok.map hb
        exact .vmap _ ks' vs' m.rb en clock (hO b _ m hb trivial hm o1) b1 b4 (RVs.mapM hks b2 (fun v hv u x h1 h2 => ih (Nat.le_refl _) h1 h2 (o2 v hv))) (RVs.mapM hvs b3 (fun v hv u x h1 h2 => ih (Nat.le_refl _) h1 h2 (o3 v hv)))
      · cases h
    · cases h
    · rename_i fn cap
      rw [Option.map_eq_some_iff] at h
      obtain ⟨us, hus, rfl⟩ := h
      obtain ⟨f, xs, rfl, rfl, hxs⟩ := hx.func_inv
      exact .func _ f us xs (RVs.mapM hus hxs (fun v hv u x h1 h2 => ih (Nat.le_refl _) h1 h2 (hok.func v hv)))
    · rename_i t v
      rw [Option.map_eq_some_iff] at h
      obtain ⟨u', hu, rfl⟩ := h
      obtain ⟨y, rfl, hy⟩ := hx.iface_inv
      exact .iface _ t u' y (ih (Nat.le_refl _) hu hy hok.iface)
    · rename_i cs
      rw [Option.map_eq_some_iff] at h
      obtain ⟨us, hus, rfl⟩ := h
      obtain ⟨xs, rfl, hxs⟩ := hx.agg_inv
      exact .agg _ us xs (RVs.mapM hus hxs (fun v hv u x h1 h2 => ih (Nat.le_refl _) h1 h2 (hok.agg v hv)))
    · rename_i cs
      rw [Option.map_eq_some_iff] at h
      obtain ⟨us, hus, rfl⟩ := h
      obtain ⟨xs, rfl, hxs⟩ := hx.tuple_inv
      exact .tuple _ us xs (RVs.mapM hus hxs (fun v hv u x h1 h2 => ih (Nat.le_refl _) h1 h2 (hok.tuple v hv)))
    · cases h
      rcases hok.pure with hp | ⟨p1, p2, p3⟩
      · cases hx <;> first
          | (constructor; done)
          | (simp_all; done)
          | exact .vptr _ _ _ _ _ _ _ _ (hT hp _ ‹_›) ‹_› ‹_› (RVs.mono (fun b hb => ⟨hT hp b hb, rfl⟩) ‹_› fun _ _ h => h)
          | exact .vslice _ _ _ _ _ _ _ _ _ _ (hT hp _ ‹_›) ‹_› ‹_› ‹_› (RVs.mono (fun b hb => ⟨hT hp b hb, rfl⟩) ‹_› fun _ _ h => h) ‹_›
          | exact .vmap _ _ _ _ _ _ (hT hp _ ‹_›) ‹_› ‹_› (RVs.mono (fun b hb => ⟨hT hp b hb, rfl⟩) ‹_› fun _ _ h => h) (RVs.mono (fun b hb => ⟨hT hp b hb, rfl⟩) ‹_› fun _ _ h => h)
      · cases hx with
        | vptr => exact (p2 _ rfl).elim
        | vmap => exact (p3 _ _ rfl).elim
        | vslice _ es _ _ _ _ _ _ _ _ _ _ _ _ _ _ =>
          cases es with
          | nil => exact .vslice0 _ _ _
          | cons u us => exact (p1 _ _ rfl).elim
        | vslice0 => exact .vslice0 _ _ _
        | undef => exact .undef _ _
        | bool => exact .bool _ _
        | int => exact .int _ _ _
        | str => exact .str _ _
        | nilptr => exact .nilptr _
        | nilslice => exact .nilslice _
        | nilmap => exact .nilmap _
        | nilfunc => exact .nilfunc _
        | niliface => exact .niliface _
        | _ => simp_all

def CallOK (P : Program) (f : Nat) (xs : List Value) (w : World) (R : Value → World → Prop) : Prop :=
  match (callFunc f xs.toArray).run P w with
  | .ok (.value v) w' => R v w'
  | .ok (.enter g as) w' => Calls P g as w' fun e w'' => ∃ v, e = .returned v ∧ R v w''
  | _ => False

theorem CallOK.mono {f : Nat} {xs : List Value} {R R' : Value → World → Prop} (h : CallOK P f xs w R) (hr : ∀ v w', R v w' → R' v w') : CallOK P f xs w R' := by
  unfold CallOK at *
  split at h
  · exact hr _ _ h
  · exact h.mono fun e w'' ⟨v, he, hv⟩ => ⟨v, he, hr _ _ hv⟩
  · exact h.elim

def SharedOK (P : Program) (G : Nat → Option AV) (f : Nat) (args : List AV) (H : Heap) (r : AV × Heap) : Prop :=
  ∀ B σ μ w xs, HR G B σ μ H w → RVs w σ μ args xs → CallOK P f xs w (Post G B σ μ w r)

def OracleOK (P : Program) (G : Nat → Option AV) (C : Oracle) : Prop := ∀ f args H r, C f args H = some r → SharedOK P G f args H r

def grownBy (σ : Nat → Prop) (n m : Nat) : Nat → Prop := fun b => σ b ∨ (n ≤ b ∧ b < m)

def PurePost (σ : Nat → Prop) (w : World) (v : AV) (x : Value) (w' : World) : Prop :=
  RV w' (grownBy σ w.heap.size w'.heap.size) noMu v x ∧ (∀ b, b < w.heap.size → w'.heap[b]? = w.heap[b]?) ∧ w.heap.size ≤ w'.heap.size ∧ Same w w'

def PureOK (P : Program) (G : Nat → Option AV) (f : Nat) (args : List AV) (v : AV) : Prop :=
  ∀ (σ : Nat → Prop) (w : World) (xs : List Value), (∀ b, σ b → b < w.heap.size) → (∀ g v, G g = some v → RV w σ noMu v (.pointer (some ⟨g, 0, none⟩))) → RVs w σ noMu args xs → CallOK P f xs w (PurePost σ w v)

theorem HR.empty {σ : Nat → Prop} (h1 : ∀ b, σ b → b < w.heap.size) (hg : ∀ g v, G g = some v → RV w σ noMu v (.pointer (some ⟨g, 0, none⟩))) : HR G w.heap.size σ noMu [] w :=
  ⟨(fun b m h => by cases h), (fun b h => by simp at h), h1, Nat.le_refl _, hg, (fun b k m h => by simp at h), (fun b k m h => by simp at h), (fun b b' k k' m m' h => by simp at h)⟩

theorem pure_ok {C : Oracle} (hC : OracleOK P G C) {f : Nat} {args : List AV} {r : AV × Heap} (h : C f args [] = some r) {v : AV} (hs : snap r.2 deep r.1 = some v) : PureOK P G f args v := by
  intro σ w xs h1 hg hx
  refine (hC f args [] r h w.heap.size σ noMu w xs (HR.empty h1 hg) hx).mono ?_
  rintro x w' ⟨σ', μ', hr, hv, hst⟩
  refine ⟨?_, hst.old, hst.size, hst.out⟩
  refine snap_ok (md := .all) (T := grownBy σ w.heap.size w'.heap.size) hr (fun _ b hb => ?_) (fun b k m hb ha hm _ => ?_) hs hv ⟨0, rfl⟩
  · rcases hst.new b hb with h | h
    · exact .inl h
    · exact .inr ⟨h, hr.st b hb⟩
  · obtain ⟨a1, a2, _⟩ := hr.own b k m hb ha hm
    exact .inr ⟨a1, a2⟩

theorem own_ok {C : Oracle} (hC : OracleOK P G C) {f : Nat} {args : List AV} {r : AV × Heap} (h : C f args [] = some r) {v : AV} (hs : snap r.2 deep r.1 = some v) (ho : ownOnly r.2 deep r.1 = true) {σ : Nat → Prop} {xs : List Value}
    (h1 : ∀ b, σ b → b < w.heap.size) (hg : ∀ g v, G g = some v → RV w σ noMu v (.pointer (some ⟨g, 0, none⟩))) (hx : RVs w σ noMu args xs) : CallOK P f xs w (PurePost (fun _ => False) w v) := by
  refine (hC f args [] r h w.heap.size σ noMu w xs (HR.empty h1 hg) hx).mono ?_
  rintro x w' ⟨σ', μ', hr, hv, hst⟩
  refine ⟨?_, hst.old, hst.size, hst.out⟩
  refine snap_ok (md := .own) (T := grownBy (fun _ => False) w.heap.size w'.heap.size) hr (fun hne => (hne rfl).elim) (fun b k m hb ha hm _ => ?_) hs hv ⟨deep, ho⟩
  obtain ⟨a1, a2, _⟩ := hr.own b k m hb ha hm
  exact .inr ⟨a1, a2⟩

theorem flats {vs : List AV} {xs : List Value} {μ' : Mu} {T : Nat → Prop} (h : RVs w σ μ vs xs) (hv : ∀ v ∈ vs, ∀ x, RV w σ μ v x → RV w T μ' v x) : RVs w T μ' vs xs := by
  induction vs generalizing xs with
  | nil => cases h; exact .nil _
  | cons v vs ih =>
    cases h with
    | cons _ _ x _ xs h hs => exact .cons _ _ _ _ _ (hv v (by simp) x h) (ih hs fun u hu => hv u (by simp [hu]))

theorem RV.flat : ∀ {k : Nat} {v : AV}, ownOnly [] k v = true → ∀ {x : Value} {μ' : Mu} {T : Nat → Prop}, RV w σ μ v x → RV w T μ' v x
  | 0, v, h, _, _, _, _ => by simp [ownOnly] at h
  | k + 1, v, h, x, μ', T, hr => by
    cases hr with
    | undef => exact .undef _ _
    | bool => exact .bool _ _
    | int => exact .int _ _ _
    | str => exact .str _ _
    | nilptr => exact .nilptr _
    | nilslice => exact .nilslice _
    | nilmap => exact .nilmap _
    | nilfunc => exact .nilfunc _
    | niliface => exact .niliface _
    | ptr => simp [ownOnly] at h
    | slice => simp [ownOnly] at h
    | map => simp [ownOnly] at h
    | iter => simp [ownOnly] at h
    | vptr => simp [ownOnly] at h
    | vslice0 => exact .vslice0 _ _ _
    | vslice _ es =>
      cases es with
      | nil => exact .vslice0 _ _ _
      | cons => simp [ownOnly] at h
    | vmap => simp [ownOnly] at h
    | func => simp [ownOnly] at h
    | iface _ _ _ _ hv => simp only [ownOnly] at h; exact .iface _ _ _ _ (RV.flat h hv)
    | agg _ _ xs hs => simp only [ownOnly, List.all_eq_true] at h; exact .agg _ _ _ (flats hs fun u hu y hy => RV.flat (h u hu) hy)
    | tuple _ _ xs hs => simp only [ownOnly, List.all_eq_true] at h; exact .tuple _ _ _ (flats hs fun u hu y hy => RV.flat (h u hu) hy)

def PrimOK (P : Program) (G : Nat → Option AV) (X : Prog) : Prop := ∀ f args v, X.prim f args = some v → PureOK P G f args v

theorem after_pure {T : Nat → Prop} (hr : HR G B σ μ H w) {w' : World} {v : AV} {x : Value} (h : PurePost T w v x w') (hT : ∀ b, T b → σ b) : Post G B σ μ w (v, H) x w' := by
  obtain ⟨h1, h2, h3, h4⟩ := h
  obtain ⟨g1, g2⟩ := hr.more h3 h2 (σ' := grownBy σ w.heap.size w'.heap.size) (fun b hb => .inl hb) (fun b hb => hb) h4
  exact ⟨_, _, g1, h1.mono (fun b hb => ⟨hb.imp (hT b) id, rfl⟩) (fun _ _ h => by cases h), g2⟩

theorem pureCall_ok {X : Prog} {C : Oracle} (hC : OracleOK P G C) (hP : PrimOK P G X) {f : Nat} {args : List AV} {v : AV} (h : pureCall X C f args H = some v) (hr : HR G B σ μ H w) {xs : List Value} (hx : RVs w σ μ args xs) :
    CallOK P f xs w (Post G B σ μ w (v, H)) := by
  unfold pureCall at h
  simp only [Option.bind_eq_some_iff] at h
  obtain ⟨as, has, h⟩ := h
  have hall : RVs w (fun b => b < w.heap.size) noMu as xs := RVs.mapM has hx fun u _ s y h1 h2 =>
    snap_ok (md := .all) hr (fun _ b hb => hr.st b hb) (fun b k m hb ha hm _ => (hr.own b k m hb ha hm).2.1) h1 h2 ⟨0, rfl⟩
  have hglob : ∀ g v, G g = some v → RV w (fun b => b < w.heap.size) noMu v (.pointer (some ⟨g, 0, none⟩)) := fun g v hg => (hr.glob g v hg).mono (fun b hb => ⟨hr.st b hb, rfl⟩) fun _ _ h => h
  have hnr : args.all (noRef deep) = true → RVs w σ noMu as xs := fun hn => RVs.mapM has hx fun u hu s y h1 h2 =>
    snap_ok (md := .noRef) hr (fun _ b hb => hb) (fun b k m _ _ _ h => h.elim) h1 h2 ⟨deep, List.all_eq_true.1 hn u hu⟩
  split at h
  · rename_i u hu
    split at h
    · rename_i hn
      cases h
      exact (hP f as v hu σ w xs hr.st hr.glob (hnr hn)).mono fun x w' hp => after_pure hr hp fun _ h => h
    · split at h
      · rename_i hfl
        cases h
        rw [Bool.and_eq_true] at hfl
        refine (hP f as v hu _ w xs (fun b hb => hb) hglob hall).mono fun x w' ⟨p1, p2, p3, p4⟩ => ?_
        refine after_pure (T := fun _ => False) hr ⟨?_, p2, p3, p4⟩ (fun _ h => h.elim)
        exact p1.flat hfl.2
      · cases h
  · simp only [Option.bind_eq_some_iff] at h
    obtain ⟨r, hr0, h⟩ := h
    split at h
    · rename_i hcond
      rcases Bool.or_eq_true _ _ ▸ hcond with hn | ho
      · exact (pure_ok hC hr0 h σ w xs hr.st hr.glob (hnr hn)).mono fun x w' hp => after_pure hr hp fun _ h => h
      · exact (own_ok hC hr0 h ho (fun b hb => hb) hglob hall).mono fun x w' hp => after_pure hr hp fun _ h => h.elim
    · cases h


theorem RV.lower {n : Nat} {μ' : Mu} (hμ : ∀ b m, μ b = some m → b < n → μ' b = some m) : ∀ {k : Nat} {v : AV}, X.below n k v = true → ∀ {x : Value}, RV w σ μ v x → RV w σ μ' v x
  | 0, v, h, _, _ => by simp [X.below] at h
  | k + 1, v, h, x, hr => by
    cases hr with
    | undef => exact .undef _ _
    | bool => exact .bool _ _
    | int => exact .int _ _ _
    | str => exact .str _ _
    | nilptr => exact .nilptr _
    | nilslice => exact .nilslice _
    | nilmap => exact .nilmap _
    | nilfunc => exact .nilfunc _
    | niliface => exact .niliface _
    | ptr _ _ _ _ m hm => simp only [X.below, Nat.blt_eq] at h; exact .ptr _ _ _ _ m (hμ _ _ hm h)
    | slice _ _ _ _ _ m hm h1 h2 h3 => simp only [X.below, Nat.blt_eq] at h; exact .slice _ _ _ _ _ m (hμ _ _ hm h) h1 h2 h3
    | map _ _ m hm => simp only [X.below, Nat.blt_eq] at h; exact .map _ _ m (hμ _ _ hm h)
    | iter _ _ m hm => simp only [X.below, Nat.blt_eq] at h; exact .iter _ _ m (hμ _ _ hm h)
    | vptr _ _ _ _ _ _ _ _ h1 h2 h3 h4 => exact .vptr _ _ _ _ _ _ _ _ h1 h2 h3 h4
    | vslice0 => exact .vslice0 _ _ _
    | vslice _ _ _ _ _ _ _ _ _ _ h1 h2 h3 h4 h5 h6 => exact .vslice _ _ _ _ _ _ _ _ _ _ h1 h2 h3 h4 h5 h6
    | vmap _ _ _ _ _ _ h1 h2 hb h3 h4 => exact .vmap _ _ _ _ _ _ h1 h2 hb h3 h4
    | func _ _ _ _ hs => simp only [X.below, List.all_eq_true] at h; exact .func _ _ _ _ (flats hs fun u hu y hy => RV.lower hμ (h u hu) hy)
    | iface _ _ _ _ hv => simp only [X.below] at h; exact .iface _ _ _ _ (RV.lower hμ h hv)
    | agg _ _ _ hs => simp only [X.below, List.all_eq_true] at h; exact .agg _ _ _ (flats hs fun u hu y hy => RV.lower hμ (h u hu) hy)
    | tuple _ _ _ hs => simp only [X.below, List.all_eq_true] at h; exact .tuple _ _ _ (flats hs fun u hu y hy => RV.lower hμ (h u hu) hy)

theorem below_more {n : Nat} : ∀ {k : Nat} {v : AV}, X.below n k v = true → X.below n (k + 1) v = true
  | 0, v, h => by simp [X.below] at h
  | k + 1, v, h => by
    cases v with
    | func f cap => simp only [X.below, List.all_eq_true] at h ⊢; exact fun u hu => by have := below_more (h u hu); simpa only [X.below] using this
    | iface t v => simp only [X.below] at h ⊢; have := below_more h; simpa only [X.below] using this
    | agg cs => simp only [X.below, List.all_eq_true] at h ⊢; exact fun u hu => by have := below_more (h u hu); simpa only [X.below] using this
    | tuple cs => simp only [X.below, List.all_eq_true] at h ⊢; exact fun u hu => by have := below_more (h u hu); simpa only [X.below] using this
    | _ => exact h

theorem below_le {n k j : Nat} {v : AV} (h : X.below n k v = true) (hkj : k ≤ j) : X.below n j v = true := by
  induction hkj with
  | refl => exact h
  | step _ ih => exact below_more ih

mutual
theorem RV.refs {n : Nat} (hμ : ∀ b m, μ b = some m → b < n) : ∀ {v : AV} {x : Value}, RV w σ μ v x → ∃ k, X.below n k v = true
  | _, _, .undef _ _ => ⟨1, rfl⟩
  | _, _, .bool _ _ => ⟨1, rfl⟩
  | _, _, .int _ _ _ => ⟨1, rfl⟩
  | _, _, .str _ _ => ⟨1, rfl⟩
  | _, _, .nilptr _ => ⟨1, rfl⟩
  | _, _, .nilslice _ => ⟨1, rfl⟩
  | _, _, .nilmap _ => ⟨1, rfl⟩
  | _, _, .nilfunc _ => ⟨1, rfl⟩
  | _, _, .niliface _ => ⟨1, rfl⟩
  | _, _, .ptr _ _ _ _ _ h => ⟨1, by simp only [X.below, Nat.blt_eq]; exact hμ _ _ h⟩
  | _, _, .slice _ _ _ _ _ _ h _ _ _ => ⟨1, by simp only [X.below, Nat.blt_eq]; exact hμ _ _ h⟩
  | _, _, .map _ _ _ h => ⟨1, by simp only [X.below, Nat.blt_eq]; exact hμ _ _ h⟩
  | _, _, .iter _ _ _ h => ⟨1, by simp only [X.below, Nat.blt_eq]; exact hμ _ _ h⟩
  | _, _, .vptr _ _ _ _ _ _ _ _ _ _ _ _ => ⟨1, rfl⟩
  | _, _, .vslice0 _ _ _ => ⟨1, rfl⟩
  | _, _, .vslice _ _ _ _ _ _ _ _ _ _ _ _ _ _ _ _ => ⟨1, rfl⟩
  | _, _, .vmap _ _ _ _ _ _ _ _ _ _ _ => ⟨1, rfl⟩
  | _, _, .func _ _ _ _ h => by
    obtain ⟨k, hk⟩ := RVs.refs hμ h
    exact ⟨k + 1, by simp only [X.below, List.all_eq_true]; exact hk⟩
  | _, _, .iface _ _ _ _ h => by
    obtain ⟨k, hk⟩ := RV.refs hμ h
    exact ⟨k + 1, by simp only [X.below]; exact hk⟩
  | _, _, .agg _ _ _ h => by
    obtain ⟨k, hk⟩ := RVs.refs hμ h
    exact ⟨k + 1, by simp only [X.below, List.all_eq_true]; exact hk⟩
  | _, _, .tuple _ _ _ h => by
    obtain ⟨k, hk⟩ := RVs.refs hμ h
    exact ⟨k + 1, by simp only [X.below, List.all_eq_true]; exact hk⟩
theorem RVs.refs {n : Nat} (hμ : ∀ b m, μ b = some m → b < n) : ∀ {vs : List AV} {xs : List Value}, RVs w σ μ vs xs → ∃ k, ∀ v ∈ vs, X.below n k v = true
  | _, _, .nil _ => ⟨0, by simp⟩
  | _, _, .cons _ _ _ _ _ h hs => by
    obtain ⟨k, hk⟩ := RV.refs hμ h
    obtain ⟨j, hj⟩ := RVs.refs hμ hs
    refine ⟨max k j, fun v hv => ?_⟩
    rcases List.mem_cons.1 hv with rfl | hv
    · exact below_le hk (Nat.le_max_left _ _)
    · exact below_le (hj v hv) (Nat.le_max_right _ _)
end

theorem below_cells {n k : Nat} {v u : AV} (h : X.below n k v = true) (hu : u ∈ v.cells) : ∃ k, X.below n k u = true := by
  cases k with
  | zero => simp [X.below] at h
  | succ k =>
    cases v with
    | agg cs => simp only [X.below, List.all_eq_true] at h; exact ⟨k, h u hu⟩
    | _ => simp only [AV.cells, List.mem_singleton] at hu; subst hu; exact ⟨k + 1, h⟩

theorem cutCall_ok {C : Oracle} (hC : OracleOK P G C) {f : Nat} {args : List AV} {r : AV × Heap} (h : cutCall C f args H = some r) (hr : HR G B σ μ H w) {xs : List Value} (hx : RVs w σ μ args xs) :
    CallOK P f xs w (Post G B σ μ w r) := by
  unfold cutCall at h
  simp only [Option.bind_eq_some_iff] at h
  obtain ⟨q, hq, h⟩ := h
  split at h
  · rename_i hcond
    rw [Option.map_eq_some_iff] at h
    obtain ⟨v, hv, rfl⟩ := h
    obtain ⟨hlen, hbel, habv⟩ := hcond
    refine (hC f args H q hq B σ μ w xs hr hx).mono ?_
    rintro x w' ⟨σ', μ', hr', hv', hst⟩
    let T : Nat → Prop := fun b => σ' b ∨ ∃ i k m, H.length ≤ i ∧ q.2[i]? = some k ∧ k.alive ∧ μ' i = some m ∧ b = m.rb
    let μ'' : Mu := fun b => if b < H.length then μ' b else none
    have hsub : ∀ b, σ' b → T b ∧ w'.heap[b]? = w'.heap[b]? := fun b hb => ⟨.inl hb, rfl⟩
    have hμ2 : ∀ b m, μ' b = some m → b < H.length → μ'' b = some m := fun b m hm hlt => by simp [μ'', hlt, hm]
    have look : ∀ (b : Nat) (k : Blk), (q.2.take H.length)[b]? = some k → b < H.length ∧ q.2[b]? = some k := by
      intro b k hb
      have hlt : b < H.length := by have := (List.getElem?_eq_some_iff.1 hb).1; simp at this; omega
      rw [List.getElem?_take_of_lt hlt] at hb
      exact ⟨hlt, hb⟩
    have mu2 : ∀ (b : Nat) (m : BM), μ'' b = some m → b < H.length ∧ μ' b = some m := by
      intro b m hb
      simp only [μ''] at hb
      split at hb
      · exact ⟨‹_›, hb⟩
      · cases hb
    refine ⟨T, μ'', ⟨?_, ?_, ?_, hr'.base, ?_, ?_, ?_, ?_⟩, ?_, ?_⟩
    · intro b m hb
      have := (mu2 b m hb).1
      simp; omega
    · intro b hb
      rw [List.length_take] at hb
      obtain ⟨m, hm⟩ := hr'.has b (by omega)
      exact ⟨m, hμ2 b m hm (by omega)⟩
    · rintro b (hb | ⟨i, k, m, _, hi, ha, hm, rfl⟩)
      · exact hr'.st b hb
      · exact (hr'.own i k m hi ha hm).2.1
    · intro g u hg; exact (hr'.glob g u hg).mono hsub fun _ _ h => h
    · intro b k m hb hm
      obtain ⟨hlt, hb'⟩ := look b k hb
      have hm' := (mu2 b m hm).2
      have hbr := hr'.blk b k m hb' hm'
      have hk := (hbel b k hlt hb').imp_right And.right
      have lowers : ∀ {us : List AV} {ys : List Value}, RVs w' σ' μ' us ys → (∀ u ∈ us, ∃ k, X.below H.length k u = true) → RVs w' T μ'' us ys := by
        intro us ys h1 h2
        exact flats h1 fun u hu y hy => by
          obtain ⟨k0, hk0⟩ := h2 u hu
          exact (RV.lower hμ2 hk0 hy).mono hsub fun _ _ h => h
      cases k with
      | dead => trivial
      | arr sz es =>
        obtain ⟨b1, b2, b3, b4, c, ty, b5, b6, vs, b7, b8⟩ := hbr
        refine ⟨b1, b2, b3, b4, c, ty, b5, b6, vs, lowers b7 (fun u hu => ?_), b8⟩
        rcases hk with hk | hk
        · obtain ⟨m0, hm0⟩ := hr.has b hlt
          obtain ⟨_, _, _, _, _, _, _, _, vs0, c7, _⟩ := hr.blk b _ m0 hk hm0
          obtain ⟨k0, hk0⟩ := c7.refs hr.dom
          exact ⟨k0, hk0 u hu⟩
        · simp only [Blk.below, List.all_eq_true] at hk
          obtain ⟨e0, he0, hu0⟩ := List.mem_flatMap.1 hu
          exact below_cells (hk e0 he0) hu0
      | map ks vs =>
        obtain ⟨en, clock, b1, b2, b3, b4⟩ := hbr
        rcases hk with hk | hk
        · obtain ⟨m0, hm0⟩ := hr.has b hlt
          obtain ⟨en0, clock0, c1, c2, c3, c4⟩ := hr.blk b _ m0 hk hm0
          obtain ⟨k2, hk2⟩ := c2.refs hr.dom
          obtain ⟨k3, hk3⟩ := c3.refs hr.dom
          exact ⟨en, clock, b1, lowers b2 (fun u hu => ⟨_, hk2 u hu⟩), lowers b3 (fun u hu => ⟨_, hk3 u hu⟩), b4⟩
        · simp only [Blk.below, Bool.and_eq_true, List.all_eq_true] at hk
          exact ⟨en, clock, b1, lowers b2 (fun u hu => ⟨_, hk.1 u hu⟩), lowers b3 (fun u hu => ⟨_, hk.2 u hu⟩), b4⟩
    · intro b k m hb ha hm
      obtain ⟨hlt, hb'⟩ := look b k hb
      have hm' := (mu2 b m hm).2
      obtain ⟨o1, o2, o3⟩ := hr'.own b k m hb' ha hm'
      refine ⟨o1, o2, ?_⟩
      rintro (h1 | ⟨i, k2, m2, hi, hi2, ha2, hm2, he⟩)
      · exact o3 h1
      · have := hr'.inj b i k k2 m m2 hb' ha hi2 ha2 hm' hm2 he
        omega
    · intro b b' k k' m m' hb ha hb' ha' hm hm' he
      exact hr'.inj b b' k k' m m' (look b k hb).2 ha (look b' k' hb').2 ha' (mu2 b m hm).2 (mu2 b' m' hm').2 he
    · exact (snap_ok (md := .above H.length) (T := T) hr' (fun _ b hb => .inl hb) (fun b k m hb ha hm ho => .inr ⟨b, k, m, ho, hb, ha, hm, rfl⟩) hv hv' ⟨deep, habv⟩).mono (fun b hb => ⟨hb, rfl⟩) fun _ _ h => by cases h
    · refine ⟨fun b hb => ⟨.inl (hst.sub b hb).1, (hst.sub b hb).2⟩, fun b m hm => hμ2 b m (hst.mu b m hm) (hr.dom b m hm), hst.old, hst.size, ?_, hst.out⟩
      rintro b (hb | ⟨i, k, m, _, hi, ha, hm, rfl⟩)
      · exact hst.new b hb
      · exact .inr (hr'.own i k m hi ha hm).1
  · cases h
end
end X
end Go.Proofs.YtplginnkececaaaGreatDoor

set_option linter.unusedSimpArgs false
set_option linter.unusedVariables false
namespace Go.Proofs.YtplginnkececaaaGreatDoor
open Go
namespace X

section
variable {P : Program} {G : Nat → Option AV} {w : World} {σ : Nat → Prop} {μ : Mu} {B : Nat} {H : Heap}

theorem moved {vs : List AV} {xs : List Value} {μ' : Mu} {T : Nat → Prop} {g : AV → AV} (h : RVs w σ μ vs xs) (hv : ∀ v ∈ vs, ∀ x, RV w σ μ v x → RV w T μ' (g v) x) : RVs w T μ' (vs.map g) xs := by
  induction vs generalizing xs with
  | nil => cases h; exact .nil _
  | cons v vs ih =>
    cases h with
    | cons _ _ x _ xs h hs => exact .cons _ _ _ _ _ (hv v (by simp) x h) (ih hs fun u hu => hv u (by simp [hu]))

theorem RV.shift {n : Nat} {T : Nat → Prop} {μ' : Mu} (hμ : ∀ b m, μ b = some m → μ' (n + b) = some m) : ∀ {k : Nat} {v : AV}, plain k v = true → ∀ {x : Value}, RV w σ μ v x → RV w T μ' (X.shift n k v) x
  | 0, v, h, _, _ => by simp [plain] at h
  | k + 1, v, h, x, hr => by
    cases hr with
    | undef => exact .undef _ _
    | bool => exact .bool _ _
    | int => exact .int _ _ _
    | str => exact .str _ _
    | nilptr => exact .nilptr _
    | nilslice => exact .nilslice _
    | nilmap => exact .nilmap _
    | nilfunc => exact .nilfunc _
    | niliface => exact .niliface _
    | ptr _ _ _ _ m hm => exact .ptr _ _ _ _ m (hμ _ _ hm)
    | slice _ _ _ _ _ m hm h1 h2 h3 => exact .slice _ _ _ _ _ m (hμ _ _ hm) h1 h2 h3
    | map _ _ m hm => exact .map _ _ m (hμ _ _ hm)
    | iter => simp [plain] at h
    | vptr => simp [plain] at h
    | vslice0 => exact .vslice0 _ _ _
    | vslice _ es =>
      cases es with
      | nil => exact .vslice0 _ _ _
      | cons => simp [plain] at h
    | vmap => simp [plain] at h
    | func => simp [plain] at h
    | iface _ _ _ _ hv => simp only [plain] at h; exact .iface _ _ _ _ (RV.shift hμ h hv)
    | agg _ _ xs hs => simp only [plain, List.all_eq_true] at h; exact .agg _ _ _ (moved hs fun u hu y hy => RV.shift hμ (h u hu) hy)
    | tuple _ _ xs hs => simp only [plain, List.all_eq_true] at h; exact .tuple _ _ _ (moved hs fun u hu y hy => RV.shift hμ (h u hu) hy)

theorem storable_shift {n k : Nat} {v : AV} : (X.shift n k v).storable = v.storable := by
  cases k with
  | zero => rfl
  | succ k => cases v <;> rfl

theorem cells_shift {n k : Nat} {v : AV} (h : plain k v = true) : ∃ j, (X.shift n k v).cells = v.cells.map (X.shift n j) ∧ ∀ u ∈ v.cells, plain j u = true := by
  cases k with
  | zero => simp [plain] at h
  | succ k =>
    cases v with
    | agg cs => simp only [plain, List.all_eq_true] at h; exact ⟨k, rfl, h⟩
    | _ => exact ⟨k + 1, rfl, by intro u hu; simp only [AV.cells, List.mem_singleton] at hu; subst hu; exact h⟩

theorem shape_shift {n k sz : Nat} {v : AV} (h : plain k v = true) (hs : v.cells.length = sz ∧ v.cells.all AV.storable = true) : (X.shift n k v).cells.length = sz ∧ (X.shift n k v).cells.all AV.storable = true := by
  obtain ⟨j, h1, _⟩ := cells_shift (n := n) h
  rw [h1]
  refine ⟨by rw [List.length_map]; exact hs.1, ?_⟩
  rw [List.all_map]
  have : (AV.storable ∘ X.shift n j) = AV.storable := funext fun v => storable_shift
  rw [this]; exact hs.2

theorem flat_shift {n k : Nat} {T : Nat → Prop} {μ' : Mu} (hμ : ∀ b m, μ b = some m → μ' (n + b) = some m) : ∀ {es : List AV} {vs : List Value}, es.all (plain k) = true → RVs w σ μ (es.flatMap AV.cells) vs → RVs w T μ' ((es.map (X.shift n k)).flatMap AV.cells) vs
  | [], vs, _, h => by cases h; exact .nil _
  | e :: es, vs, ha, h => by
    simp only [List.all_cons, Bool.and_eq_true] at ha
    simp only [List.flatMap_cons] at h
    obtain ⟨h1, h2⟩ := h.split
    obtain ⟨j, g1, g2⟩ := cells_shift (n := n) ha.1
    simp only [List.map_cons, List.flatMap_cons, g1]
    have := (moved (g := X.shift n j) (T := T) (μ' := μ') h1 fun u hu y hy => RV.shift hμ (g2 u hu) hy).append (flat_shift hμ ha.2 h2)
    rwa [List.take_append_drop] at this

theorem freshCall_ok {C : Oracle} (hC : OracleOK P G C) {f : Nat} {args : List AV} {r : AV × Heap} (h : freshCall C f args H = some r) (hr : HR G B σ μ H w) {xs : List Value} (hx : RVs w σ μ args xs) :
    CallOK P f xs w (Post G B σ μ w r) := by
  unfold freshCall at h
  simp only [Option.bind_eq_some_iff] at h
  obtain ⟨as, has, q, hq, h⟩ := h
  split at h
  · rename_i hpl
    cases h
    have hall : RVs w (fun b => b < w.heap.size) noMu as xs := RVs.mapM has hx fun u _ s y h1 h2 =>
      snap_ok (md := .all) hr (fun _ b hb => hr.st b hb) (fun b k m hb ha hm _ => (hr.own b k m hb ha hm).2.1) h1 h2 ⟨0, rfl⟩
    have hglob : ∀ g v, G g = some v → RV w (fun b => b < w.heap.size) noMu v (.pointer (some ⟨g, 0, none⟩)) := fun g v hg => (hr.glob g v hg).mono (fun b hb => ⟨hr.st b hb, rfl⟩) fun _ _ h => h
    refine (hC f as [] q hq w.heap.size _ noMu w xs (HR.empty (fun b hb => hb) hglob) hall).mono ?_
    rintro x w' ⟨σ', μ', hr', hv', hst⟩
    let μ'' : Mu := fun b => if b < H.length then μ b else μ' (b - H.length)
    have hlow : ∀ b m, μ b = some m → μ'' b = some m := fun b m hm => by simp only [μ'', if_pos (hr.dom b m hm)]; exact hm
    have hup : ∀ b m, μ' b = some m → μ'' (H.length + b) = some m := fun b m hm => by
      simp only [μ'']
      rw [if_neg (by omega), Nat.add_sub_cancel_left]; exact hm
    have hkeep : ∀ b, σ b → σ b ∧ w'.heap[b]? = w.heap[b]? := fun b hb => ⟨hb, hst.old b (hr.st b hb)⟩
    have cases_at : ∀ {b : Nat} {k : Blk} {m : BM}, (H ++ q.2.map (Blk.shift H.length))[b]? = some k → μ'' b = some m →
        (b < H.length ∧ H[b]? = some k ∧ μ b = some m) ∨ (H.length ≤ b ∧ ∃ k', q.2[b - H.length]? = some k' ∧ k = Blk.shift H.length k' ∧ μ' (b - H.length) = some m) := by
      intro b k m hb hm
      by_cases hlt : b < H.length
      · left
        rw [List.getElem?_append_left hlt] at hb
        simp only [μ'', if_pos hlt] at hm
        exact ⟨hlt, hb, hm⟩
      · right
        rw [List.getElem?_append_right (by omega), List.getElem?_map, Option.map_eq_some_iff] at hb
        obtain ⟨k', h1, h2⟩ := hb
        simp only [μ'', if_neg hlt] at hm
        exact ⟨by omega, k', h1, h2.symm, hm⟩
    have alive_of : ∀ {k : Blk}, (Blk.shift H.length k).alive → k.alive := by
      intro k hk
      cases k <;> first | trivial | exact hk
    refine ⟨σ, μ'', ⟨?_, ?_, ?_, ?_, ?_, ?_, ?_, ?_⟩, RV.shift hup hpl hv', ⟨hkeep, hlow, fun b hb => hst.old b (Nat.lt_of_lt_of_le hb hr.base), hst.size, fun b hb => .inl hb, hst.out⟩⟩
    · intro b m hm
      simp only [μ''] at hm
      simp only [List.length_append, List.length_map]
      split at hm
      · omega
      · have := hr'.dom _ m hm
        omega
    · intro b hb
      simp only [List.length_append, List.length_map] at hb
      by_cases hlt : b < H.length
      · obtain ⟨m, hm⟩ := hr.has b hlt
        exact ⟨m, hlow b m hm⟩
      · obtain ⟨m, hm⟩ := hr'.has (b - H.length) (by omega)
        exact ⟨m, by simp only [μ'', if_neg hlt]; exact hm⟩
    · exact fun b hb => Nat.lt_of_lt_of_le (hr.st b hb) hst.size
    · exact Nat.le_trans hr.base hst.size
    · exact fun g u hg => (hr.glob g u hg).mono hkeep fun _ _ h => h
    · intro b k m hb hm
      rcases cases_at hb hm with ⟨hlt, h1, h2⟩ | ⟨hge, k', h1, rfl, h2⟩
      · exact (hr.blk b k m h1 h2).mono hkeep hlow fun ha => hst.old _ (hr.own b k m h1 ha h2).2.1
      · have hbr := hr'.blk _ k' m h1 h2
        cases k' with
        | dead => trivial
        | arr sz es =>
          simp only [Blk.shift]
          split
          · rename_i hes
            obtain ⟨b1, b2, b3, b4, c, ty, b5, b6, vs, b7, b8⟩ := hbr
            refine ⟨b1, by rw [List.length_map]; exact b2, ?_, b4, c, ty, b5, b6, vs, flat_shift hup hes b7, b8⟩
            intro e he
            obtain ⟨e0, he0, rfl⟩ := List.mem_map.1 he
            exact shape_shift (List.all_eq_true.1 hes e0 he0) (b3 e0 he0)
          · trivial
        | map ks vs =>
          simp only [Blk.shift]
          split
          · rename_i hes
            simp only [Bool.and_eq_true, List.all_eq_true] at hes
            obtain ⟨en, clock, b1, b2, b3, b4⟩ := hbr
            exact ⟨en, clock, b1, moved b2 fun u hu y hy => RV.shift hup (hes.1 u hu) hy, moved b3 (fun u hu y hy => RV.shift hup (hes.2 u hu) hy), b4⟩
          · trivial
    · intro b k m hb ha hm
      rcases cases_at hb hm with ⟨hlt, h1, h2⟩ | ⟨hge, k', h1, rfl, h2⟩
      · obtain ⟨o1, o2, o3⟩ := hr.own b k m h1 ha h2
        exact ⟨o1, Nat.lt_of_lt_of_le o2 hst.size, o3⟩
      · obtain ⟨o1, o2, o3⟩ := hr'.own _ k' m h1 (alive_of ha) h2
        exact ⟨Nat.le_trans hr.base o1, o2, fun hs => absurd (hr.st _ hs) (by omega)⟩
    · intro b b' k k' m m' hb ha hb' ha' hm hm' he
      rcases cases_at hb hm with ⟨hlt, h1, h2⟩ | ⟨hge, k1, h1, rfl, h2⟩ <;> rcases cases_at hb' hm' with ⟨hlt', h1', h2'⟩ | ⟨hge', k1', h1', rfl, h2'⟩
      · exact hr.inj b b' k k' m m' h1 ha h1' ha' h2 h2' he
      · have o1 := (hr.own b k m h1 ha h2).2.1
        have o2 := (hr'.own _ k1' m' h1' (alive_of ha') h2').1
        omega
      · have o1 := (hr.own b' k' m' h1' ha' h2').2.1
        have o2 := (hr'.own _ k1 m h1 (alive_of ha) h2).1
        omega
      · have := hr'.inj _ _ k1 k1' m m' h1 (alive_of ha) h1' (alive_of ha') h2 h2' he
        omega
  · cases h
end
end X
end Go.Proofs.YtplginnkececaaaGreatDoor

set_option linter.unusedSimpArgs false
set_option linter.unusedVariables false
namespace Go.Proofs.YtplginnkececaaaGreatDoor
open Go
namespace X

section
variable {P : Program} {G : Nat → Option AV} {w : World} {σ : Nat → Prop} {μ : Mu} {B : Nat} {H : Heap}
variable {X : Prog} {C : Oracle} {e : Env} {a : Act} {o : Oper} {r : AV × Heap}

theorem callAV_ok (hC : OracleOK P G C) (hP : PrimOK P G X) {f : Nat} {cap : List AV} {args : List AV} (h : callAV X C (.func (.func f) cap) args H = some r) (hr : HR G B σ μ H w) {xs ys : List Value} (hx : RVs w σ μ args xs) (hy : RVs w σ μ cap ys) :
    CallOK P f (xs ++ ys) w (Post G B σ μ w r) := by
  have hall := hx.append hy
  simp only [callAV] at h
  split at h
  · rw [Option.map_eq_some_iff] at h
    obtain ⟨v, hv, rfl⟩ := h
    exact pureCall_ok hC hP hv hr hall
  · exact hC f _ H r h B σ μ w _ hr hall
  · exact cutCall_ok hC h hr hall
  · exact freshCall_ok hC h hr hall

theorem OpOK.call {op : Op} {f : Nat} {xs : List Value} {R : Value → World → Prop} (h : CallOK P f xs w R) (hexec : (execOp a.eval { o with op := op }).run P w = (callFunc f xs.toArray).run P w) : OpOK P op o a w R := by
  intro next Q hn
  unfold Oper.wp
  rw [hexec]
  unfold CallOK at h
  split at h
  · rename_i v w' hv
    rw [hv]
    exact hn v w' h
  · rename_i g as w' hv
    rw [hv]
    refine Calls.mono h ?_
    rintro ev w'' ⟨v, rfl, hv⟩
    exact hn v w'' hv
  · exact h.elim

theorem ok_call {c : Call} {f : Operand} {own : Bool} {xo : XOp} (hcal : c.callee = .value f) (hc : compOp P G own (.call c) = some xo) (hC : OracleOK P G C) (hP : PrimOK P G X) (hx : xop X C xo e H = some r) (hr : HR G B σ μ H w)
    (he : ER σ μ e w a) : OpOK P (.call c) o a w (Post G B σ μ w r) := by
  simp only [compOp, hcal, Option.bind_eq_some_iff, Option.map_eq_some_iff] at hc
  obtain ⟨f', hf', as, has, hxo⟩ := hc
  have hx : xop X C (.call f' as) e H = some r := by
    cases own
    · simp only [Bool.false_eq_true, if_false] at hxo
      subst hxo
      exact hx
    · simp only [if_true] at hxo
      subst hxo
      simp only [xop, Option.map_eq_some_iff] at hx ⊢
      obtain ⟨v, hv, rfl⟩ := hx
      unfold pcallAV at hv
      split at hv
      · rename_i g cap hg
        split at hv
        · rename_i hm
          simp only [callAV, hg, hm, hv, Option.map_some]
        · cases hv
      · cases hv
  have h1 := RV.arg hr he hf'
  have h2 := RVs.args hr he has
  simp only [xop] at hx
  cases hfv : f'.ev e with
  | func fn cap =>
    rw [hfv] at h1 hx
    obtain ⟨g, ys, rfl, h1', h3⟩ := h1.func_inv
    refine OpOK.call (callAV_ok hC hP hx hr h2 h3) ?_
    obtain ⟨callee, args, tys⟩ := c
    simp only at hcal
    subst hcal
    simp only [execOp, resolve, h1', Deferred.ofValue, pure_bind, invoke]
    congr 2
    apply Array.ext'
    simp
  | _ => rw [hfv] at hx; simp [callAV] at hx

theorem ok_any {op : Op} {own : Bool} {xo : XOp} (hc : compOp P G own op = some xo) (hC : OracleOK P G C) (hP : PrimOK P G X) (hx : xop X C xo e H = some r) (hr : HR G B σ μ H w) (he : ER σ μ e w a) :
    OpOK P op o a w (Post G B σ μ w r) := by
  by_cases hn : notCall op = true
  · exact ok_op hc hn hx hr he
  · cases op with
    | call c =>
      cases hcal : c.callee with
      | value f => exact ok_call hcal hc hC hP hx hr he
      | builtin b => obtain ⟨callee, args, tys⟩ := c; simp only at hcal; subst hcal; simp [notCall] at hn
      | invoke x m => obtain ⟨callee, args, tys⟩ := c; simp only at hcal; subst hcal; simp [notCall] at hn
    | _ => simp [notCall] at hn


theorem ER.put {d : Option Nat} {v : AV} {x : Value} (he : ER σ μ e w a) (hv : RV w σ μ v x) (hd : ∀ t, d = some t → t < a.tmps.size) : ER σ μ (putDst e d v) w (a.put d x) := by
  cases d with
  | none => exact he
  | some t =>
    have hlt := hd t rfl
    intro s
    simp only [putDst, Env.set, Act.put]
    by_cases hs : s = t
    · subst hs
      have hb : Nat.beq s s = true := by simp
      simp only [hb, if_true]
      simpa [Array.getD, hlt] using hv
    · have hb : Nat.beq s t = false := by
        cases h : Nat.beq s t with
        | false => rfl
        | true => exact (hs (Nat.eq_of_beq_eq_true h)).elim
      simp only [hb, if_false, Bool.false_eq_true]
      have := he s
      have hget : (a.tmps.setIfInBounds t x).getD s undef = a.tmps.getD s undef := by
        simp only [Array.getD_eq_getD_getElem?]
        rw [Array.getElem?_setIfInBounds_ne (fun h => hs h.symm)]
      rw [hget]; exact this

structure SR (G : Nat → Option AV) (B : Nat) (n : Nat) (σ : Nat → Prop) (μ : Mu) (e : Env) (H : Heap) (a : Act) (w : World) : Prop where
  hr : HR G B σ μ H w
  er : ER σ μ e w a
  sz : a.tmps.size = n
  df : a.defers = []

theorem SR.put {n : Nat} {d : Option Nat} {v : AV} {x : Value} (h : SR G B n σ μ e H a w) (hv : RV w σ μ v x) (hd : ∀ t, d = some t → t < n) : SR G B n σ μ (putDst e d v) H (a.put d x) w :=
  ⟨h.hr, h.er.put hv fun t ht => h.sz ▸ hd t ht, by cases d <;> simp [Act.put, h.sz], by cases d <;> simp [Act.put, h.df]⟩

theorem SR.step {n : Nat} {σ' : Nat → Prop} {μ' : Mu} {w' : World} {H' : Heap} (h : SR G B n σ μ e H a w) (hr : HR G B σ' μ' H' w') (s : Step B σ μ w σ' μ' w') : SR G B n σ' μ' e H' a w' := ⟨hr, h.er.step s, h.sz, h.df⟩

def Behind (G : Nat → Option AV) (B n : Nat) (σ : Nat → Prop) (μ : Mu) (w : World) (e : Env) (H : Heap) (a : Act) (w' : World) : Prop :=
  ∃ σ' μ', SR G B n σ' μ' e H a w' ∧ Step B σ μ w σ' μ' w'

theorem guard_ok {ops : Array Oper} {j : Nat} {want : Bool} {t : Nat} (ht : (ops[j]?).bind (·.dst) = some t) {b : Bool} (hb : wanted (some (t, want)) e = some b) (he : ER σ μ e w a) (hlt : t < a.tmps.size) :
    (yielded ops a.tmps j == some want) = b := by
  have h := he t
  have hget : a.tmps[t]? = some (a.tmps.getD t undef) := by simp [Array.getD, hlt]
  simp only [wanted] at hb
  unfold yielded
  rw [ht]
  simp only [Option.bind_some, hget]
  split at hb
  · rename_i c hc
    cases hb
    rw [hc] at h
    rw [h.bool_inv]
    cases c <;> cases want <;> rfl
  · rename_i hc
    cases hb
    rw [hc] at h
    obtain ⟨xs, hx, hxs⟩ := h.tuple_inv
    cases hxs
    rw [hx]
    cases want <;> rfl
  · cases hb

theorem oper_ok {ops : Array Oper} {i : Nat} {o : Oper} {own : Bool} {xo : XOper} {e' : Env} {H' : Heap} {n : Nat} (hi : ops[i]? = some o) (hc : compOper P G own ops o = some xo) (hfit : operFits n ops o = true)
    (hC : OracleOK P G C) (hP : PrimOK P G X) (hx : oper X C xo e H = some (e', H')) (hs : SR G B n σ μ e H a w) {K : Act → World → Prop} {Q : Exit → Act → World → Prop}
    (hK : ∀ a' w', Behind G B n σ μ w e' H' a' w' → K a' w') : wpOp P ops Q i K a w := by
  simp only [operFits, Bool.and_eq_true] at hfit
  have hdst : ∀ t, o.dst = some t → t < n := by
    intro t ht
    have := hfit.1
    rw [ht] at this
    simpa using this
  unfold compOper at hc
  simp only [oper, Option.bind_eq_some_iff] at hx
  obtain ⟨b, hb, hx⟩ := hx
  have hwant : Region.wanted o (yielded ops a.tmps) = b ∧ xo.dst = o.dst ∧ xo.op = (compOp P G own o.op).getD .fail := by
    split at hc
    · rename_i hg
      cases hc
      simp only [wanted, Option.some.injEq] at hb
      exact ⟨by rw [← hb]; simp [Region.wanted, hg], rfl, rfl⟩
    · rename_i j want hg
      rw [Option.map_eq_some_iff] at hc
      obtain ⟨t, ht, rfl⟩ := hc
      refine ⟨?_, rfl, rfl⟩
      have hlt : t < a.tmps.size := by
        have := hfit.2
        rw [hg] at this
        simp only [ht, decide_eq_true_eq] at this
        rw [hs.sz]; exact this
      have := guard_ok ht hb hs.er hlt
      simp only [Region.wanted, hg]
      exact this
  obtain ⟨hw, hd, hop⟩ := hwant
  unfold wpOp
  rw [hi]
  simp only [hw]
  cases b with
  | true =>
    simp only [if_true, Option.map_eq_some_iff] at hx ⊢
    obtain ⟨r, hr, hr'⟩ := hx
    rw [hop] at hr
    left
    cases hxo : compOp P G own o.op with
    | none => rw [hxo] at hr; simp [xop] at hr
    | some x =>
    rw [hxo] at hr
    simp only [Option.getD_some] at hr
    have := ok_any (o := o) hxo hC hP hr hs.hr hs.er (a := a) K Q (fun v w' hp => by
      obtain ⟨σ', μ', p1, p2, p3⟩ := hp
      cases hr'
      refine hK _ _ ⟨σ', μ', ?_, p3⟩
      rw [hd]
      exact (hs.step p1 p3).put p2 hdst)
    exact this
  | false =>
    simp only [Bool.false_eq_true, if_false, Option.some.injEq] at hx ⊢
    cases hx
    refine hK _ _ ⟨σ, μ, ?_, Step.refl _ _ _ _⟩
    rw [hd]
    exact hs.put (RV.tuple _ _ [] (.nil _)) hdst
end
end X
end Go.Proofs.YtplginnkececaaaGreatDoor
