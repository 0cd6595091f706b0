/- The engine's operations are sound, one by one: comparisons, lengths, maps that are looked into. No condition. -/
import Derived.Test.YtkaigfcjejabfaaGreatDoorXP
import Derived.Laws.StructEq
import Derived.MapKept
import Derived.WideKeyRuns
set_option linter.unusedSimpArgs false
set_option linter.unusedVariables false
namespace Go.Proofs.YtkaigfcjejabfaaGreatDoor
open Go
namespace X

section
variable {P : Program} {G : Nat → Option AV} {w : World} {σ : Nat → Prop} {μ : Mu}
variable {X : Prog} {C : Oracle} {B : Nat} {H : Heap} {e : Env} {a : Act} {o : Oper} {r : AV × Heap}

/-- A value of a flat type out of its cells. -/
def ofCells (P : Program) (t : TypeId) (xs : List Value) : Value :=
  match P.underlying t with
  | some (.struct _) => .agg xs.toArray
  | _ => xs.headD undef

theorem eqCell_run {f : FK} {v u : AV} {b : Bool} (h : eqCell f v u = some b) {x y : Value} {μ' : Mu} (hx : RV w σ μ v x) (hy : RV w σ μ' u y) {t : TypeId}
    (ht : (f = .int ∧ ∃ k, P.underlying t = some (.int k)) ∨ (f = .str ∧ P.underlying t = some .string) ∨ (f = .bool ∧ P.underlying t = some .bool)) (d : Nat) :
    (Op.equalIn (d + 1) t x y).run P w = .ok b w := by
  unfold eqCell at h
  split at h
  · rename_i j p k q
    split at h
    · rename_i hjk
      subst hjk
      cases h
      rw [hx.int_inv, hy.int_inv]
      rcases ht with ⟨_, k, hk⟩ | ⟨hf, _⟩ | ⟨hf, _⟩
      · exact run_equalIn_int w d t _ k _ _ hk
      · cases hf
      · cases hf
    · cases h
  · cases h
    rw [hx.str_inv, hy.str_inv]
    rcases ht with ⟨hf, _⟩ | ⟨_, hk⟩ | ⟨hf, _⟩
    · cases hf
    · rw [run_equalIn_string w d t _ _ hk]; simp
    · cases hf
  · cases h
    rw [hx.bool_inv, hy.bool_inv]
    rcases ht with ⟨hf, _⟩ | ⟨hf, _⟩ | ⟨_, hk⟩
    · cases hf
    · cases hf
    · exact run_equalIn_bool w d t _ _ hk
  · cases h

theorem eqCells_split : ∀ {ks ls : List FK} {vs us : List AV} {b : Bool}, eqCells (ks ++ ls) vs us = some b →
    ∃ b1 b2, eqCells ks (vs.take ks.length) (us.take ks.length) = some b1 ∧ eqCells ls (vs.drop ks.length) (us.drop ks.length) = some b2 ∧ b = (b1 && b2)
  | [], ls, vs, us, b, h => ⟨true, b, by simp [eqCells], by simpa using h, by simp⟩
  | k :: ks, ls, vs, us, b, h => by
    cases vs with
    | nil => simp [eqCells] at h
    | cons v vs =>
      cases us with
      | nil => simp [eqCells] at h
      | cons u us =>
        simp only [List.cons_append, eqCells, Option.bind_eq_some_iff, Option.some.injEq] at h
        obtain ⟨x, hx, y, hy, rfl⟩ := h
        obtain ⟨b1, b2, h1, h2, rfl⟩ := eqCells_split hy
        exact ⟨x && b1, b2, by simp [eqCells, hx, h1], by simpa using h2, by simp [Bool.and_assoc]⟩

theorem eqCells_length : ∀ {ks : List FK} {vs us : List AV} {b : Bool}, eqCells ks vs us = some b → vs.length = ks.length ∧ us.length = ks.length
  | [], [], [], _, _ => by simp
  | [], [], _ :: _, _, h => by simp [eqCells] at h
  | [], _ :: _, _, _, h => by simp [eqCells] at h
  | _ :: _, [], _, _, h => by simp [eqCells] at h
  | _ :: _, _ :: _, [], _, h => by simp [eqCells] at h
  | k :: ks, v :: vs, u :: us, b, h => by
    simp only [eqCells, Option.bind_eq_some_iff] at h
    obtain ⟨x, hx, y, hy, _⟩ := h
    have := eqCells_length hy
    simp [this.1, this.2]

theorem flatK_part {d : Nat} {t : TypeId} {ks : List FK} (hk : flatK P d t = some ks) (hi : (P.info? t).map (·.size) = some ks.length) {xs : List Value} {off : Nat} (hl : off + ks.length ≤ xs.length) :
    (part t xs.toArray off).run P w = .ok (ofCells P t ((xs.drop off).take ks.length)) w := by
  cases d with
  | zero => simp [flatK] at hk
  | succ d =>
    rw [Option.map_eq_some_iff] at hi
    obtain ⟨i, hi, hsz⟩ := hi
    unfold flatK at hk
    have one : ks.length = 1 → (isAgg t).run P w = .ok false w → (∀ xs : List Value, ofCells P t xs = xs.headD undef) → (part t xs.toArray off).run P w = .ok (ofCells P t ((xs.drop off).take ks.length)) w := by
      intro h1 ha ho
      have hlt : off < xs.length := by omega
      have e : (xs.drop off).take 1 = [xs[off]] := by rw [List.drop_eq_getElem_cons hlt]; rfl
      rw [ho, h1, e]
      simp [part, ha, hlt]
    split at hk
    · rename_i k hu; cases hk
      exact one rfl (by simp [isAgg, run_underlying hu]) (fun xs => by simp [ofCells, hu])
    · rename_i hu; cases hk
      exact one rfl (by simp [isAgg, run_underlying hu]) (fun xs => by simp [ofCells, hu])
    · rename_i hu; cases hk
      exact one rfl (by simp [isAgg, run_underlying hu]) (fun xs => by simp [ofCells, hu])
    · rename_i fs hu
      have ha : (isAgg t).run P w = .ok true w := by simp [isAgg, run_underlying hu]
      have ho : ofCells P t ((xs.drop off).take ks.length) = .agg ((xs.drop off).take ks.length).toArray := by simp only [ofCells, hu]
      rw [ho, ← hsz]
      simp [part, ha, sizeOf, typeInfo, hi]
    · cases hk

/-- '==' on a flat type, cell by cell. -/
theorem eqFlat_run : ∀ (d : Nat) {t : TypeId} {ks : List FK}, flatK P d t = some ks → ∀ {vs us : List AV} {xs ys : List Value} {b : Bool} {μ' : Mu}, RVs w σ μ vs xs → RVs w σ μ' us ys →
    eqCells ks vs us = some b → ∀ D, (Op.equalIn (D + d) t (ofCells P t xs) (ofCells P t ys)).run P w = .ok b w
  | 0, t, ks, hk, _, _, _, _, _, _, _, _, _, _ => by simp [flatK] at hk
  | d + 1, t, ks, hk, vs, us, xs, ys, b, μ', hx, hy, he, D => by
    unfold flatK at hk
    have one : ∀ f, ks = [f] → (∀ xs : List Value, ofCells P t xs = xs.headD undef) → ((f = .int ∧ ∃ k, P.underlying t = some (.int k)) ∨ (f = .str ∧ P.underlying t = some .string) ∨ (f = .bool ∧ P.underlying t = some .bool)) →
        (Op.equalIn (D + (d + 1)) t (ofCells P t xs) (ofCells P t ys)).run P w = .ok b w := by
      intro f hf ho ht
      subst hf
      obtain ⟨l1, l2⟩ := eqCells_length he
      match vs, us, l1, l2 with
      | [v], [u], _, _ =>
        cases hx with
        | cons _ _ x _ xs' hx1 hx2 =>
          cases hy with
          | cons _ _ y _ ys' hy1 hy2 =>
            simp only [eqCells, Option.bind_eq_some_iff, Option.some.injEq, Bool.and_true] at he
            obtain ⟨c, hc, _, rfl, rfl⟩ := he
            rw [ho, ho]
            simp only [List.headD_cons, Bool.and_true]
            exact eqCell_run hc hx1 hy1 ht (D + d)
    split at hk
    · rename_i k hu; cases hk
      exact one .int rfl (fun xs => by simp [ofCells, hu]) (.inl ⟨rfl, k, hu⟩)
    · rename_i hu; cases hk
      exact one .str rfl (fun xs => by simp [ofCells, hu]) (.inr (.inl ⟨rfl, hu⟩))
    · rename_i hu; cases hk
      exact one .bool rfl (fun xs => by simp [ofCells, hu]) (.inr (.inr ⟨rfl, hu⟩))
    · rename_i fs hu
      split at hk
      · cases hk
      · rename_i hst
        have hst' : P.stoodInHeld t = false := by simpa using hst
        have hfo : P.fieldsOf t = fs := by simp [Program.fieldsOf, hu]
        simp only [ofCells, hu]
        rw [← Nat.add_assoc, run_equalIn_struct w (D + d) t _ _ (by rw [hfo]; exact hu) hst', hfo]
        -- the fields, from a place on
        have key : ∀ (l : List Field) (off : Nat) (ls : List FK) (b : Bool), flatFs P (flatK P d) l off = some ls → eqCells ls (vs.drop off) (us.drop off) = some b → off ≤ vs.length → off ≤ us.length →
            (Op.eqFields (D + d) xs.toArray ys.toArray l).run P w = .ok b w := by
          intro l
          induction l with
          | nil =>
            intro off ls b hls hb h1 h2
            simp [flatFs] at hls; subst hls
            obtain ⟨l1, l2⟩ := eqCells_length hb
            have e1 : vs.drop off = [] := List.eq_nil_of_length_eq_zero l1
            have e2 : us.drop off = [] := List.eq_nil_of_length_eq_zero l2
            rw [e1, e2] at hb
            simp [eqCells] at hb
            subst hb
            simp [Op.eqFields]
          | cons f l ih =>
            intro off ls b hls hb h1 h2
            unfold flatFs at hls
            split at hls
            · rename_i hn
              simp only [Option.bind_eq_some_iff] at hls
              obtain ⟨ks1, hk1, hls⟩ := hls
              split at hls
              · rename_i hsz
                rw [Option.map_eq_some_iff] at hls
                obtain ⟨ks2, hk2, rfl⟩ := hls
                obtain ⟨b1, b2, hb1, hb2, rfl⟩ := eqCells_split hb
                obtain ⟨l1, l2⟩ := eqCells_length hb
                simp at l1 l2
                have g1 := hx.length
                have g2 := hy.length
                have p1 := flatK_part (w := w) hk1 hsz (xs := xs) (off := f.offset) (by rw [hn.2]; omega)
                have p2 := flatK_part (w := w) hk1 hsz (xs := ys) (off := f.offset) (by rw [hn.2]; omega)
                have hq := eqFlat_run d hk1 ((hx.drop off).take ks1.length) ((hy.drop off).take ks1.length) hb1 D
                have hrest := ih (off + ks1.length) ks2 b2 hk2 (by rw [List.drop_drop, List.drop_drop] at hb2; exact hb2) (by omega) (by omega)
                rw [hn.2] at p1 p2
                simp only [Op.eqFields, hn.1, ne_eq, not_false_eq_true, if_true, hn.2, Sem.run_bind, p1, p2, Result.andThen_ok, hq]
                cases b1
                · simp
                · simpa using hrest
              · cases hls
            · cases hls
        exact key fs.toList 0 ks b hk (by simpa using he) (by omega) (by omega)
    · cases hk

theorem ekOf_agg {t : TypeId} {fs : List FK} (h : ekOf P t = .agg fs) : (∃ l, P.underlying t = some (.struct l)) ∧ P.eqGuardType P.depth t = false ∧ flatK P 8 t = some fs := by
  unfold ekOf at h
  split at h <;> first | (cases h; done) | skip
  · rename_i l hu
    split at h
    · cases h
    · rename_i hg
      split at h
      · rename_i gs hg2
        cases h
        exact ⟨⟨l, hu⟩, by simpa using hg, hg2⟩
      · cases h
  · split at h <;> cases h

theorem ekOf_one {t : TypeId} {f : FK} (h : ekOf P t = .one f) : (f = .int ∧ ∃ k, P.underlying t = some (.int k)) ∨ (f = .str ∧ P.underlying t = some .string) ∨ (f = .bool ∧ P.underlying t = some .bool) := by
  unfold ekOf at h
  split at h
  · cases h; simp [*]
  · cases h; simp [*]
  · cases h; simp [*]
  · split at h
    · cases h
    · split at h <;> cases h
  · split at h <;> cases h
  all_goals cases h

theorem live_some {b : Nat} (h : H.live b = true) : ∃ sz es, H[b]? = some (.arr sz es) := by
  unfold Heap.live at h
  split at h
  · rename_i sz es hb; exact ⟨sz, es, hb⟩
  · cases h

theorem ekOf_kind {t : TypeId} : (ekOf P t = .ptr → ∃ el, P.underlying t = some (.pointer el) ∧ 0 < P.cellsOf el) ∧ (ekOf P t = .iface → ∃ ms, P.underlying t = some (.interface ms)) ∧
    (ekOf P t = .slice → ∃ el, P.underlying t = some (.slice el)) ∧ (ekOf P t = .func → ∃ x y z, P.underlying t = some (.func x y z)) := by
  unfold ekOf
  split
  · simp
  · simp
  · simp
  · split
    · simp
    · split <;> simp
  · rename_i el hu
    split <;> simp_all
  all_goals simp_all

theorem stringish_of {rb off : Nat} {c : Array Value} {ty : TypeId} (h : w.heap[rb]? = some (.cells c ty (0, 0))) : (stringish ⟨rb, off, none⟩).run P w = .ok false w := by
  simp [stringish, World.frozen?, World.shape?, h]

section eqs
variable {t : TypeId} (d : Nat)
theorem eqIn_nilptr {el : TypeId} (hu : P.underlying t = some (.pointer el)) (b : Option Addr) : (Op.equalIn (d + 1) t (.pointer none) (.pointer b)).run P w = .ok b.isNone w := by
  rw [Op.equalIn]; simp only [Sem.run_bind, run_underlying hu, Result.andThen_ok]; rfl
theorem eqIn_ptrnil {el : TypeId} (hu : P.underlying t = some (.pointer el)) (b : Addr) : (Op.equalIn (d + 1) t (.pointer (some b)) (.pointer none)).run P w = .ok false w := by
  rw [Op.equalIn]; simp only [Sem.run_bind, run_underlying hu, Result.andThen_ok]; rfl
theorem eqIn_ptr {el : TypeId} {i : TypeInfo} (hu : P.underlying t = some (.pointer el)) (hi : P.info? el = some i) (hne : ¬ i.size = 0) (b c : Addr) :
    (Op.equalIn (d + 1) t (.pointer (some b)) (.pointer (some c))).run P w = (sameAddr b c).run P w := by
  rw [Op.equalIn]
  simp only [Sem.run_bind, run_underlying hu, Result.andThen_ok, sizeOf, typeInfo, run_program, hi, Sem.run_pure, ne_eq, hne, not_false_eq_true, if_true]
theorem eqIn_niliface {ms : Array (String × TypeId)} (hu : P.underlying t = some (.interface ms)) (u : TypeId) (x : Value) : (Op.equalIn (d + 1) t .nilIface (.iface u x)).run P w = .ok false w := by
  rw [Op.equalIn]; simp only [Sem.run_bind, run_underlying hu, Result.andThen_ok]; rfl
theorem eqIn_ifacenil {ms : Array (String × TypeId)} (hu : P.underlying t = some (.interface ms)) (u : TypeId) (x : Value) : (Op.equalIn (d + 1) t (.iface u x) .nilIface).run P w = .ok false w := by
  rw [Op.equalIn]; simp only [Sem.run_bind, run_underlying hu, Result.andThen_ok]; rfl
theorem eqIn_nilslice {el : TypeId} (hu : P.underlying t = some (.slice el)) (b : Option Addr) (n m n' m' : Nat) : (Op.equalIn (d + 1) t (.slice none n m) (.slice b n' m')).run P w = .ok b.isNone w := by
  rw [Op.equalIn]; simp only [Sem.run_bind, run_underlying hu, Result.andThen_ok]; rfl
theorem eqIn_slicenil {el : TypeId} (hu : P.underlying t = some (.slice el)) (b : Addr) (n m n' m' : Nat) : (Op.equalIn (d + 1) t (.slice (some b) n m) (.slice none n' m')).run P w = .ok false w := by
  rw [Op.equalIn]; simp only [Sem.run_bind, run_underlying hu, Result.andThen_ok]; rfl
theorem eqIn_nilfunc {x y : Array TypeId} {z : Bool} (hu : P.underlying t = some (.func x y z)) : (Op.equalIn (d + 1) t .nilFunc .nilFunc).run P w = .ok true w := by
  rw [Op.equalIn]; simp only [Sem.run_bind, run_underlying hu, Result.andThen_ok]; rfl
theorem eqIn_nilfunc1 {x y : Array TypeId} {z : Bool} (hu : P.underlying t = some (.func x y z)) (f : Fn) (b c : Array Value) : (Op.equalIn (d + 1) t .nilFunc (.func f b c)).run P w = .ok false w := by
  rw [Op.equalIn]; simp only [Sem.run_bind, run_underlying hu, Result.andThen_ok]; rfl
theorem eqIn_nilfunc2 {x y : Array TypeId} {z : Bool} (hu : P.underlying t = some (.func x y z)) (f : Fn) (b c : Array Value) : (Op.equalIn (d + 1) t (.func f b c) .nilFunc).run P w = .ok false w := by
  rw [Op.equalIn]; simp only [Sem.run_bind, run_underlying hu, Result.andThen_ok]; rfl
theorem run_sameAddr_ne {b c : Addr} {x y : Array Value} {t1 t2 : TypeId} (hne : b.block ≠ c.block) (h1 : w.heap[b.block]? = some (.cells x t1 (0, 0))) (h2 : w.heap[c.block]? = some (.cells y t2 (0, 0))) :
    (sameAddr b c).run P w = .ok false w := by
  have hb : (b.block == c.block) = false := by simpa using hne
  simp [sameAddr, hb, World.frozen?, h1, h2, noView, viewAt, World.shape?, mayBeOne, stringish]
theorem run_sameAddr_eq (b : Addr) : (sameAddr b b).run P w = .ok true w := by simp [sameAddr]
end eqs

theorem size_ne {el : TypeId} (h : 0 < P.cellsOf el) : ∃ i, P.info? el = some i ∧ ¬ i.size = 0 := by
  unfold Program.cellsOf at h
  cases hi : P.info? el with
  | none => rw [hi] at h; simp at h
  | some i => rw [hi] at h; simp at h; exact ⟨i, rfl, by omega⟩

theorem run_eq_ptr {t : TypeId} {v u : AV} {b : Bool} (hk : ekOf P t = .ptr) (h : eqAV H .ptr v u = some b) (hr : HR G B σ μ H w) {x y : Value} (hx : RV w σ μ v x) (hy : RV w σ μ u y) :
    (Op.equal t x y).run P w = .ok b w := by
  obtain ⟨el, hu, hsz⟩ := ekOf_kind.1 hk
  obtain ⟨i, hi, hne⟩ := size_ne hsz
  simp only [eqAV] at h
  split at h
  · cases h; rw [hx.nilptr_inv, hy.nilptr_inv]; exact eqIn_nilptr 9999 hu _
  · cases h; obtain ⟨m, rfl, _⟩ := hy.ptr_inv; rw [hx.nilptr_inv]; exact eqIn_nilptr 9999 hu _
  · cases h; obtain ⟨m, rfl, _⟩ := hx.ptr_inv; rw [hy.nilptr_inv]; exact eqIn_ptrnil 9999 hu _
  · cases h; obtain ⟨_, _, _, _, _, _, rfl, _⟩ := hy.vptr_inv; rw [hx.nilptr_inv]; exact eqIn_nilptr 9999 hu _
  · cases h; obtain ⟨_, _, _, _, _, _, rfl, _⟩ := hx.vptr_inv; rw [hy.nilptr_inv]; exact eqIn_ptrnil 9999 hu _
  · rename_i b1 i1 o1 b2 i2 o2
    obtain ⟨m1, rfl, hm1⟩ := hx.ptr_inv
    obtain ⟨m2, rfl, hm2⟩ := hy.ptr_inv
    split at h
    · rename_i heq
      cases h
      obtain ⟨rfl, rfl, rfl⟩ := heq
      rw [hm1] at hm2
      cases hm2
      exact (eqIn_ptr 9999 hu hi hne _ _).trans (run_sameAddr_eq _)
    · split at h
      · rename_i heq
        cases h
        obtain ⟨hb, rfl, rfl, rfl, rfl, hl1, hl2⟩ := heq
        obtain ⟨sz1, es1, e1⟩ := live_some hl1
        obtain ⟨sz2, es2, e2⟩ := live_some hl2
        have hrb : m1.rb ≠ m2.rb := fun q => hb (hr.inj b1 b2 _ _ m1 m2 e1 trivial e2 trivial hm1 hm2 q)
        obtain ⟨_, _, _, _, c1, ty1, g1, _⟩ := hr.blk b1 _ m1 e1 hm1
        obtain ⟨_, _, _, _, c2, ty2, g2, _⟩ := hr.blk b2 _ m2 e2 hm2
        exact (eqIn_ptr 9999 hu hi hne _ _).trans (run_sameAddr_ne hrb g1 g2)
      · cases h
  · cases h

/-- '==' of what is no number and no string. -/
theorem run_eqAV {t : TypeId} {v u : AV} {b : Bool} (h : eqAV H (ekOf P t) v u = some b) (hr : HR G B σ μ H w) {x y : Value} (hx : RV w σ μ v x) (hy : RV w σ μ u y) :
    (Op.equal t x y).run P w = .ok b w := by
  generalize hk : ekOf P t = k at h
  cases k with
  | ptr => exact run_eq_ptr hk h hr hx hy
  | one f =>
    cases f with
    | bool => exact eqCell_run h hx hy (ekOf_one hk) 9999
    | int => simp [eqAV] at h
    | str => simp [eqAV] at h
  | agg fs =>
    obtain ⟨⟨l, hu⟩, _, hf⟩ := ekOf_agg hk
    simp only [eqAV] at h
    split at h
    · rename_i cs ds
      obtain ⟨xs, rfl, hxs⟩ := hx.agg_inv
      obtain ⟨ys, rfl, hys⟩ := hy.agg_inv
      have := eqFlat_run 8 hf hxs hys h 9992
      simp only [ofCells, hu] at this
      exact this
    · cases h
  | iface =>
    obtain ⟨ms, hu⟩ := ekOf_kind.2.1 hk
    simp only [eqAV] at h
    split at h
    · cases h; obtain ⟨y', rfl, _⟩ := hy.iface_inv; cases hx; exact eqIn_niliface 9999 hu _ _
    · cases h; obtain ⟨y', rfl, _⟩ := hx.iface_inv; cases hy; exact eqIn_ifacenil 9999 hu _ _
    · cases h
  | slice =>
    obtain ⟨el, hu⟩ := ekOf_kind.2.2.1 hk
    simp only [eqAV] at h
    split at h
    · cases h; rw [hx.nilslice_inv, hy.nilslice_inv]; exact eqIn_nilslice 9999 hu _ _ _ _ _
    · cases h; obtain ⟨_, _, rfl, _⟩ := hy.slice_inv; rw [hx.nilslice_inv]; exact eqIn_nilslice 9999 hu _ _ _ _ _
    · cases h; obtain ⟨_, _, rfl, _⟩ := hx.slice_inv; rw [hy.nilslice_inv]; exact eqIn_slicenil 9999 hu _ _ _ _ _
    · cases h
      rcases hy.vslice_inv with ⟨h0, _⟩ | ⟨_, _, _, _, _, _, _, _, rfl, _⟩
      · cases h0
      · rw [hx.nilslice_inv]; exact eqIn_nilslice 9999 hu _ _ _ _ _
    · cases h
      rcases hx.vslice_inv with ⟨h0, _⟩ | ⟨_, _, _, _, _, _, _, _, rfl, _⟩
      · cases h0
      · rw [hy.nilslice_inv]; exact eqIn_slicenil 9999 hu _ _ _ _ _
    · cases h
  | func =>
    obtain ⟨x1, x2, x3, hu⟩ := ekOf_kind.2.2.2 hk
    simp only [eqAV] at h
    split at h
    · cases h; cases hx; cases hy; exact eqIn_nilfunc 9999 hu
    · cases h; obtain ⟨_, _, _, rfl, _⟩ := hy.func_inv; cases hx; exact eqIn_nilfunc1 9999 hu _ _ _
    · cases h; obtain ⟨_, _, _, rfl, _⟩ := hx.func_inv; cases hy; exact eqIn_nilfunc2 9999 hu _ _ _
    · cases h
  | map => simp [eqAV] at h
  | other => simp [eqAV] at h

/-- What '==' and '!=' do at two values, and that their guard lets them by. -/
def EqShape (P : Program) (w : World) (t : TypeId) (x y : Value) : Prop :=
  (∀ op X Y, (eqGuard op t X Y x y).run P w = .ok () w) ∧ binOp .eql t x y = (do pure (.bool (← Op.equal t x y))) ∧ binOp .neq t x y = (do pure (.bool (!(← Op.equal t x y))))

theorem shape_bool (t : TypeId) (b c : Bool) : EqShape P w t (.bool b) (.bool c) := ⟨fun op _ _ => by cases op <;> rfl, rfl, rfl⟩
theorem shape_ptr (t : TypeId) (b c : Option Addr) : EqShape P w t (.pointer b) (.pointer c) := ⟨fun op _ _ => by cases op <;> rfl, rfl, rfl⟩
theorem shape_slice (t : TypeId) (b c : Option Addr) (n m n' m' : Nat) : EqShape P w t (.slice b n m) (.slice c n' m') := ⟨fun op _ _ => by cases op <;> rfl, rfl, rfl⟩
theorem shape_iface1 (t u : TypeId) (x : Value) : EqShape P w t .nilIface (.iface u x) := ⟨fun op _ _ => by cases op <;> rfl, rfl, rfl⟩
theorem shape_iface2 (t u : TypeId) (x : Value) : EqShape P w t (.iface u x) .nilIface := ⟨fun op _ _ => by cases op <;> rfl, rfl, rfl⟩
theorem shape_func0 (t : TypeId) : EqShape P w t .nilFunc .nilFunc := ⟨fun op _ _ => by cases op <;> rfl, rfl, rfl⟩
theorem shape_func1 (t : TypeId) (f : Fn) (b c : Array Value) : EqShape P w t .nilFunc (.func f b c) := ⟨fun op _ _ => by cases op <;> rfl, rfl, rfl⟩
theorem shape_func2 (t : TypeId) (f : Fn) (b c : Array Value) : EqShape P w t (.func f b c) .nilFunc := ⟨fun op _ _ => by cases op <;> rfl, rfl, rfl⟩
theorem shape_agg (t : TypeId) (b c : Array Value) (hg : P.eqGuardType P.depth t = false) : EqShape P w t (.agg b) (.agg c) := ⟨fun op _ _ => run_eqGuard_agg w op t _ _ b c hg, rfl, rfl⟩

theorem run_eqShape {t : TypeId} {v u : AV} {b : Bool} (h : eqAV H (ekOf P t) v u = some b) {x y : Value} (hx : RV w σ μ v x) (hy : RV w σ μ u y) : EqShape P w t x y := by
  generalize hk : ekOf P t = k at h
  cases k with
  | ptr =>
    simp only [eqAV] at h
    split at h <;> first | (cases h; done) | (cases hx <;> cases hy <;> exact shape_ptr _ _ _)
  | one f =>
    cases f with
    | bool =>
      simp only [eqAV] at h
      unfold eqCell at h
      split at h <;> first | (cases h; done) | skip
      · rename_i hf; cases hf
      · rename_i hf; cases hf
      · rw [hx.bool_inv, hy.bool_inv]; exact shape_bool _ _ _
    | int => simp [eqAV] at h
    | str => simp [eqAV] at h
  | agg fs =>
    obtain ⟨_, hg, _⟩ := ekOf_agg hk
    simp only [eqAV] at h
    split at h
    · obtain ⟨xs, rfl, _⟩ := hx.agg_inv
      obtain ⟨ys, rfl, _⟩ := hy.agg_inv
      exact shape_agg _ _ _ hg
    · cases h
  | iface =>
    simp only [eqAV] at h
    split at h
    · obtain ⟨y', rfl, _⟩ := hy.iface_inv; cases hx; exact shape_iface1 _ _ _
    · obtain ⟨y', rfl, _⟩ := hx.iface_inv; cases hy; exact shape_iface2 _ _ _
    · cases h
  | slice =>
    simp only [eqAV] at h
    split at h <;> first | (cases h; done) | (cases hx <;> cases hy <;> exact shape_slice _ _ _ _ _ _ _)
  | func =>
    simp only [eqAV] at h
    split at h
    · cases hx; cases hy; exact shape_func0 _
    · obtain ⟨_, _, _, rfl, _⟩ := hy.func_inv; cases hx; exact shape_func1 _ _ _ _
    · obtain ⟨_, _, _, rfl, _⟩ := hx.func_inv; cases hy; exact shape_func2 _ _ _ _
    · cases h
  | map => simp [eqAV] at h
  | other => simp [eqAV] at h

theorem ok_bin {op : BinOp} {t t2 : TypeId} {x y : Operand} {own : Bool} {xo : XOp} (hc : compOp P G own (.binOp op t x y t2) = some xo) (hx : xop X C xo e H = some r) (hr : HR G B σ μ H w) (he : ER σ μ e w a) :
    OpOK P (.binOp op t x y t2) o a w (Post G B σ μ w r) := by
  simp only [compOp, Option.bind_eq_some_iff, Option.map_eq_some_iff] at hc
  obtain ⟨x', hx', y', hy', rfl⟩ := hc
  have h1 := RV.arg hr he hx'
  have h2 := RV.arg hr he hy'
  simp only [xop, Option.map_eq_some_iff] at hx
  obtain ⟨v, hv, rfl⟩ := hx
  have hguard : ∀ (k : IntKind) (n : Int), a.eval x = .int k n → (eqGuard op t x y (a.eval x) (a.eval y)).run P w = .ok () w := by
    intro k n hxv; rw [hxv]; cases op <;> simp [eqGuard]
  unfold binAV at hv
  split at hv
  · rename_i k m k' n hp hq
    rw [hp] at h1; rw [hq] at h2
    have e1 := h1.int_inv
    have e2 := h2.int_inv
    have hg := hguard _ _ e1
    split at hv
    · rename_i ho
      obtain ⟨z, hz, hzr⟩ := run_intShift (P := P) (w := w) (σ := σ) (μ := μ) (.inl rfl) hv t (k' := k')
      refine .quiet hr rfl ?_ hzr
      rw [e1, e2] at hg
      simp [execOp, e1, e2, hg, hz]
    · rename_i ho
      obtain ⟨z, hz, hzr⟩ := run_intShift (P := P) (w := w) (σ := σ) (μ := μ) (.inr rfl) hv t (k' := k')
      refine .quiet hr rfl ?_ hzr
      rw [e1, e2] at hg
      simp [execOp, e1, e2, hg, hz]
    · split at hv
      · rename_i hk
        subst hk
        obtain ⟨z, hz, hzr⟩ := run_intBin (P := P) (w := w) (σ := σ) (μ := μ) hv t
        refine .quiet hr rfl ?_ hzr
        rw [e1, e2] at hg
        simp [execOp, e1, e2, hg, hz]
      · cases hv
  · rename_i s u hp hq
    rw [hp] at h1; rw [hq] at h2
    have e1 := h1.str_inv
    have e2 := h2.str_inv
    obtain ⟨z, hz, hzr⟩ := run_strBin (P := P) (w := w) (σ := σ) (μ := μ) hv t
    refine .quiet hr rfl ?_ hzr
    have hg : (eqGuard op t x y (.string ⟨s.toArray⟩) (.string ⟨u.toArray⟩)).run P w = .ok () w := by cases op <;> simp [eqGuard]
    simp [execOp, e1, e2, hg, hz]
  · skip
    split at hv
    · rw [Option.map_eq_some_iff] at hv
      obtain ⟨b, hb, rfl⟩ := hv
      have hq := run_eqAV (P := P) hb hr h1 h2
      refine .quiet hr rfl ?_ (.bool _ _)
      obtain ⟨g1, g2, _⟩ := run_eqShape (P := P) hb h1 h2
      simp [execOp, g1, g2, hq]
    · rw [Option.map_eq_some_iff] at hv
      obtain ⟨b, hb, rfl⟩ := hv
      have hq := run_eqAV (P := P) hb hr h1 h2
      refine .quiet hr rfl ?_ (.bool _ _)
      obtain ⟨g1, _, g2⟩ := run_eqShape (P := P) hb h1 h2
      simp [execOp, g1, g2, hq]
    · cases hv
end
end X
end Go.Proofs.YtkaigfcjejabfaaGreatDoor
