/- Calls that see only what is written out, and hand out new memory. No condition. -/
import Derived.Test.YtkaigfcjejabfaaGreatDoorXK
set_option linter.unusedSimpArgs false
set_option linter.unusedVariables false
namespace Go.Proofs.YtkaigfcjejabfaaGreatDoor
open Go
namespace X

section
variable {P : Program} {G : Nat → Option AV} {w : World} {σ : Nat → Prop} {μ : Mu} {B : Nat} {H : Heap}

theorem moved {vs : List AV} {xs : List Value} {μ' : Mu} {T : Nat → Prop} {g : AV → AV} (h : RVs w σ μ vs xs) (hv : ∀ v ∈ vs, ∀ x, RV w σ μ v x → RV w T μ' (g v) x) : RVs w T μ' (vs.map g) xs := by
  induction vs generalizing xs with
  | nil => cases h; exact .nil _
  | cons v vs ih =>
    cases h with
    | cons _ _ x _ xs h hs => exact .cons _ _ _ _ _ (hv v (by simp) x h) (ih hs fun u hu => hv u (by simp [hu]))

theorem RV.shift {n : Nat} {T : Nat → Prop} {μ' : Mu} (hμ : ∀ b m, μ b = some m → μ' (n + b) = some m) : ∀ {k : Nat} {v : AV}, plain k v = true → ∀ {x : Value}, RV w σ μ v x → RV w T μ' (X.shift n k v) x
  | 0, v, h, _, _ => by simp [plain] at h
  | k + 1, v, h, x, hr => by
    cases hr with
    | undef => exact .undef _ _
    | bool => exact .bool _ _
    | int => exact .int _ _ _
    | str => exact .str _ _
    | nilptr => exact .nilptr _
    | nilslice => exact .nilslice _
    | nilmap => exact .nilmap _
    | nilfunc => exact .nilfunc _
    | niliface => exact .niliface _
    | ptr _ _ _ _ m hm => exact .ptr _ _ _ _ m (hμ _ _ hm)
    | slice _ _ _ _ _ m hm h1 h2 h3 => exact .slice _ _ _ _ _ m (hμ _ _ hm) h1 h2 h3
    | map _ _ m hm => exact .map _ _ m (hμ _ _ hm)
    | iter => simp [plain] at h
    | vptr => simp [plain] at h
    | vslice0 => exact .vslice0 _ _ _
    | vslice _ es =>
      cases es with
      | nil => exact .vslice0 _ _ _
      | cons => simp [plain] at h
    | vmap => simp [plain] at h
    | func => simp [plain] at h
    | iface _ _ _ _ hv => simp only [plain] at h; exact .iface _ _ _ _ (RV.shift hμ h hv)
    | agg _ _ xs hs => simp only [plain, List.all_eq_true] at h; exact .agg _ _ _ (moved hs fun u hu y hy => RV.shift hμ (h u hu) hy)
    | tuple _ _ xs hs => simp only [plain, List.all_eq_true] at h; exact .tuple _ _ _ (moved hs fun u hu y hy => RV.shift hμ (h u hu) hy)

theorem storable_shift {n k : Nat} {v : AV} : (X.shift n k v).storable = v.storable := by
  cases k with
  | zero => rfl
  | succ k => cases v <;> rfl

theorem cells_shift {n k : Nat} {v : AV} (h : plain k v = true) : ∃ j, (X.shift n k v).cells = v.cells.map (X.shift n j) ∧ ∀ u ∈ v.cells, plain j u = true := by
  cases k with
  | zero => simp [plain] at h
  | succ k =>
    cases v with
    | agg cs => simp only [plain, List.all_eq_true] at h; exact ⟨k, rfl, h⟩
    | _ => exact ⟨k + 1, rfl, by intro u hu; simp only [AV.cells, List.mem_singleton] at hu; subst hu; exact h⟩

theorem shape_shift {n k sz : Nat} {v : AV} (h : plain k v = true) (hs : v.cells.length = sz ∧ v.cells.all AV.storable = true) : (X.shift n k v).cells.length = sz ∧ (X.shift n k v).cells.all AV.storable = true := by
  obtain ⟨j, h1, _⟩ := cells_shift (n := n) h
  rw [h1]
  refine ⟨by rw [List.length_map]; exact hs.1, ?_⟩
  rw [List.all_map]
  have : (AV.storable ∘ X.shift n j) = AV.storable := funext fun v => storable_shift
  rw [this]; exact hs.2

theorem flat_shift {n k : Nat} {T : Nat → Prop} {μ' : Mu} (hμ : ∀ b m, μ b = some m → μ' (n + b) = some m) : ∀ {es : List AV} {vs : List Value}, es.all (plain k) = true → RVs w σ μ (es.flatMap AV.cells) vs → RVs w T μ' ((es.map (X.shift n k)).flatMap AV.cells) vs
  | [], vs, _, h => by cases h; exact .nil _
  | e :: es, vs, ha, h => by
    simp only [List.all_cons, Bool.and_eq_true] at ha
    simp only [List.flatMap_cons] at h
    obtain ⟨h1, h2⟩ := h.split
    obtain ⟨j, g1, g2⟩ := cells_shift (n := n) ha.1
    simp only [List.map_cons, List.flatMap_cons, g1]
    have := (moved (g := X.shift n j) (T := T) (μ' := μ') h1 fun u hu y hy => RV.shift hμ (g2 u hu) hy).append (flat_shift hμ ha.2 h2)
    rwa [List.take_append_drop] at this

theorem freshCall_ok {C : Oracle} (hC : OracleOK P G C) {f : Nat} {args : List AV} {r : AV × Heap} (h : freshCall C f args H = some r) (hr : HR G B σ μ H w) {xs : List Value} (hx : RVs w σ μ args xs) :
    CallOK P f xs w (Post G B σ μ w r) := by
  unfold freshCall at h
  simp only [Option.bind_eq_some_iff] at h
  obtain ⟨as, has, q, hq, h⟩ := h
  split at h
  · rename_i hpl
    cases h
    have hall : RVs w (fun b => b < w.heap.size) noMu as xs := RVs.mapM has hx fun u _ s y h1 h2 =>
      snap_ok (md := .all) hr (fun _ b hb => hr.st b hb) (fun b k m hb ha hm _ => (hr.own b k m hb ha hm).2.1) h1 h2 ⟨0, rfl⟩
    have hglob : ∀ g v, G g = some v → RV w (fun b => b < w.heap.size) noMu v (.pointer (some ⟨g, 0, none⟩)) := fun g v hg => (hr.glob g v hg).mono (fun b hb => ⟨hr.st b hb, rfl⟩) fun _ _ h => h
    refine (hC f as [] q hq w.heap.size _ noMu w xs (HR.empty (fun b hb => hb) hglob) hall).mono ?_
    rintro x w' ⟨σ', μ', hr', hv', hst⟩
    let μ'' : Mu := fun b => if b < H.length then μ b else μ' (b - H.length)
    have hlow : ∀ b m, μ b = some m → μ'' b = some m := fun b m hm => by simp only [μ'', if_pos (hr.dom b m hm)]; exact hm
    have hup : ∀ b m, μ' b = some m → μ'' (H.length + b) = some m := fun b m hm => by
      simp only [μ'']
      rw [if_neg (by omega), Nat.add_sub_cancel_left]; exact hm
    have hkeep : ∀ b, σ b → σ b ∧ w'.heap[b]? = w.heap[b]? := fun b hb => ⟨hb, hst.old b (hr.st b hb)⟩
    have cases_at : ∀ {b : Nat} {k : Blk} {m : BM}, (H ++ q.2.map (Blk.shift H.length))[b]? = some k → μ'' b = some m →
        (b < H.length ∧ H[b]? = some k ∧ μ b = some m) ∨ (H.length ≤ b ∧ ∃ k', q.2[b - H.length]? = some k' ∧ k = Blk.shift H.length k' ∧ μ' (b - H.length) = some m) := by
      intro b k m hb hm
      by_cases hlt : b < H.length
      · left
        rw [List.getElem?_append_left hlt] at hb
        simp only [μ'', if_pos hlt] at hm
        exact ⟨hlt, hb, hm⟩
      · right
        rw [List.getElem?_append_right (by omega), List.getElem?_map, Option.map_eq_some_iff] at hb
        obtain ⟨k', h1, h2⟩ := hb
        simp only [μ'', if_neg hlt] at hm
        exact ⟨by omega, k', h1, h2.symm, hm⟩
    have alive_of : ∀ {k : Blk}, (Blk.shift H.length k).alive → k.alive := by
      intro k hk
      cases k <;> first | trivial | exact hk
    refine ⟨σ, μ'', ⟨?_, ?_, ?_, ?_, ?_, ?_, ?_, ?_⟩, RV.shift hup hpl hv', ⟨hkeep, hlow, fun b hb => hst.old b (Nat.lt_of_lt_of_le hb hr.base), hst.size, fun b hb => .inl hb, hst.out⟩⟩
    · intro b m hm
      simp only [μ''] at hm
      simp only [List.length_append, List.length_map]
      split at hm
      · omega
      · have := hr'.dom _ m hm
        omega
    · intro b hb
      simp only [List.length_append, List.length_map] at hb
      by_cases hlt : b < H.length
      · obtain ⟨m, hm⟩ := hr.has b hlt
        exact ⟨m, hlow b m hm⟩
      · obtain ⟨m, hm⟩ := hr'.has (b - H.length) (by omega)
        exact ⟨m, by simp only [μ'', if_neg hlt]; exact hm⟩
    · exact fun b hb => Nat.lt_of_lt_of_le (hr.st b hb) hst.size
    · exact Nat.le_trans hr.base hst.size
    · exact fun g u hg => (hr.glob g u hg).mono hkeep fun _ _ h => h
    · intro b k m hb hm
      rcases cases_at hb hm with ⟨hlt, h1, h2⟩ | ⟨hge, k', h1, rfl, h2⟩
      · exact (hr.blk b k m h1 h2).mono hkeep hlow fun ha => hst.old _ (hr.own b k m h1 ha h2).2.1
      · have hbr := hr'.blk _ k' m h1 h2
        cases k' with
        | dead => trivial
        | arr sz es =>
          simp only [Blk.shift]
          split
          · rename_i hes
            obtain ⟨b1, b2, b3, b4, c, ty, b5, b6, vs, b7, b8⟩ := hbr
            refine ⟨b1, by rw [List.length_map]; exact b2, ?_, b4, c, ty, b5, b6, vs, flat_shift hup hes b7, b8⟩
            intro e he
            obtain ⟨e0, he0, rfl⟩ := List.mem_map.1 he
            exact shape_shift (List.all_eq_true.1 hes e0 he0) (b3 e0 he0)
          · trivial
        | map ks vs =>
          simp only [Blk.shift]
          split
          · rename_i hes
            simp only [Bool.and_eq_true, List.all_eq_true] at hes
            obtain ⟨en, clock, b1, b2, b3, b4⟩ := hbr
            exact ⟨en, clock, b1, moved b2 fun u hu y hy => RV.shift hup (hes.1 u hu) hy, moved b3 (fun u hu y hy => RV.shift hup (hes.2 u hu) hy), b4⟩
          · trivial
    · intro b k m hb ha hm
      rcases cases_at hb hm with ⟨hlt, h1, h2⟩ | ⟨hge, k', h1, rfl, h2⟩
      · obtain ⟨o1, o2, o3⟩ := hr.own b k m h1 ha h2
        exact ⟨o1, Nat.lt_of_lt_of_le o2 hst.size, o3⟩
      · obtain ⟨o1, o2, o3⟩ := hr'.own _ k' m h1 (alive_of ha) h2
        exact ⟨Nat.le_trans hr.base o1, o2, fun hs => absurd (hr.st _ hs) (by omega)⟩
    · intro b b' k k' m m' hb ha hb' ha' hm hm' he
      rcases cases_at hb hm with ⟨hlt, h1, h2⟩ | ⟨hge, k1, h1, rfl, h2⟩ <;> rcases cases_at hb' hm' with ⟨hlt', h1', h2'⟩ | ⟨hge', k1', h1', rfl, h2'⟩
      · exact hr.inj b b' k k' m m' h1 ha h1' ha' h2 h2' he
      · have o1 := (hr.own b k m h1 ha h2).2.1
        have o2 := (hr'.own _ k1' m' h1' (alive_of ha') h2').1
        omega
      · have o1 := (hr.own b' k' m' h1' ha' h2').2.1
        have o2 := (hr'.own _ k1 m h1 (alive_of ha) h2).1
        omega
      · have := hr'.inj _ _ k1 k1' m m' h1 (alive_of ha) h1' (alive_of ha') h2 h2' he
        omega
  · cases h
end
end X
end Go.Proofs.YtkaigfcjejabfaaGreatDoor
