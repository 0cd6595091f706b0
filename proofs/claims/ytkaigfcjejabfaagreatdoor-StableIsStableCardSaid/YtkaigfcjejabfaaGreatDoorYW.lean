/- Matchings as lists: what Blocking asks of them, and that all stable ones leave out the same. No condition. -/
import Derived.Test.YtkaigfcjejabfaaGreatDoorYX
set_option maxRecDepth 100000
set_option linter.unusedSimpArgs false
set_option linter.unusedVariables false
namespace Go.Proofs.YtkaigfcjejabfaaGreatDoor
open Go
namespace Y
open X

theorem look_fold {f : Deal → Str × Str} {s : Str} : ∀ (d : List Deal) (t : Tab Str), (∃ p ∈ d, (f p).1 = s ∧ look s (d.foldl (fun t p => upd (f p).1 (f p).2 t) t) = some (f p).2) ∨ ((∀ p ∈ d, (f p).1 ≠ s) ∧ look s (d.foldl (fun t p => upd (f p).1 (f p).2 t) t) = look s t)
  | [], t => .inr ⟨by simp, rfl⟩
  | p :: d, t => by
    rw [List.foldl_cons]
    rcases look_fold (f := f) (s := s) d (upd (f p).1 (f p).2 t) with ⟨q, hq, h1, h2⟩ | ⟨h1, h2⟩
    · exact .inl ⟨q, by simp [hq], h1, h2⟩
    · rw [h2, look_upd]
      by_cases e : s = (f p).1
      · rw [if_pos e]; exact .inl ⟨p, by simp, e.symm, rfl⟩
      · rw [if_neg e]
        refine .inr ⟨fun q hq => ?_, rfl⟩
        rcases List.mem_cons.1 hq with rfl | hq
        · exact fun h => e h.symm
        · exact h1 q hq

theorem look_hasT {d : List Deal} (ic : ∀ c r r', (c, r) ∈ d → (c, r') ∈ d → r = r') {c r : Str} (h : (c, r) ∈ d) : look c (hasT d) = some r := by
  rcases look_fold (f := fun p => (p.1, p.2)) (s := c) d [] with ⟨p, hp, h1, h2⟩ | ⟨h1, _⟩
  · obtain ⟨a, b⟩ := p
    simp only at h1
    subst h1
    rw [ic _ _ _ h hp]; exact h2
  · exact (h1 _ h rfl).elim

theorem look_ofT' {d : List Deal} (ir : ∀ c c' r, (c, r) ∈ d → (c', r) ∈ d → c = c') {c r : Str} (h : (c, r) ∈ d) : look r (ofT d) = some c := by
  rcases look_fold (f := fun p => (p.2, p.1)) (s := r) d [] with ⟨p, hp, h1, h2⟩ | ⟨h1, _⟩
  · obtain ⟨a, b⟩ := p
    simp only at h1
    subst h1
    rw [ir _ _ _ h hp]; exact h2
  · exact (h1 _ h rfl).elim

theorem likes_mem {l : List Str} {x y : Str} (h : likes l x y = true) : x ∈ l := by
  unfold likes at h
  rw [Bool.and_eq_true, decide_eq_true_eq, ixi_nonneg] at h
  exact h.1

theorem calm_of {cars rides : List W} (hc : OkW cars) {d : List Deal} (hd : StableM (prefOf cars) (prefOf rides) d) : Calm cars (tabOf rides) d := by
  intro w hw r hr hl
  have hk : (tabOf cars).Pairwise fun p q => p.1 ≠ q.1 := List.pairwise_map.2 (hc.ord.imp fun hab => lt_ne hab)
  have hpw : prefOf cars w.who = w.fr := by
    rw [prefOf, look_of_mem hk (List.mem_map.2 ⟨w, hw, rfl⟩)]; rfl
  show likes (prefOf rides r) w.who ((look r (ofT d)).getD []) = false
  cases hlk : likes (prefOf rides r) w.who ((look r (ofT d)).getD []) with
  | false => rfl
  | true =>
    exfalso
    rcases hd.st w.who r (by rw [hpw]; exact hr) (likes_mem hlk) with h | ⟨r', h, hb⟩ | ⟨c', h, hb⟩
    · rw [look_hasT hd.ic h] at hl
      exact ((likes_iff hr).1 hl).irrefl
    · rw [look_hasT hd.ic h] at hl
      rw [hpw] at hb
      exact hb.asymm ((likes_iff hb.1).1 hl)
    · rw [look_ofT' hd.ir h] at hlk
      exact hb.asymm ((likes_iff hb.1).1 hlk)

theorem StableM.perm {PC PR : Pref} {d m : List (Str × Str)} (h : StableM PC PR d) (hp : m.Perm d) : StableM PC PR m := by
  have hm : ∀ x, x ∈ m ↔ x ∈ d := fun x => hp.mem_iff
  refine ⟨⟨fun c r h' => h.acc c r ((hm _).1 h'), fun c r r' h1 h2 => h.ic c r r' ((hm _).1 h1) ((hm _).1 h2), fun c c' r h1 h2 => h.ir c c' r ((hm _).1 h1) ((hm _).1 h2)⟩, fun c r h1 h2 => ?_⟩
  rcases h.st c r h1 h2 with h | ⟨r', h, hb⟩ | ⟨c', h, hb⟩
  · exact .inl ((hm _).2 h)
  · exact .inr (.inl ⟨r', (hm _).2 h, hb⟩)
  · exact .inr (.inr ⟨c', (hm _).2 h, hb⟩)

def swp (d : List (Str × Str)) : List (Str × Str) := d.map fun p => (p.2, p.1)
theorem mem_swp {d : List (Str × Str)} {c r : Str} : (c, r) ∈ swp d ↔ (r, c) ∈ d := by
  unfold swp
  rw [List.mem_map]
  constructor
  · rintro ⟨⟨a, b⟩, h, e⟩; cases e; exact h
  · intro h; exact ⟨(r, c), h, rfl⟩

theorem StableM.swap {PC PR : Pref} {d : List (Str × Str)} (h : StableM PC PR d) : StableM PR PC (swp d) := by
  refine ⟨⟨fun c r hm => (h.acc _ _ (mem_swp.1 hm)).symm, fun c r r' h1 h2 => h.ir _ _ _ (mem_swp.1 h1) (mem_swp.1 h2), fun c c' r h1 h2 => h.ic _ _ _ (mem_swp.1 h1) (mem_swp.1 h2)⟩, fun c r h1 h2 => ?_⟩
  rcases h.st r c h2 h1 with h | ⟨r', h, hb⟩ | ⟨c', h, hb⟩
  · exact .inl (mem_swp.2 h)
  · exact .inr (.inr ⟨r', mem_swp.2 h, hb⟩)
  · exact .inr (.inl ⟨c', mem_swp.2 h, hb⟩)

theorem nodup_back {l m : List Str} (h : l.Nodup) (hs : ∀ x ∈ l, x ∈ m) (hl : m.length ≤ l.length) : ∀ x ∈ m, x ∈ l := by
  intro x hx
  apply Classical.byContradiction
  intro hn
  have := nodup_le (l := x :: l) (m := m) (List.nodup_cons.2 ⟨hn, h⟩) (fun y hy => by
    rcases List.mem_cons.1 hy with rfl | hy
    · exact hx
    · exact hs y hy)
  simp at this; omega

structure Once (d : List (Str × Str)) : Prop where
  one : (d.map (·.1)).Nodup
  two : (d.map (·.2)).Nodup

theorem mem_fst {d : List (Str × Str)} {c : Str} : c ∈ d.map (·.1) ↔ ∃ r, (c, r) ∈ d := by
  rw [List.mem_map]
  constructor
  · rintro ⟨⟨a, b⟩, h, rfl⟩; exact ⟨b, h⟩
  · rintro ⟨r, h⟩; exact ⟨_, h, rfl⟩
theorem mem_snd {d : List (Str × Str)} {r : Str} : r ∈ d.map (·.2) ↔ ∃ c, (c, r) ∈ d := by
  rw [List.mem_map]
  constructor
  · rintro ⟨⟨a, b⟩, h, rfl⟩; exact ⟨a, h⟩
  · rintro ⟨c, h⟩; exact ⟨_, h, rfl⟩

/-- The best matching of the rides and any other one: as many deals, the same cars, the same rides. -/
theorem same_left {PC PR : Pref} {m d : List (Str × Str)} (hm : StableM PC PR m) (hd : StableM PC PR d) (om : Once m) (od : Once d) (hb : ∀ c r, (c, r) ∈ d → ∃ c', (c', r) ∈ m ∧ (c' = c ∨ Bef (PR r) c' c)) :
    m.length = d.length ∧ (∀ c r, (c, r) ∈ m → ∃ r', (c, r') ∈ d) ∧ ∀ c r, (c, r) ∈ m → ∃ c', (c', r) ∈ d := by
  have h1 : ∀ c ∈ m.map (·.1), c ∈ d.map (·.1) := fun c hc => by
    obtain ⟨r, h⟩ := mem_fst.1 hc
    exact mem_fst.2 (cars_have hm hd hb h)
  have h2 : ∀ r ∈ d.map (·.2), r ∈ m.map (·.2) := fun r hr => by
    obtain ⟨c, h⟩ := mem_snd.1 hr
    obtain ⟨c', h', _⟩ := hb c r h
    exact mem_snd.2 ⟨c', h'⟩
  have l1 := nodup_le om.one h1
  have l2 := nodup_le od.two h2
  simp only [List.length_map] at l1 l2
  refine ⟨by omega, fun c r h => mem_fst.1 (h1 c (mem_fst.2 ⟨r, h⟩)), fun c r h => ?_⟩
  exact mem_snd.1 (nodup_back od.two h2 (by simp; omega) r (mem_snd.2 ⟨c, h⟩))

theorem once_deals {n : Nat} {F : Nat → List Str} {nm : Nat → Str} {PC PR : Pref} {hs : Tab Nat} {asked : List Nat} (h : Inv n F nm PC PR hs asked []) (hst : StableM PC PR (dealsOf nm hs)) : Once (dealsOf nm hs) := by
  have h1 : (dealsOf nm hs).Pairwise fun a b => a.1 ≠ b.1 := List.pairwise_map.2 h.keys
  refine ⟨List.pairwise_map.2 h1, List.pairwise_map.2 (h1.imp_of_mem fun {a b} ha hb hne e => ?_)⟩
  obtain ⟨a1, a2⟩ := a
  obtain ⟨b1, b2⟩ := b
  simp only at e hne
  subst e
  exact hne (hst.ir _ _ _ ha hb)

theorem Once.perm {d m : List (Str × Str)} (h : Once d) (hp : m.Perm d) : Once m := ⟨((hp.map _).nodup_iff).2 h.one, ((hp.map _).nodup_iff).2 h.two⟩
theorem Once.swap {d : List (Str × Str)} (h : Once d) : Once (swp d) := by
  refine ⟨?_, ?_⟩
  · have : (swp d).map (·.1) = d.map (·.2) := by simp [swp]
    rw [this]; exact h.two
  · have : (swp d).map (·.2) = d.map (·.1) := by simp [swp]
    rw [this]; exact h.one

theorem mat_of {cars rides : List W} {d : List Deal} (hd : StableM (prefOf cars) (prefOf rides) d) (ho : Once d) (hlen : d.length ≤ 200) (hord : d.Pairwise fun a b => lt a.1 b.1 = true) : Mat (tabOf cars) (tabOf rides) d := by
  have get : ∀ {l : List W} {s t : Str}, t ∈ prefOf l s → ∃ f, look s (tabOf l) = some f ∧ t ∈ f := by
    intro l s t h
    unfold prefOf at h
    cases hk : look s (tabOf l) with
    | none => rw [hk] at h; simp at h
    | some f => rw [hk] at h; exact ⟨f, rfl, h⟩
  exact ⟨hlen, hord, fun p hp => get (hd.acc p.1 p.2 hp).1, fun p hp => get (hd.acc p.1 p.2 hp).2, List.pairwise_map.1 ho.two⟩

theorem sortD_ord {m : List Deal} (hk : m.Pairwise fun a b => a.1 ≠ b.1) : (sortI cmpD m).Pairwise fun a b => lt a.1 b.1 = true := by
  refine sortI_sorted (c := cmpD) (lt := fun a b : Deal => lt a.1 b.1 = true) (ne := fun a b : Deal => a.1 ≠ b.1) (fun a b h => cmpS_neg.1 h) (fun a b hne h => ?_) (fun a b d h1 h2 => lt_trans h1 h2) (fun a b h => Ne.symm h) hk
  have : ¬ lt a.1 b.1 = true := fun hl => h (cmpS_neg.2 hl)
  rcases lt_total a.1 b.1 with h1 | h1 | h1
  · exact (this h1).elim
  · exact (hne h1).elim
  · exact h1
end Y
end Go.Proofs.YtkaigfcjejabfaaGreatDoor
