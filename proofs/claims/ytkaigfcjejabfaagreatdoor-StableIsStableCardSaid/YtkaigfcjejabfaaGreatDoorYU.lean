/- Stable matchings: that rides that ask cars come to one, that it is the best one for them, and that all of them leave out the same. No condition. -/
import Derived.Test.YtkaigfcjejabfaaGreatDoorYG
set_option linter.unusedSimpArgs false
set_option linter.unusedVariables false
namespace Go.Proofs.YtkaigfcjejabfaaGreatDoor
open Go
namespace Y

/-- Stands before another one in a list. -/
def Bef (l : List Str) (x y : Str) : Prop := x ∈ l ∧ y ∈ l ∧ ixi x l < ixi y l

theorem Bef.irrefl {l : List Str} {x : Str} (h : Bef l x x) : False := by have := h.2.2; omega
theorem Bef.asymm {l : List Str} {x y : Str} (h : Bef l x y) (h' : Bef l y x) : False := by have := h.2.2; have := h'.2.2; omega
theorem Bef.trans {l : List Str} {x y z : Str} (h : Bef l x y) (h' : Bef l y z) : Bef l x z := ⟨h.1, h'.2.1, by have := h.2.2; have := h'.2.2; omega⟩

theorem ixi_get : ∀ {l : List Str}, l.Nodup → ∀ {i : Nat} {x : Str}, l[i]? = some x → ixi x l = i := by
  intro l hn i x h
  have hp : pos x l = some i := by
    induction l generalizing i with
    | nil => simp at h
    | cons y l ih =>
      rw [List.nodup_cons] at hn
      cases i with
      | zero => simp at h; subst h; simp [pos]
      | succ i =>
        simp only [List.getElem?_cons_succ] at h
        have hm : x ∈ l := List.mem_of_getElem? h
        simp only [pos]
        rw [if_neg (fun e : x = y => hn.1 (e ▸ hm)), ih hn.2 h]
        rfl
  simp [ixi, hp]

theorem ixi_inj {l : List Str} {x y : Str} (hx : x ∈ l) (h : ixi x l = ixi y l) : x = y := by
  have h1 := pos_mem.2 hx
  unfold ixi at h
  cases hp : pos x l with
  | none => rw [hp] at h1; cases h1
  | some i =>
    rw [hp] at h
    cases hq : pos y l with
    | none => rw [hq] at h; simp at h
    | some j =>
      rw [hq] at h
      simp only [Int.natCast_inj] at h
      subst h
      have a := pos_get hp
      have b := pos_get hq
      rw [a] at b; cases b; rfl

theorem get_ixi {l : List Str} {x : Str} (hx : x ∈ l) : ∃ i : Nat, ixi x l = i ∧ l[i]? = some x := by
  have h1 := pos_mem.2 hx
  cases hp : pos x l with
  | none => rw [hp] at h1; cases h1
  | some i => exact ⟨i, by simp [ixi, hp], pos_get hp⟩

abbrev Pref := Str → List Str

structure Matching (PC PR : Pref) (d : List (Str × Str)) : Prop where
  acc : ∀ c r, (c, r) ∈ d → r ∈ PC c ∧ c ∈ PR r
  ic : ∀ c r r', (c, r) ∈ d → (c, r') ∈ d → r = r'
  ir : ∀ c c' r, (c, r) ∈ d → (c', r) ∈ d → c = c'

structure StableM (PC PR : Pref) (d : List (Str × Str)) : Prop extends Matching PC PR d where
  st : ∀ c r, r ∈ PC c → c ∈ PR r → (c, r) ∈ d ∨ (∃ r', (c, r') ∈ d ∧ Bef (PC c) r' r) ∨ ∃ c', (c', r) ∈ d ∧ Bef (PR r) c' c

/-- Rides that ask: 'hs': of each car the number of its ride; 'asked': how many cars each has asked; 'free': those that ask on. -/
structure Inv (n : Nat) (F : Nat → List Str) (nm : Nat → Str) (PC PR : Pref) (hs : Tab Nat) (asked free : List Nat) : Prop where
  la : asked.length = n
  le : ∀ i a, asked[i]? = some a → a ≤ (F i).length
  keys : hs.Pairwise fun p q => p.1 ≠ q.1
  hv : ∀ c i, look c hs = some i → i < n ∧ i ∉ free ∧ nm i ∈ PC c ∧ ∃ a, asked[i]? = some (a + 1) ∧ (F i)[a]? = some c
  fn : ∀ i ∈ free, i < n
  fd : free.Nodup
  dn : ∀ i, i < n → i ∈ free ∨ (∃ c, look c hs = some i) ∨ asked[i]? = some (F i).length
  rej : ∀ i a k c, asked[i]? = some a → k < a → (F i)[k]? = some c → look c hs = some i ∨ nm i ∉ PC c ∨ ∃ j, look c hs = some j ∧ Bef (PC c) (nm j) (nm i)
  opt : ∀ d, StableM PC PR d → ∀ i a k c, asked[i]? = some a → k < a → (F i)[k]? = some c → look c hs = some i ∨ (c, nm i) ∉ d

theorem upd_keys {α : Type} {s : Str} {x : α} : ∀ {t : Tab α}, t.Pairwise (fun p q => p.1 ≠ q.1) → (upd s x t).Pairwise (fun p q => p.1 ≠ q.1) ∧ ∀ p ∈ upd s x t, p.1 = s ∨ ∃ q ∈ t, q.1 = p.1
  | [], _ => ⟨by simp [upd], by simp [upd]⟩
  | (u, v) :: t, h => by
    rw [List.pairwise_cons] at h
    simp only [upd]
    split
    · rename_i e
      subst e
      refine ⟨List.pairwise_cons.2 ⟨h.1, h.2⟩, fun p hp => ?_⟩
      rcases List.mem_cons.1 hp with rfl | hp
      · exact .inl rfl
      · exact .inr ⟨p, by simp [hp], rfl⟩
    · rename_i e
      obtain ⟨h1, h2⟩ := upd_keys (s := s) (x := x) h.2
      refine ⟨List.pairwise_cons.2 ⟨fun p hp => ?_, h1⟩, fun p hp => ?_⟩
      · rcases h2 p hp with he | ⟨q, hq, he⟩
        · rw [he]; exact Ne.symm e
        · rw [← he]; exact h.1 q hq
      · rcases List.mem_cons.1 hp with rfl | hp
        · exact .inr ⟨_, by simp, rfl⟩
        · rcases h2 p hp with he | ⟨q, hq, he⟩
          · exact .inl he
          · exact .inr ⟨q, by simp [hq], he⟩

section
variable {n : Nat} {F : Nat → List Str} {nm : Nat → Str} {PC PR : Pref} {hs : Tab Nat} {asked f : List Nat}

/-- Those whom a stable matching does not give a car that has somebody better. -/
theorem no_deal (hF : ∀ i, i < n → PR (nm i) = F i ∧ (F i).Nodup) {d : List (Str × Str)} (hd : StableM PC PR d) {j b : Nat} {c x : Str} (hj : j < n) (hb : (F j)[b]? = some c) (hm : nm j ∈ PC c)
    (ho : ∀ k c', k < b → (F j)[k]? = some c' → (c', nm j) ∉ d) (hbef : Bef (PC c) (nm j) x) : (c, x) ∉ d := by
  intro hx
  have hcF : c ∈ PR (nm j) := by rw [(hF j hj).1]; exact List.mem_of_getElem? hb
  rcases hd.st c (nm j) hm hcF with h | ⟨r', h1, h2⟩ | ⟨c', h1, h2⟩
  · have := hd.ic _ _ _ h hx
    rw [this] at hbef
    exact hbef.irrefl
  · have := hd.ic _ _ _ h1 hx
    subst this
    exact h2.asymm hbef
  · rw [(hF j hj).1] at h2
    obtain ⟨k, hk1, hk2⟩ := get_ixi h2.1
    have hbi := ixi_get (hF j hj).2 hb
    have := h2.2.2
    exact ho k c' (by omega) hk2 h1

/-- A ride that has asked all is free no longer. -/
theorem Inv.pop {i : Nat} (h : Inv n F nm PC PR hs asked (f ++ [i])) (he : asked[i]? = some (F i).length) : Inv n F nm PC PR hs asked f := by
  have hd := h.fd
  rw [List.nodup_append] at hd
  refine ⟨h.la, h.le, h.keys, fun c j hj => ?_, fun j hj => h.fn j (by simp [hj]), hd.1, fun j hj => ?_, h.rej, h.opt⟩
  · obtain ⟨h1, h2, h3⟩ := h.hv c j hj
    exact ⟨h1, fun hm => h2 (by simp [hm]), h3⟩
  · rcases h.dn j hj with hm | hm
    · rw [List.mem_append, List.mem_singleton] at hm
      rcases hm with hm | rfl
      · exact .inl hm
      · exact .inr (.inr he)
    · exact .inr hm

theorem get_set {l : List Nat} {i j x y : Nat} (h : (l.set i x)[j]? = some y) : (j = i ∧ y = x) ∨ (j ≠ i ∧ l[j]? = some y) := by
  rw [List.getElem?_set] at h
  split at h
  · rename_i e
    split at h
    · cases h; exact .inl ⟨e.symm, rfl⟩
    · cases h
  · rename_i e; exact .inr ⟨fun h' => e h'.symm, h⟩

/-- A car does not take the one that asks. -/
theorem Inv.lose (hF : ∀ i, i < n → PR (nm i) = F i ∧ (F i).Nodup) {i a : Nat} {c : Str} (h : Inv n F nm PC PR hs asked (f ++ [i])) (ha : asked[i]? = some a) (hc : (F i)[a]? = some c)
    (hl : nm i ∉ PC c ∨ ∃ j, look c hs = some j ∧ Bef (PC c) (nm j) (nm i)) : Inv n F nm PC PR hs (asked.set i (a + 1)) (f ++ [i]) := by
  have hin : i < n := h.fn i (by simp)
  have hnot : ∀ c, look c hs ≠ some i := fun c hc => (h.hv c i hc).2.1 (by simp)
  have hlt := (List.getElem?_eq_some_iff.1 hc).1
  have hil : i < asked.length := (List.getElem?_eq_some_iff.1 ha).1
  refine ⟨by simp [h.la], fun j b hb => ?_, h.keys, fun c' j hj => ?_, h.fn, h.fd, fun j hj => ?_, fun j b k c' hb hk hc' => ?_, fun d hd j b k c' hb hk hc' => ?_⟩
  · rcases get_set hb with ⟨rfl, rfl⟩ | ⟨_, hb⟩
    · omega
    · exact h.le j b hb
  · obtain ⟨h1, h2, h3, b, h4, h5⟩ := h.hv c' j hj
    refine ⟨h1, h2, h3, b, ?_, h5⟩
    rw [List.getElem?_set_ne (by intro e; subst e; exact hnot c' hj)]; exact h4
  · rcases h.dn j hj with hm | hm | hm
    · exact .inl hm
    · exact .inr (.inl hm)
    · by_cases e : i = j
      · subst e; exact .inl (by simp)
      · right; right; rw [List.getElem?_set_ne e]; exact hm
  · rcases get_set hb with ⟨rfl, rfl⟩ | ⟨_, hb⟩
    · by_cases hka : k < a
      · exact h.rej _ _ k c' ha hka hc'
      · obtain rfl : k = a := by omega
        rw [hc] at hc'; cases hc'
        exact .inr hl
    · exact h.rej j b k c' hb hk hc'
  · rcases get_set hb with ⟨rfl, rfl⟩ | ⟨_, hb⟩
    · by_cases hka : k < a
      · exact h.opt d hd _ _ k c' ha hka hc'
      · obtain rfl : k = a := by omega
        rw [hc] at hc'; cases hc'
        right
        rcases hl with hl | ⟨j', hj, hbef⟩
        · exact fun hm => hl (hd.acc _ _ hm).1
        · obtain ⟨h1, h2, h3, b, h4, h5⟩ := h.hv c j' hj
          refine no_deal hF hd h1 h5 h3 (fun k' c'' hk' hc'' => ?_) hbef
          rcases h.opt d hd j' _ k' c'' h4 (by omega) hc'' with he | he
          · obtain ⟨_, _, _, b', h6, h7⟩ := h.hv c'' j' he
            rw [h4] at h6
            obtain rfl : b = b' := by simpa using h6
            have e1 := ixi_get (hF j' h1).2 h7
            have e2 := ixi_get (hF j' h1).2 hc''
            omega
          · exact he
    · exact h.opt d hd j b k c' hb hk hc'

/-- A car takes the one that asks. -/
theorem Inv.win (hF : ∀ i, i < n → PR (nm i) = F i ∧ (F i).Nodup) {i a : Nat} {c : Str} (h : Inv n F nm PC PR hs asked (f ++ [i])) (ha : asked[i]? = some a) (hc : (F i)[a]? = some c)
    (hm : nm i ∈ PC c) (hl : ∀ o, look c hs = some o → Bef (PC c) (nm i) (nm o)) : Inv n F nm PC PR (upd c i hs) (asked.set i (a + 1)) (f ++ (look c hs).toList) := by
  have hin : i < n := h.fn i (by simp)
  have hnot : ∀ c, look c hs ≠ some i := fun c hc => (h.hv c i hc).2.1 (by simp)
  have hlt := (List.getElem?_eq_some_iff.1 hc).1
  have hil : i < asked.length := (List.getElem?_eq_some_iff.1 ha).1
  have hfd := h.fd
  rw [List.nodup_append] at hfd
  have hif : i ∉ f := fun hm => hfd.2.2 i hm i (by simp) rfl
  -- what the new one has asked before gave it nobody
  have hopt : ∀ d, StableM PC PR d → ∀ k c', k < a → (F i)[k]? = some c' → (c', nm i) ∉ d := fun d hd k c' hk hc' => (h.opt d hd i a k c' ha hk hc').resolve_left (hnot c')
  refine ⟨by simp [h.la], fun j b hb => ?_, (upd_keys h.keys).1, fun c' j hj => ?_, fun j hj => ?_, ?_, fun j hj => ?_, fun j b k c' hb hk hc' => ?_, fun d hd j b k c' hb hk hc' => ?_⟩
  · rcases get_set hb with ⟨rfl, rfl⟩ | ⟨_, hb⟩
    · omega
    · exact h.le j b hb
  · rw [look_upd] at hj
    split at hj
    · rename_i e
      cases hj; subst e
      refine ⟨hin, ?_, hm, a, by rw [List.getElem?_set_self hil], hc⟩
      rw [List.mem_append]
      rintro (hx | hx)
      · exact hif hx
      · rw [Option.mem_toList] at hx; exact hnot _ hx
    · rename_i e
      obtain ⟨h1, h2, h3, b, h4, h5⟩ := h.hv c' j hj
      refine ⟨h1, ?_, h3, b, ?_, h5⟩
      · rw [List.mem_append]
        rintro (hx | hx)
        · exact h2 (by simp [hx])
        · rw [Option.mem_toList] at hx
          obtain ⟨_, _, _, b', h6, h7⟩ := h.hv c j hx
          rw [h4] at h6
          obtain rfl : b = b' := by simpa using h6
          rw [h5] at h7; cases h7; exact e rfl
      · rw [List.getElem?_set_ne (by intro e; subst e; exact hnot c' hj)]; exact h4
  · rw [List.mem_append, Option.mem_toList] at hj
    rcases hj with hj | hj
    · exact h.fn j (by simp [hj])
    · exact (h.hv c j hj).1
  · rw [List.nodup_append]
    refine ⟨hfd.1, by cases look c hs <;> simp, fun x hx y hy e => ?_⟩
    rw [Option.mem_toList] at hy
    subst e
    exact (h.hv c x hy).2.1 (by simp [hx])
  · rcases h.dn j hj with hx | ⟨c', hx⟩ | hx
    · rw [List.mem_append, List.mem_singleton] at hx
      rcases hx with hx | rfl
      · exact .inl (by simp [hx])
      · exact .inr (.inl ⟨c, by rw [look_upd, if_pos rfl]⟩)
    · by_cases e : c' = c
      · subst e; exact .inl (by rw [List.mem_append, Option.mem_toList]; exact .inr hx)
      · exact .inr (.inl ⟨c', by rw [look_upd, if_neg e]; exact hx⟩)
    · by_cases e : i = j
      · subst e; exact .inr (.inl ⟨c, by rw [look_upd, if_pos rfl]⟩)
      · right; right; rw [List.getElem?_set_ne e]; exact hx
  · rw [look_upd]
    rcases get_set hb with ⟨rfl, rfl⟩ | ⟨hne, hb⟩
    · by_cases hka : k < a
      · rcases h.rej _ _ k c' ha hka hc' with he | he | ⟨j', he, hbef⟩
        · exact (hnot c' he).elim
        · exact .inr (.inl he)
        · by_cases e : c' = c
          · subst e; rw [if_pos rfl]; exact .inl rfl
          · rw [if_neg e]; exact .inr (.inr ⟨j', he, hbef⟩)
      · obtain rfl : k = a := by omega
        rw [hc] at hc'; cases hc'
        rw [if_pos rfl]; exact .inl rfl
    · rcases h.rej j b k c' hb hk hc' with he | he | ⟨j', he, hbef⟩
      · by_cases e : c' = c
        · subst e; rw [if_pos rfl]; exact .inr (.inr ⟨i, rfl, hl j he⟩)
        · rw [if_neg e]; exact .inl he
      · exact .inr (.inl he)
      · by_cases e : c' = c
        · subst e; rw [if_pos rfl]; exact .inr (.inr ⟨i, rfl, (hl j' he).trans hbef⟩)
        · rw [if_neg e]; exact .inr (.inr ⟨j', he, hbef⟩)
  · rw [look_upd]
    rcases get_set hb with ⟨rfl, rfl⟩ | ⟨hne, hb⟩
    · by_cases hka : k < a
      · exact .inr (hopt d hd k c' hka hc')
      · obtain rfl : k = a := by omega
        rw [hc] at hc'; cases hc'
        rw [if_pos rfl]; exact .inl rfl
    · rcases h.opt d hd j b k c' hb hk hc' with he | he
      · by_cases e : c' = c
        · subst e
          exact .inr (no_deal hF hd hin hc hm (hopt d hd) (hl j he))
        · rw [if_neg e]; exact .inl he
      · exact .inr he

theorem look_of_mem {α : Type} {s : Str} {x : α} : ∀ {t : Tab α}, t.Pairwise (fun p q => p.1 ≠ q.1) → (s, x) ∈ t → look s t = some x
  | (u, v) :: t, hp, hm => by
    rw [List.pairwise_cons] at hp
    simp only [look]
    rcases List.mem_cons.1 hm with he | hm
    · cases he; rw [if_pos rfl]
    · rw [if_neg (fun e => hp.1 _ hm e.symm)]; exact look_of_mem hp.2 hm

theorem mem_of_look {α : Type} {s : Str} {x : α} : ∀ {t : Tab α}, look s t = some x → (s, x) ∈ t
  | (u, v) :: t, h => by
    simp only [look] at h
    split at h
    · rename_i e; cases h; simp [e]
    · exact List.mem_cons_of_mem _ (mem_of_look h)

/-- What comes out. -/
def dealsOf (nm : Nat → Str) (hs : Tab Nat) : List (Str × Str) := hs.map fun p => (p.1, nm p.2)

theorem mem_dealsOf (h : Inv n F nm PC PR hs asked []) {c r : Str} : (c, r) ∈ dealsOf nm hs ↔ ∃ i, look c hs = some i ∧ nm i = r := by
  unfold dealsOf
  rw [List.mem_map]
  constructor
  · rintro ⟨⟨c', i⟩, hm, he⟩; cases he; exact ⟨i, look_of_mem h.keys hm, rfl⟩
  · rintro ⟨i, hl, rfl⟩; exact ⟨(c, i), mem_of_look hl, rfl⟩

theorem Inv.stable (hF : ∀ i, i < n → PR (nm i) = F i ∧ (F i).Nodup) (hnm : ∀ i j, i < n → j < n → nm i = nm j → i = j) (hPR : ∀ r c, c ∈ PR r → ∃ i, i < n ∧ nm i = r) (h : Inv n F nm PC PR hs asked []) : StableM PC PR (dealsOf nm hs) := by
  have uniq : ∀ c c' i, look c hs = some i → look c' hs = some i → c = c' := by
    intro c c' i h1 h2
    obtain ⟨_, _, _, a, h3, h4⟩ := h.hv c i h1
    obtain ⟨_, _, _, b, h5, h6⟩ := h.hv c' i h2
    rw [h3] at h5
    obtain rfl : a = b := by simpa using h5
    rw [h4] at h6; cases h6; rfl
  refine ⟨⟨fun c r hm => ?_, fun c r r' h1 h2 => ?_, fun c c' r h1 h2 => ?_⟩, fun c r hr hc => ?_⟩
  · obtain ⟨i, hl, rfl⟩ := (mem_dealsOf h).1 hm
    obtain ⟨h1, _, h3, a, _, h5⟩ := h.hv c i hl
    exact ⟨h3, by rw [(hF i h1).1]; exact List.mem_of_getElem? h5⟩
  · obtain ⟨i, hl, rfl⟩ := (mem_dealsOf h).1 h1
    obtain ⟨j, hl', rfl⟩ := (mem_dealsOf h).1 h2
    rw [hl] at hl'; cases hl'; rfl
  · obtain ⟨i, hl, hi⟩ := (mem_dealsOf h).1 h1
    obtain ⟨j, hl', hj⟩ := (mem_dealsOf h).1 h2
    have := hnm i j (h.hv _ _ hl).1 (h.hv _ _ hl').1 (hi.trans hj.symm)
    subst this
    exact uniq c c' i hl hl'
  · obtain ⟨i, hi, rfl⟩ := hPR r c hc
    rw [(hF i hi).1] at hc
    obtain ⟨k, hk1, hk2⟩ := get_ixi hc
    have hai : i < asked.length := by rw [h.la]; exact hi
    have hk := (List.getElem?_eq_some_iff.1 hk2).1
    -- asked before, or somebody better is had
    have hcase : k < asked[i] ∨ ∃ c', look c' hs = some i ∧ Bef (F i) c' c := by
      rcases h.dn i hi with hx | ⟨c', hx⟩ | hx
      · cases hx
      · obtain ⟨_, _, _, a, h4, h5⟩ := h.hv c' i hx
        rw [List.getElem?_eq_getElem hai] at h4
        have h4 : asked[i] = a + 1 := by simpa using h4
        by_cases hka : k < a + 1
        · exact .inl (by omega)
        · refine .inr ⟨c', hx, List.mem_of_getElem? h5, hc, ?_⟩
          have := ixi_get (hF i hi).2 h5
          omega
      · rw [List.getElem?_eq_getElem hai] at hx
        have hx : asked[i] = (F i).length := by simpa using hx
        exact .inl (by omega)
    rcases hcase with hka | ⟨c', hx, hb⟩
    · rcases h.rej i _ k c (List.getElem?_eq_getElem hai) hka hk2 with he | he | ⟨j, he, hbef⟩
      · exact .inl ((mem_dealsOf h).2 ⟨i, he, rfl⟩)
      · exact (he hr).elim
      · exact .inr (.inl ⟨nm j, (mem_dealsOf h).2 ⟨j, he, rfl⟩, hbef⟩)
    · refine .inr (.inr ⟨c', (mem_dealsOf h).2 ⟨i, hx, rfl⟩, ?_⟩)
      rw [(hF i hi).1]; exact hb

/-- Whoever has a car in some stable matching has one here; and at least as good a one. -/
theorem Inv.best (hF : ∀ i, i < n → PR (nm i) = F i ∧ (F i).Nodup) (hPR : ∀ r c, c ∈ PR r → ∃ i, i < n ∧ nm i = r) (h : Inv n F nm PC PR hs asked []) {d : List (Str × Str)} (hd : StableM PC PR d) {c r : Str} (hm : (c, r) ∈ d) :
    ∃ c', (c', r) ∈ dealsOf nm hs ∧ (c' = c ∨ Bef (PR r) c' c) := by
  obtain ⟨_, hc⟩ := hd.acc _ _ hm
  obtain ⟨i, hi, rfl⟩ := hPR r c hc
  rw [(hF i hi).1] at hc ⊢
  obtain ⟨k, hk1, hk2⟩ := get_ixi hc
  have hai : i < asked.length := by rw [h.la]; exact hi
  have hk := (List.getElem?_eq_some_iff.1 hk2).1
  have hop := fun (hka : k < asked[i]) => (h.opt d hd i _ k c (List.getElem?_eq_getElem hai) hka hk2).resolve_right (fun hn => hn hm)
  rcases h.dn i hi with hx | ⟨c', hx⟩ | hx
  · cases hx
  · refine ⟨c', (mem_dealsOf h).2 ⟨i, hx, rfl⟩, ?_⟩
    obtain ⟨_, _, _, a, h4, h5⟩ := h.hv c' i hx
    have h4' := h4
    rw [List.getElem?_eq_getElem hai] at h4
    have h4 : asked[i] = a + 1 := by simpa using h4
    have hia := ixi_get (hF i hi).2 h5
    by_cases hka : k < a + 1
    · left
      have he := hop (by omega)
      obtain ⟨_, _, _, b, h6, h7⟩ := h.hv c i he
      rw [h4'] at h6
      obtain rfl : a = b := by simpa using h6
      rw [h5] at h7; cases h7; rfl
    · right
      exact ⟨List.mem_of_getElem? h5, hc, by omega⟩
  · rw [List.getElem?_eq_getElem hai] at hx
    have hx : asked[i] = (F i).length := by simpa using hx
    exact ⟨c, (mem_dealsOf h).2 ⟨i, hop (by omega), rfl⟩, .inl rfl⟩
end

/-- Cars that have somebody in the best matching of the rides have somebody in all. -/
theorem cars_have {PC PR : Pref} {m d : List (Str × Str)} (hm : StableM PC PR m) (hd : StableM PC PR d) (hb : ∀ c r, (c, r) ∈ d → ∃ c', (c', r) ∈ m ∧ (c' = c ∨ Bef (PR r) c' c)) {c r : Str} (h : (c, r) ∈ m) : ∃ r', (c, r') ∈ d := by
  obtain ⟨h1, h2⟩ := hm.acc _ _ h
  rcases hd.st c r h1 h2 with hx | ⟨r', hx, _⟩ | ⟨c', hx, hbef⟩
  · exact ⟨r, hx⟩
  · exact ⟨r', hx⟩
  · obtain ⟨c'', h3, h4⟩ := hb c' r hx
    have := hm.ir _ _ _ h3 h
    subst this
    rcases h4 with rfl | h4
    · exact (hbef.irrefl).elim
    · exact (h4.asymm hbef).elim
end Y
end Go.Proofs.YtkaigfcjejabfaaGreatDoor
