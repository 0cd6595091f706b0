/- Slices that a run owns: appending, reading, writing; what stays. No condition. -/
import Derived.Test.YtkaigfcjejabfaaGreatDoorYE
set_option linter.unusedSimpArgs false
set_option linter.unusedVariables false
namespace Go.Proofs.YtkaigfcjejabfaaGreatDoor
open Go
namespace Y
open X

/-- A slice in the heap whose elements are these; its block may be longer. -/
def Own (H : Heap) (sz : Nat) (v : AV) (l : List AV) : Prop :=
  (v = .nilslice ∧ l = []) ∨ ∃ b es, v = .slice b 0 l.length ∧ H[b]? = some (.arr sz es) ∧ es.take l.length = l ∧ l.length ≤ es.length

/-- All blocks but that of a slice stay, and are no blocks of what it has become. -/
structure Keeps (H H' : Heap) (v v' : AV) : Prop where
  len : H.length ≤ H'.length
  old : ∀ c k, H[c]? = some k → v.blockOf ≠ some c → H'[c]? = some k ∧ v'.blockOf ≠ some c

theorem Own.nil (H : Heap) (sz : Nat) : Own H sz .nilslice [] := .inl ⟨rfl, rfl⟩

theorem Own.len {H : Heap} {sz : Nat} {v : AV} {l : List AV} (h : Own H sz v l) : lenX H .slice v = some (.int .i64 l.length) := by
  rcases h with ⟨rfl, rfl⟩ | ⟨b, es, rfl, _⟩
  · exact len_nil _
  · exact len_slice _ _ _ _

theorem Own.frame {H H' : Heap} {sz : Nat} {v u u' : AV} {l : List AV} (h : Own H sz v l) (k : Keeps H H' u u') (ha : ∀ c, v.blockOf = some c → u.blockOf ≠ some c) : Own H' sz v l := by
  rcases h with ⟨rfl, rfl⟩ | ⟨b, es, rfl, hb, h1, h2⟩
  · exact .nil _ _
  · exact .inr ⟨b, es, rfl, (k.old b _ hb (ha b rfl)).1, h1, h2⟩

theorem append_own {H : Heap} {sz bytes : Nat} {v y : AV} {l xs : List AV} (h : Own H sz v l) (hy : elems H y = some xs) (hx : allSz sz xs = true) (h0 : xs.length = 1) (hb : 0 < bytes) (hn : (l.length + xs.length) * bytes ≤ 140737488355328) :
    ∃ v' H', appendX H sz bytes v y = some (v', H') ∧ Own H' sz v' (l ++ xs) ∧ Keeps H H' v v' := by
  unfold appendX
  rw [hy]
  rcases h with ⟨rfl, rfl⟩ | ⟨b, es, rfl, hbk, h1, h2⟩
  · refine ⟨.slice H.length 0 xs.length, H ++ [.arr sz xs], ?_, ?_, ?_⟩
    · simp only [obind, appendAV, hx, Bool.not_true, Bool.false_eq_true, if_false]
      rw [if_neg (by omega), if_pos ⟨by simpa using hn, hb⟩]
    · exact .inr ⟨H.length, xs, by simp, app_get0 _ _ _, by simp, by simp⟩
    · refine ⟨by simp, fun c k hc _ => ⟨app_old _ hc, ?_⟩⟩
      have := (List.getElem?_eq_some_iff.1 hc).1
      simp [AV.blockOf]; omega
  · have hlt := (List.getElem?_eq_some_iff.1 hbk).1
    by_cases he : l.length = es.length
    · refine ⟨.slice H.length 0 (l.length + xs.length), H.set b .dead ++ [.arr sz (es.drop 0 ++ xs)], ?_, ?_, ?_⟩
      · simp only [obind, appendAV, hx, Bool.not_true, Bool.false_eq_true, if_false, hbk, ne_eq, not_true_eq_false]
        rw [if_neg (by omega), if_pos (by omega), if_pos ⟨hn, hb⟩]
      · refine .inr ⟨H.length, es ++ xs, by simp, ?_, ?_, by simp; omega⟩
        · have := app_get0 (H.set b .dead) (.arr sz (es.drop 0 ++ xs)) []
          simp at this ⊢
        · have hes : es = l := by rw [← h1, he, List.take_length]
          rw [hes]; simp [List.take_of_length_le]
      · refine ⟨by simp, fun c k hc hne => ⟨app_old _ (set_other _ (fun e => hne (by simp [AV.blockOf, e])) hc), ?_⟩⟩
        have := (List.getElem?_eq_some_iff.1 hc).1
        simp [AV.blockOf]; omega
    · have hf : l.length + xs.length ≤ es.length := by omega
      refine ⟨.slice b 0 (l.length + xs.length), H.set b (.arr sz (es.take l.length ++ xs ++ es.drop (l.length + xs.length))), ?_, ?_, ?_⟩
      · simp only [obind, appendAV, hx, Bool.not_true, Bool.false_eq_true, if_false, hbk, ne_eq, not_true_eq_false, Nat.zero_add]
        rw [if_neg (by omega), if_neg (by omega), if_pos hf]
      · refine .inr ⟨b, _, by simp, set_same _ hbk, ?_, ?_⟩
        · rw [h1, List.length_append, List.take_append_of_le_length (by simp), List.take_of_length_le (by simp)]
        · simp; omega
      · exact ⟨by simp, fun c k hc hne => ⟨set_other _ (fun e => hne (by simp [AV.blockOf, e])) hc, hne⟩⟩

theorem Own.block {H : Heap} {sz : Nat} {v : AV} {l : List AV} (h : Own H sz v l) {c : Nat} (hc : v.blockOf = some c) : c < H.length := by
  rcases h with ⟨rfl, rfl⟩ | ⟨b, es, rfl, hb, h1, h2⟩
  · cases hc
  · cases hc; exact (List.getElem?_eq_some_iff.1 hb).1

/-- The last element is left out. -/
theorem Own.take {H : Heap} {sz : Nat} {v : AV} {l : List AV} (h : Own H sz v l) {n : Nat} (hn : n ≤ l.length) : ∃ v', sliceSlAV H sz v none (some (.int .i64 (n : Int))) = some v' ∧ Own H sz v' (l.take n) ∧ ∀ c, v'.blockOf = some c → v.blockOf = some c := by
  rcases h with ⟨rfl, rfl⟩ | ⟨b, es, rfl, hb, h1, h2⟩
  · have : n = 0 := by simpa using hn
    subst this
    exact ⟨.nilslice, by simp [sliceSlAV, optV, AV.asNat, natArg, sliceAV], .nil _ _, by simp⟩
  · refine ⟨.slice b 0 n, slice_sl_to hb (by omega), .inr ⟨b, es, by simp [Nat.min_eq_left hn], hb, ?_, ?_⟩, fun c hc => hc⟩
    · rw [List.length_take, Nat.min_eq_left hn, ← h1, List.take_take, Nat.min_eq_left hn]
    · rw [List.length_take]; omega

/-- Where an element lies. -/
theorem Own.at {H : Heap} {sz : Nat} {v : AV} {l : List AV} (h : Own H sz v l) {n : Nat} (hn : n < l.length) : ∃ b es, indexV H sz v (.int .i64 (n : Int)) = some (.ptr b n 0) ∧ H[b]? = some (.arr sz es) ∧ es[n]? = some l[n] ∧ v = .slice b 0 l.length ∧ es.take l.length = l ∧ l.length ≤ es.length := by
  rcases h with ⟨rfl, rfl⟩ | ⟨b, es, rfl, hb, h1, h2⟩
  · simp at hn
  · refine ⟨b, es, ?_, hb, ?_, rfl, h1, h2⟩
    · rw [index_slice hb hn, Nat.zero_add]
    · have : (es.take l.length)[n]? = some l[n] := by rw [h1, List.getElem?_eq_getElem hn]
      rwa [List.getElem?_take_of_lt hn] at this

/-- An element is read: one that stands in one cell. -/
theorem Own.load1 {H : Heap} {v : AV} {l : List AV} (h : Own H 1 v l) {n : Nat} (hn : n < l.length) (hc : l[n].cells = [l[n]]) : ∃ p, indexV H 1 v (.int .i64 (n : Int)) = some p ∧ loadAV H none p = some l[n] := by
  obtain ⟨b, es, h1, h2, h3, _⟩ := h.at hn
  exact ⟨_, h1, load_ptr h2 h3 (by rw [hc]; rfl)⟩

/-- An element is read: one of several cells. -/
theorem Own.loads {H : Heap} {sz : Nat} {v : AV} {l : List AV} (h : Own H sz v l) {n : Nat} (hn : n < l.length) {cs : List AV} (he : l[n] = .agg cs) (hl : cs.length = sz) : ∃ p, indexV H sz v (.int .i64 (n : Int)) = some p ∧ loadAV H (some sz) p = some l[n] := by
  obtain ⟨b, es, h1, h2, h3, _⟩ := h.at hn
  refine ⟨_, h1, load_ptr h2 h3 ?_⟩
  rw [he]; simp [AV.cells, pickAV, ← hl]

/-- An element is written. -/
theorem Own.store {H : Heap} {sz : Nat} {v x : AV} {l : List AV} (h : Own H sz v l) {n : Nat} (hn : n < l.length) (h1 : x.cells.length = sz) (h2 : x.cells.all AV.storable = true) (h3 : l[n].cells.length = sz)
    (hs : l[n].setCells 0 x.cells = x) : ∃ p H', indexV H sz v (.int .i64 (n : Int)) = some p ∧ storeAV H sz p x = some H' ∧ Own H' sz v (l.set n x) ∧ Keeps H H' v v ∧ H'.length = H.length := by
  obtain ⟨b, es, g1, g2, g3, rfl, g5, g6⟩ := h.at hn
  refine ⟨_, _, g1, store_ptr g2 g3 h1 h2 (by rw [h3]; omega) h3, ?_, ?_, by simp⟩
  · refine .inr ⟨b, es.set n x, by simp, by rw [hs]; exact set_same _ g2, ?_, by simp; omega⟩
    rw [List.length_set, List.take_set, g5]
  · exact ⟨by simp, fun c k hc hne => ⟨set_other _ (fun e => hne (by simp [AV.blockOf, e])) hc, hne⟩⟩

theorem Keeps.trans {H H' H'' : Heap} {u v w : AV} (h : Keeps H H' u v) (h' : Keeps H' H'' v w) : Keeps H H'' u w :=
  ⟨Nat.le_trans h.len h'.len, fun c k hc hne => h'.old c k (h.old c k hc hne).1 (h.old c k hc hne).2⟩
theorem Keeps.refl (H : Heap) (u : AV) : Keeps H H u u := ⟨Nat.le_refl _, fun _ _ h h' => ⟨h, h'⟩⟩

theorem Own.snapK {H : Heap} {sz k : Nat} {v : AV} {l l' : List AV} (h : Own H sz v l) (hs : l.mapM (X.snap H k) = some l') : X.snap H (k + 1) v = some (.vslice l') := by
  rcases h with ⟨rfl, rfl⟩ | ⟨b, es, rfl, hb, h1, h2⟩
  · simp at hs; subst hs; rfl
  · rw [X.snap]
    simp only [hb, List.drop_zero, h1, Nat.zero_add, h2, if_true, hs]
    rfl
theorem Own.cells {H : Heap} {sz : Nat} {v : AV} {l : List AV} (h : Own H sz v l) : v.cells = [v] ∧ v.storable = true := by
  rcases h with ⟨rfl, rfl⟩ | ⟨b, es, rfl, hb, h1, h2⟩ <;> exact ⟨rfl, rfl⟩
theorem Own.aboveK {H : Heap} {sz k n : Nat} {v : AV} {l : List AV} (h : Own H sz v l) (hl : ∀ c, v.blockOf = some c → n ≤ c) (hs : l.all (X.above H n k) = true) : X.above H n (k + 1) v = true := by
  rcases h with ⟨rfl, rfl⟩ | ⟨b, es, rfl, hb, h1, h2⟩
  · rfl
  · rw [X.above]
    simp only [hb, List.drop_zero, h1, hs, Bool.and_true]
    exact Nat.ble_eq_true_of_le (hl b rfl)

/-- An own slice, written out. -/
theorem Own.snap {H : Heap} {sz : Nat} {v : AV} {l l' : List AV} (h : Own H sz v l) (hs : l.mapM (snap H 11) = some l') : snap H deep v = some (.vslice l') := by
  rcases h with ⟨rfl, rfl⟩ | ⟨b, es, rfl, hb, h1, h2⟩
  · simp at hs; subst hs; rfl
  · unfold deep
    rw [X.snap]
    simp only [hb, List.drop_zero, h1, Nat.zero_add, h2, if_true, hs]
    rfl
end Y
end Go.Proofs.YtkaigfcjejabfaaGreatDoor
