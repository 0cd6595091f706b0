/- What CheckWishes and wishes compute. No condition. -/
import Derived.Test.YtkaigfcjejabfaaGreatDoorYG
set_option linter.unusedSimpArgs false
set_option linter.unusedVariables false
namespace Go.Proofs.YtkaigfcjejabfaaGreatDoor
open Go
namespace Y
open X

structure W where
  who : Str
  fr : List Str

def encW (w : W) : AV := .agg [.str w.who, encL w.fr]
def encWs (l : List W) : AV := .vslice (l.map encW)

/-- A name that package base takes for a key. -/
def KeyOk (s : Str) : Prop := ∃ H', R prog f_base_Key [.str s] [] = some (.bool true, H')

theorem KeyOk.call {s : Str} (h : KeyOk s) (H : Heap) : pureCall prog (R prog) f_base_Key [.str s] H = some (.bool true) := by
  obtain ⟨H', h⟩ := h
  exact pure_fz (by simp [fz_str]) rfl ⟨_, _, h, rfl⟩

structure OkW (l : List W) : Prop where
  len : l.length ≤ 200
  key : ∀ w ∈ l, KeyOk w.who
  ord : l.Pairwise fun a b => lt a.who b.who = true
  few : ∀ w ∈ l, w.fr.length ≤ 100
  fkey : ∀ w ∈ l, ∀ s ∈ w.fr, KeyOk s
  nd : ∀ w ∈ l, w.fr.Nodup

theorem index_W {H : Heap} {l : List W} {k : IntKind} {n : Nat} (h : n < l.length) : indexV H 2 (encWs l) (.int k (n : Int)) = some (.vptr [.str l[n].who, encL l[n].fr]) := by
  have he : (l.map encW)[n]? = some (encW l[n]) := by rw [List.getElem?_map, List.getElem?_eq_getElem h]; rfl
  rw [encWs, index_vslice (sz := 2) he rfl]
  rfl

theorem index_S {H : Heap} {l : List Str} {k : IntKind} {n : Nat} (h : n < l.length) : indexV H 1 (encL l) (.int k (n : Int)) = some (.vptr [.str l[n]]) := by
  have he : (l.map AV.str)[n]? = some (.str l[n]) := by rw [List.getElem?_map, List.getElem?_eq_getElem h]; rfl
  rw [encL, index_vslice (sz := 1) he rfl]
  rfl

theorem len_L (H : Heap) (l : List Str) : lenX H .slice (encL l) = some (I l.length) := by simp [encL, len_vslice]
theorem len_Ws (H : Heap) (l : List W) : lenX H .slice (encWs l) = some (I l.length) := by simp [encWs, len_vslice]

theorem checkIn {w : W} (hk : ∀ s ∈ w.fr, KeyOk s) (hn : w.fr.Nodup) (hl : w.fr.length ≤ 100) {v0 v10 v11 v12 : AV} {b : Nat} {k3 : AV → AV → AV → AV → Heap → Option (AV × Heap)} {Q : AV → Heap → Prop} {H : Heap}
    (hb : H[b]? = some (.arr 2 [encW w])) (hq : Yl (k3 v0 v10 v11 v12 H) Q) (m : Nat) : ∀ (n : Nat), m + n = w.fr.length → Yl (l_match_CheckWishes_0 v0 (.ptr b 0 0) v10 v11 v12 (encL w.fr) (I w.fr.length) (I n) H k3) Q := by
  induction m with
  | zero =>
    intro n hm
    refine l_match_CheckWishes_0_s _ _ _ _ _ _ _ _ _ _ ?_
    simp only [obind, condK_bool, gB_bool, bin_lss, bin_leq, bin_gtr, bin_geq, bin_eql, bin_neq, str_eql, str_neq, un_not, ext0, ext1, ext2, nilc_ptr, nilc_vptr, fa_ptr, fa_vptr0, load_vptr, len_vslice, len_slice, len_nil, len_str, decide_eq_true_eq, Bool.false_eq_true, if_true, if_false, Bool.not_true, Bool.not_false, Bool.not_eq_true, Bool.not_eq_true', decide_eq_false_iff_not, Bool.true_eq_false, eq_self, Nat.zero_add, Nat.add_zero, load_box, get0, get1, get2, get3, yl_some]
    rw [if_neg (by omega)]
    exact hq
  | succ m ih =>
    intro n hm
    refine l_match_CheckWishes_0_s _ _ _ _ _ _ _ _ _ _ ?_
    have hn' : n < w.fr.length := by omega
    have l1 : loadAV H none (.ptr b 0 1) = some (encL w.fr) := load_ptr hb rfl rfl
    simp only [obind, condK_bool, gB_bool, bin_lss, bin_leq, bin_gtr, bin_geq, bin_eql, bin_neq, str_eql, str_neq, un_not, ext0, ext1, ext2, nilc_ptr, nilc_vptr, fa_ptr, fa_vptr0, load_vptr, len_vslice, len_slice, len_nil, len_str, decide_eq_true_eq, Bool.false_eq_true, if_true, if_false, Bool.not_true, Bool.not_false, Bool.not_eq_true, Bool.not_eq_true', decide_eq_false_iff_not, Bool.true_eq_false, eq_self, Nat.zero_add, Nat.add_zero, load_box, get0, get1, get2, get3, yl_some]
    rw [if_pos (by omega), index_S hn']
    simp only [obind, condK_bool, gB_bool, bin_lss, bin_leq, bin_gtr, bin_geq, bin_eql, bin_neq, str_eql, str_neq, un_not, ext0, ext1, ext2, nilc_ptr, nilc_vptr, fa_ptr, fa_vptr0, load_vptr, len_vslice, len_slice, len_nil, len_str, decide_eq_true_eq, Bool.false_eq_true, if_true, if_false, Bool.not_true, Bool.not_false, Bool.not_eq_true, Bool.not_eq_true', decide_eq_false_iff_not, Bool.true_eq_false, eq_self, Nat.zero_add, Nat.add_zero, load_box, get0, get1, get2, get3, yl_some, (hk _ (List.getElem_mem hn')).call, l1]
    rw [encL, slice_vs_to (by simp; omega), ← List.map_take]
    simp only [obind, condK_bool, gB_bool, bin_lss, bin_leq, bin_gtr, bin_geq, bin_eql, bin_neq, str_eql, str_neq, un_not, ext0, ext1, ext2, nilc_ptr, nilc_vptr, fa_ptr, fa_vptr0, load_vptr, len_vslice, len_slice, len_nil, len_str, decide_eq_true_eq, Bool.false_eq_true, if_true, if_false, Bool.not_true, Bool.not_false, Bool.not_eq_true, Bool.not_eq_true', decide_eq_false_iff_not, Bool.true_eq_false, eq_self, Nat.zero_add, Nat.add_zero, load_box, get0, get1, get2, get3, yl_some]
    rw [contains_ok (l := w.fr.take n) (by simp; omega) _ rfl rfl]
    have hnot : w.fr[n] ∉ w.fr.take n := by
      intro hmem
      rw [List.mem_take_iff_getElem] at hmem
      obtain ⟨i, hi, he⟩ := hmem
      exact List.pairwise_iff_getElem.1 hn i n (by omega) hn' (by omega) he
    simp only [obind, condK_bool, gB_bool, bin_lss, bin_leq, bin_gtr, bin_geq, bin_eql, bin_neq, str_eql, str_neq, un_not, ext0, ext1, ext2, nilc_ptr, nilc_vptr, fa_ptr, fa_vptr0, load_vptr, len_vslice, len_slice, len_nil, len_str, decide_eq_true_eq, Bool.false_eq_true, if_true, if_false, Bool.not_true, Bool.not_false, Bool.not_eq_true, Bool.not_eq_true', decide_eq_false_iff_not, Bool.true_eq_false, eq_self, Nat.zero_add, Nat.add_zero, load_box, get0, get1, get2, get3, yl_some, hnot, decide_false]
    rw [succ64 _ _ (by omega)]
    simp only [obind, condK_bool, gB_bool, bin_lss, bin_leq, bin_gtr, bin_geq, bin_eql, bin_neq, str_eql, str_neq, un_not, ext0, ext1, ext2, nilc_ptr, nilc_vptr, fa_ptr, fa_vptr0, load_vptr, len_vslice, len_slice, len_nil, len_str, decide_eq_true_eq, Bool.false_eq_true, if_true, if_false, Bool.not_true, Bool.not_false, Bool.not_eq_true, Bool.not_eq_true', decide_eq_false_iff_not, Bool.true_eq_false, eq_self, Nat.zero_add, Nat.add_zero, load_box, get0, get1, get2, get3, yl_some]
    exact ih (n + 1) (by omega)

theorem checkOut {l : List W} (h : OkW l) {k0 : Heap → Option (AV × Heap)} {Q : AV → Heap → Prop} (hq : ∀ H, Yl (k0 H) Q) (m : Nat) : ∀ (n : Nat) (H : Heap), m + n = l.length →
    Yl (l_match_CheckWishes_1 (encWs l) (encWs l) (I l.length) (I n) H k0) Q := by
  have hlen := h.len
  induction m with
  | zero =>
    intro n H hm
    refine l_match_CheckWishes_1_s _ _ _ _ _ _ ?_
    simp only [obind, condK_bool, gB_bool, bin_lss, bin_leq, bin_gtr, bin_geq, bin_eql, bin_neq, str_eql, str_neq, un_not, ext0, ext1, ext2, nilc_ptr, nilc_vptr, fa_ptr, fa_vptr0, load_vptr, len_vslice, len_slice, len_nil, len_str, decide_eq_true_eq, Bool.false_eq_true, if_true, if_false, Bool.not_true, Bool.not_false, Bool.not_eq_true, Bool.not_eq_true', decide_eq_false_iff_not, Bool.true_eq_false, eq_self, Nat.zero_add, Nat.add_zero, load_box, get0, get1, get2, get3, yl_some]
    rw [if_neg (by omega)]
    exact hq _
  | succ m ih =>
    intro n H hm
    refine l_match_CheckWishes_1_s _ _ _ _ _ _ ?_
    have hn : n < l.length := by omega
    have hm' := List.getElem_mem hn
    simp only [obind, condK_bool, gB_bool, bin_lss, bin_leq, bin_gtr, bin_geq, bin_eql, bin_neq, str_eql, str_neq, un_not, ext0, ext1, ext2, nilc_ptr, nilc_vptr, fa_ptr, fa_vptr0, load_vptr, len_vslice, len_slice, len_nil, len_str, decide_eq_true_eq, Bool.false_eq_true, if_true, if_false, Bool.not_true, Bool.not_false, Bool.not_eq_true, Bool.not_eq_true', decide_eq_false_iff_not, Bool.true_eq_false, eq_self, Nat.zero_add, Nat.add_zero, load_box, get0, get1, get2, get3, yl_some]
    rw [if_pos (by omega), index_W hn]
    simp only [obind, condK_bool, gB_bool, bin_lss, bin_leq, bin_gtr, bin_geq, bin_eql, bin_neq, str_eql, str_neq, un_not, ext0, ext1, ext2, nilc_ptr, nilc_vptr, fa_ptr, fa_vptr0, load_vptr, len_vslice, len_slice, len_nil, len_str, decide_eq_true_eq, Bool.false_eq_true, if_true, if_false, Bool.not_true, Bool.not_false, Bool.not_eq_true, Bool.not_eq_true', decide_eq_false_iff_not, Bool.true_eq_false, eq_self, Nat.zero_add, Nat.add_zero, load_box, get0, get1, get2, get3, yl_some]
    rw [load_vptrs (n := 2) _ (by simp)]
    simp only [obind, condK_bool, gB_bool, bin_lss, bin_leq, bin_gtr, bin_geq, bin_eql, bin_neq, str_eql, str_neq, un_not, ext0, ext1, ext2, nilc_ptr, nilc_vptr, fa_ptr, fa_vptr0, load_vptr, len_vslice, len_slice, len_nil, len_str, decide_eq_true_eq, Bool.false_eq_true, if_true, if_false, Bool.not_true, Bool.not_false, Bool.not_eq_true, Bool.not_eq_true', decide_eq_false_iff_not, Bool.true_eq_false, eq_self, Nat.zero_add, Nat.add_zero, load_box, get0, get1, get2, get3, yl_some, List.take]
    rw [box_ok (by rfl) (by rfl)]
    simp only [obind, condK_bool, gB_bool, bin_lss, bin_leq, bin_gtr, bin_geq, bin_eql, bin_neq, str_eql, str_neq, un_not, ext0, ext1, ext2, nilc_ptr, nilc_vptr, fa_ptr, fa_vptr0, load_vptr, len_vslice, len_slice, len_nil, len_str, decide_eq_true_eq, Bool.false_eq_true, if_true, if_false, Bool.not_true, Bool.not_false, Bool.not_eq_true, Bool.not_eq_true', decide_eq_false_iff_not, Bool.true_eq_false, eq_self, Nat.zero_add, Nat.add_zero, load_box, get0, get1, get2, get3, yl_some]
    rw [store_box (sz := 2) (by rfl) (by rfl) (by rfl)]
    simp only [obind, condK_bool, gB_bool, bin_lss, bin_leq, bin_gtr, bin_geq, bin_eql, bin_neq, str_eql, str_neq, un_not, ext0, ext1, ext2, nilc_ptr, nilc_vptr, fa_ptr, fa_vptr0, load_vptr, len_vslice, len_slice, len_nil, len_str, decide_eq_true_eq, Bool.false_eq_true, if_true, if_false, Bool.not_true, Bool.not_false, Bool.not_eq_true, Bool.not_eq_true', decide_eq_false_iff_not, Bool.true_eq_false, eq_self, Nat.zero_add, Nat.add_zero, load_box, get0, get1, get2, get3, yl_some, (h.key _ hm').call]
    have hin : ∀ H', H'[H.length]? = some (.arr 2 [encW l[n]]) → ∀ v0 v10 v11 k3, (∀ H'', Yl (k3 v0 v10 v11 (I n) H'') Q) → Yl (l_match_CheckWishes_0 v0 (.ptr H.length 0 0) v10 v11 (I n) (encL l[n].fr) (I l[n].fr.length) (I (0 : Nat)) H' k3) Q := fun H' hb v0 v10 v11 k3 hk =>
      checkIn (h.fkey _ hm') (h.nd _ hm') (h.few _ hm') hb (hk _) l[n].fr.length 0 (by omega)
    have hnext : ∀ H'', Yl ((binAV H'' .add (.one .int) (I n) (I 1)).bind fun v59 => l_match_CheckWishes_1 (encWs l) (encWs l) (I l.length) v59 H'' k0) Q := by
      intro H''
      rw [succ64 _ _ (by omega)]
      exact ih (n + 1) H'' (by omega)
    have hfew := h.few _ hm'
    by_cases h0 : n = 0
    · subst h0
      rw [if_neg (by omega)]
      simp only [obind, condK_bool, gB_bool, bin_lss, bin_leq, bin_gtr, bin_geq, bin_eql, bin_neq, str_eql, str_neq, un_not, ext0, ext1, ext2, nilc_ptr, nilc_vptr, fa_ptr, fa_vptr0, load_vptr, len_vslice, len_slice, len_nil, len_str, decide_eq_true_eq, Bool.false_eq_true, if_true, if_false, Bool.not_true, Bool.not_false, Bool.not_eq_true, Bool.not_eq_true', decide_eq_false_iff_not, Bool.true_eq_false, eq_self, Nat.zero_add, Nat.add_zero, load_box, get0, get1, get2, get3, yl_some, len_L]
      rw [if_neg (by omega)]
      exact hin _ (app_get0 _ _ _) _ _ _ _ hnext
    · rw [if_pos (by omega), pred64 _ _ (by omega) (by omega)]
      simp only [obind, condK_bool, gB_bool, bin_lss, bin_leq, bin_gtr, bin_geq, bin_eql, bin_neq, str_eql, str_neq, un_not, ext0, ext1, ext2, nilc_ptr, nilc_vptr, fa_ptr, fa_vptr0, load_vptr, len_vslice, len_slice, len_nil, len_str, decide_eq_true_eq, Bool.false_eq_true, if_true, if_false, Bool.not_true, Bool.not_false, Bool.not_eq_true, Bool.not_eq_true', decide_eq_false_iff_not, Bool.true_eq_false, eq_self, Nat.zero_add, Nat.add_zero, load_box, get0, get1, get2, get3, yl_some, index_W (show n - 1 < l.length by omega), str_leq]
      have hlt : lt l[n - 1].who l[n].who = true := List.pairwise_iff_getElem.1 h.ord (n - 1) n (by omega) hn (by omega)
      have h1 : Op.bytesLess l[n].who l[n - 1].who = false := lt_asymm hlt
      have h2 : (l[n].who == l[n - 1].who) = false := by simpa using (lt_ne hlt).symm
      simp only [h1, h2, Bool.or_false, obind, condK_bool, gB_bool, bin_lss, bin_leq, bin_gtr, bin_geq, bin_eql, bin_neq, str_eql, str_neq, un_not, ext0, ext1, ext2, nilc_ptr, nilc_vptr, fa_ptr, fa_vptr0, load_vptr, len_vslice, len_slice, len_nil, len_str, decide_eq_true_eq, Bool.false_eq_true, if_true, if_false, Bool.not_true, Bool.not_false, Bool.not_eq_true, Bool.not_eq_true', decide_eq_false_iff_not, Bool.true_eq_false, eq_self, Nat.zero_add, Nat.add_zero, load_box, get0, get1, get2, get3, yl_some, len_L]
      rw [if_neg (by omega)]
      exact hin _ (app_get0 _ _ _) _ _ _ _ hnext

theorem check_ok {l : List W} (h : OkW l) (H : Heap) : pureCall prog (R prog) f_match_CheckWishes [encWs l] H = some (I 0) := by
  refine pure_fz (by simp [encWs, fz_vslice]) rfl (r_match_CheckWishes _ _ ?_)
  have := h.len
  simp only [obind, condK_bool, gB_bool, bin_lss, bin_leq, bin_gtr, bin_geq, bin_eql, bin_neq, str_eql, str_neq, un_not, ext0, ext1, ext2, nilc_ptr, nilc_vptr, fa_ptr, fa_vptr0, load_vptr, len_vslice, len_slice, len_nil, len_str, decide_eq_true_eq, Bool.false_eq_true, if_true, if_false, Bool.not_true, Bool.not_false, Bool.not_eq_true, Bool.not_eq_true', decide_eq_false_iff_not, Bool.true_eq_false, eq_self, Nat.zero_add, Nat.add_zero, load_box, get0, get1, get2, get3, yl_some, len_Ws]
  rw [if_neg (by omega)]
  exact checkOut h (fun H => yl_some.2 rfl) l.length 0 [] (by omega)

/-! ### wishes by name -/
def tabOf (l : List W) : Tab (List Str) := l.map fun w => (w.who, w.fr)
def addAll (t : Tab (List Str)) (l : List W) : Tab (List Str) := l.foldl (fun t w => upd w.who w.fr t) t

theorem wishes_loop {l : List W} (hl : l.length < 1000000000) {b : Nat} {k0 : AV → Heap → Option (AV × Heap)} {Q : AV → Heap → Prop} (m : Nat) : ∀ (n : Nat) (H : Heap) (t : Tab (List Str)), m + n = l.length → H[b]? = some (.map (tks t) (tvs encL t)) →
    (∀ H', H'[b]? = some (.map (tks (addAll t (l.drop n))) (tvs encL (addAll t (l.drop n)))) → Yl (k0 (.map b) H') Q) → Yl (l_match_wishes_0 (.map b) (encWs l) (I l.length) (I n) H k0) Q := by
  induction m with
  | zero =>
    intro n H t hm hb hq
    refine l_match_wishes_0_s _ _ _ _ _ _ ?_
    rw [List.drop_eq_nil_of_le (by omega)] at hq
    simp only [obind, condK_bool, gB_bool, bin_lss, bin_leq, bin_gtr, bin_geq, bin_eql, bin_neq, str_eql, str_neq, un_not, ext0, ext1, ext2, nilc_ptr, nilc_vptr, fa_ptr, fa_vptr0, load_vptr, len_vslice, len_slice, len_nil, len_str, decide_eq_true_eq, Bool.false_eq_true, if_true, if_false, Bool.not_true, Bool.not_false, Bool.not_eq_true, Bool.not_eq_true', decide_eq_false_iff_not, Bool.true_eq_false, eq_self, Nat.zero_add, Nat.add_zero, load_box, get0, get1, get2, get3, yl_some]
    rw [if_neg (by omega)]
    exact hq _ hb
  | succ m ih =>
    intro n H t hm hb hq
    refine l_match_wishes_0_s _ _ _ _ _ _ ?_
    have hn : n < l.length := by omega
    rw [List.drop_eq_getElem_cons hn] at hq
    simp only [obind, condK_bool, gB_bool, bin_lss, bin_leq, bin_gtr, bin_geq, bin_eql, bin_neq, str_eql, str_neq, un_not, ext0, ext1, ext2, nilc_ptr, nilc_vptr, fa_ptr, fa_vptr0, load_vptr, len_vslice, len_slice, len_nil, len_str, decide_eq_true_eq, Bool.false_eq_true, if_true, if_false, Bool.not_true, Bool.not_false, Bool.not_eq_true, Bool.not_eq_true', decide_eq_false_iff_not, Bool.true_eq_false, eq_self, Nat.zero_add, Nat.add_zero, load_box, get0, get1, get2, get3, yl_some]
    rw [if_pos (by omega), index_W hn]
    simp only [obind, condK_bool, gB_bool, bin_lss, bin_leq, bin_gtr, bin_geq, bin_eql, bin_neq, str_eql, str_neq, un_not, ext0, ext1, ext2, nilc_ptr, nilc_vptr, fa_ptr, fa_vptr0, load_vptr, len_vslice, len_slice, len_nil, len_str, decide_eq_true_eq, Bool.false_eq_true, if_true, if_false, Bool.not_true, Bool.not_false, Bool.not_eq_true, Bool.not_eq_true', decide_eq_false_iff_not, Bool.true_eq_false, eq_self, Nat.zero_add, Nat.add_zero, load_box, get0, get1, get2, get3, yl_some]
    rw [load_vptrs (n := 2) _ (by simp)]
    simp only [obind, condK_bool, gB_bool, bin_lss, bin_leq, bin_gtr, bin_geq, bin_eql, bin_neq, str_eql, str_neq, un_not, ext0, ext1, ext2, nilc_ptr, nilc_vptr, fa_ptr, fa_vptr0, load_vptr, len_vslice, len_slice, len_nil, len_str, decide_eq_true_eq, Bool.false_eq_true, if_true, if_false, Bool.not_true, Bool.not_false, Bool.not_eq_true, Bool.not_eq_true', decide_eq_false_iff_not, Bool.true_eq_false, eq_self, Nat.zero_add, Nat.add_zero, load_box, get0, get1, get2, get3, yl_some, List.take]
    rw [box_ok (by rfl) (by rfl)]
    simp only [obind, condK_bool, gB_bool, bin_lss, bin_leq, bin_gtr, bin_geq, bin_eql, bin_neq, str_eql, str_neq, un_not, ext0, ext1, ext2, nilc_ptr, nilc_vptr, fa_ptr, fa_vptr0, load_vptr, len_vslice, len_slice, len_nil, len_str, decide_eq_true_eq, Bool.false_eq_true, if_true, if_false, Bool.not_true, Bool.not_false, Bool.not_eq_true, Bool.not_eq_true', decide_eq_false_iff_not, Bool.true_eq_false, eq_self, Nat.zero_add, Nat.add_zero, load_box, get0, get1, get2, get3, yl_some]
    rw [store_box (sz := 2) (by rfl) (by rfl) (by rfl)]
    simp only [obind, condK_bool, gB_bool, bin_lss, bin_leq, bin_gtr, bin_geq, bin_eql, bin_neq, str_eql, str_neq, un_not, ext0, ext1, ext2, nilc_ptr, nilc_vptr, fa_ptr, fa_vptr0, load_vptr, len_vslice, len_slice, len_nil, len_str, decide_eq_true_eq, Bool.false_eq_true, if_true, if_false, Bool.not_true, Bool.not_false, Bool.not_eq_true, Bool.not_eq_true', decide_eq_false_iff_not, Bool.true_eq_false, eq_self, Nat.zero_add, Nat.add_zero, load_box, get0, get1, get2, get3, yl_some]
    rw [update_map encL _ _ (app_old _ hb), obind, succ64 _ _ (by omega)]
    simp only [obind, condK_bool, gB_bool, bin_lss, bin_leq, bin_gtr, bin_geq, bin_eql, bin_neq, str_eql, str_neq, un_not, ext0, ext1, ext2, nilc_ptr, nilc_vptr, fa_ptr, fa_vptr0, load_vptr, len_vslice, len_slice, len_nil, len_str, decide_eq_true_eq, Bool.false_eq_true, if_true, if_false, Bool.not_true, Bool.not_false, Bool.not_eq_true, Bool.not_eq_true', decide_eq_false_iff_not, Bool.true_eq_false, eq_self, Nat.zero_add, Nat.add_zero, load_box, get0, get1, get2, get3, yl_some]
    refine ih (n + 1) _ (upd l[n].who l[n].fr t) (by omega) (set_same _ (app_old _ hb)) ?_
    exact hq

theorem snap_map {H : Heap} {b : Nat} {t : Tab (List Str)} (hb : H[b]? = some (.map (tks t) (tvs encL t))) : snap H deep (.map b) = some (.vmap (tks t) (tvs encL t)) := by
  unfold deep
  rw [snap]
  simp only [hb]
  rw [mapM_id (l := tks t), mapM_id (l := tvs encL t)]
  · rfl
  · intro a ha; obtain ⟨p, _, rfl⟩ := List.mem_map.1 ha; rfl
  · intro a ha; obtain ⟨p, _, rfl⟩ := List.mem_map.1 ha; rfl

theorem look_none {α : Type} {s : Str} {t : Tab α} (h : ∀ p ∈ t, p.1 ≠ s) : look s t = none := by
  induction t with
  | nil => rfl
  | cons p t ih =>
    obtain ⟨u, v⟩ := p
    simp only [look]
    rw [if_neg (fun e => h (u, v) (by simp) e.symm)]
    exact ih fun q hq => h q (by simp [hq])

theorem upd_new {α : Type} {s : Str} {x : α} {t : Tab α} (h : ∀ p ∈ t, p.1 ≠ s) : upd s x t = t ++ [(s, x)] := by
  induction t with
  | nil => rfl
  | cons p t ih =>
    obtain ⟨u, v⟩ := p
    simp only [upd]
    rw [if_neg (fun e => h (u, v) (by simp) e.symm), ih fun q hq => h q (by simp [hq])]
    rfl

theorem addAll_new : ∀ {l : List W} {t : Tab (List Str)}, l.Pairwise (fun a b => a.who ≠ b.who) → (∀ p ∈ t, ∀ w ∈ l, p.1 ≠ w.who) → addAll t l = t ++ tabOf l
  | [], t, _, _ => by simp [addAll, tabOf]
  | w :: l, t, hp, ht => by
    rw [List.pairwise_cons] at hp
    have : addAll t (w :: l) = addAll (upd w.who w.fr t) l := rfl
    rw [this, upd_new fun p hq => ht p hq w (by simp), addAll_new hp.2]
    · simp [tabOf]
    · intro p hq v hv
      rw [List.mem_append, List.mem_singleton] at hq
      rcases hq with hq | rfl
      · exact ht p hq v (by simp [hv])
      · exact hp.1 v hv

theorem wishes_ok {l : List W} (h : OkW l) (H : Heap) : pureCall prog (R prog) f_match_wishes [encWs l] H = some (.vmap (tks (tabOf l)) (tvs encL (tabOf l))) := by
  refine pure_fz (by simp [encWs, fz_vslice]) rfl (r_match_wishes _ _ ?_)
  have := h.len
  simp only [obind, condK_bool, gB_bool, bin_lss, bin_leq, bin_gtr, bin_geq, bin_eql, bin_neq, str_eql, str_neq, un_not, ext0, ext1, ext2, nilc_ptr, nilc_vptr, fa_ptr, fa_vptr0, load_vptr, len_vslice, len_slice, len_nil, len_str, decide_eq_true_eq, Bool.false_eq_true, if_true, if_false, Bool.not_true, Bool.not_false, Bool.not_eq_true, Bool.not_eq_true', decide_eq_false_iff_not, Bool.true_eq_false, eq_self, Nat.zero_add, Nat.add_zero, load_box, get0, get1, get2, get3, yl_some, len_Ws, newMap_ok]
  refine wishes_loop (by omega) l.length 0 _ [] (by omega) rfl fun H' hb => ?_
  rw [List.drop_zero, addAll_new (h.ord.imp fun hab => lt_ne hab) (by simp)] at hb
  exact yl_some.2 (snap_map hb)
end Y
end Go.Proofs.YtkaigfcjejabfaaGreatDoor
