/- What Blocking answers to a right matching which nobody would leave. No condition. -/
import Derived.Test.YtkaigfcjejabfaaGreatDoorYH
import Derived.Test.YtkaigfcjejabfaaGreatDoorYS
set_option linter.unusedSimpArgs false
set_option linter.unusedVariables false
namespace Go.Proofs.YtkaigfcjejabfaaGreatDoor
open Go
namespace Y
open X

abbrev Deal := Str × Str
def encD (d : Deal) : AV := .agg [.str d.1, .str d.2]
def encDs (l : List Deal) : AV := .vslice (l.map encD)

theorem index_D {H : Heap} {l : List Deal} {k : IntKind} {n : Nat} (h : n < l.length) : indexV H 2 (encDs l) (.int k (n : Int)) = some (.vptr [.str l[n].1, .str l[n].2]) := by
  have he : (l.map encD)[n]? = some (encD l[n]) := by rw [List.getElem?_map, List.getElem?_eq_getElem h]; rfl
  rw [encDs, index_vslice (sz := 2) he rfl]
  rfl
theorem len_Ds (H : Heap) (l : List Deal) : lenX H .slice (encDs l) = some (I l.length) := by simp [encDs, len_vslice]

/-- Who has whom: of rides, of cars. -/
def ofT (d : List Deal) : Tab Str := d.foldl (fun t p => upd p.2 p.1 t) []
def hasT (d : List Deal) : Tab Str := d.foldl (fun t p => upd p.1 p.2 t) []

theorem ofT_snoc (d : List Deal) (p : Deal) : ofT (d ++ [p]) = upd p.2 p.1 (ofT d) := by simp [ofT]
theorem hasT_snoc (d : List Deal) (p : Deal) : hasT (d ++ [p]) = upd p.1 p.2 (hasT d) := by simp [hasT]

theorem look_ofT {s : Str} : ∀ (d : List Deal) (t : Tab Str), (∀ p ∈ d, p.2 ≠ s) → look s (d.foldl (fun t p => upd p.2 p.1 t) t) = look s t
  | [], t, _ => rfl
  | p :: d, t, h => by
    rw [List.foldl_cons, look_ofT d _ fun q hq => h q (by simp [hq]), look_upd, if_neg fun e => h p (by simp) e.symm]

/-- A right matching. -/
structure Mat (C R : Tab (List Str)) (d : List Deal) : Prop where
  len : d.length ≤ 200
  ord : d.Pairwise fun a b => lt a.1 b.1 = true
  car : ∀ p ∈ d, ∃ f, look p.1 C = some f ∧ p.2 ∈ f
  ride : ∀ p ∈ d, ∃ f, look p.2 R = some f ∧ p.1 ∈ f
  one : d.Pairwise fun a b => a.2 ≠ b.2

/-- Nobody would rather have each other. -/
def Calm (cars : List W) (R : Tab (List Str)) (d : List Deal) : Prop :=
  ∀ w ∈ cars, ∀ r ∈ w.fr, likes w.fr r ((look w.who (hasT d)).getD []) = true → likes ((look r R).getD []) w.who ((look r (ofT d)).getD []) = false

abbrev tS (t : Tab Str) : Blk := .map (tks t) (tvs AV.str t)

theorem snap_nil (H : Heap) : X.snap H deep .nilslice = some (encL []) := rfl
theorem noRef_nil : noRef deep .nilslice = true := rfl
theorem getD_str (o : Option Str) : (o.map AV.str).getD (.str []) = .str (o.getD []) := by cases o <;> rfl
theorem getD_encL (H : Heap) (o : Option (List Str)) : X.snap H deep ((o.map encL).getD .nilslice) = some (encL (o.getD [])) ∧ noRef deep ((o.map encL).getD .nilslice) = true := by
  cases o <;> exact ⟨rfl, rfl⟩

theorem block_first {C R : Tab (List Str)} {d : List Deal} (hd : Mat C R d) (hne : ∀ p ∈ d, p.1 ≠ []) (hfew : ∀ s f, look s C = some f → f.length ≤ 100) (hfew' : ∀ s f, look s R = some f → f.length ≤ 100) {v0 : AV} {b c : Nat} (hbc : b ≠ c) {k0 : AV → AV → AV → AV → Heap → Option (AV × Heap)} {Q : AV → Heap → Prop}
    (hk : ∀ H, H[b]? = some (tS (ofT d)) → H[c]? = some (tS (hasT d)) → Yl (k0 v0 (.vmap (tks R) (tvs encL R)) (.map b) (.map c) H) Q) (m : Nat) :
    ∀ (n : Nat) (H : Heap), m + n = d.length → H[b]? = some (tS (ofT (d.take n))) → H[c]? = some (tS (hasT (d.take n))) →
    Yl (l_match_Blocking_0 v0 (encDs d) (.vmap (tks C) (tvs encL C)) (.vmap (tks R) (tvs encL R)) (.map b) (.map c) (encDs d) (I d.length) (I n) H k0) Q := by
  have hlen := hd.len
  induction m with
  | zero =>
    intro n H hm hb hc
    refine l_match_Blocking_0_s _ _ _ _ _ _ _ _ _ _ _ ?_
    simp only [obind, condK_bool, gB_bool, bin_lss, bin_leq, bin_gtr, bin_geq, bin_eql, bin_neq, str_eql, str_neq, un_not, ext0, ext1, ext2, nilc_ptr, nilc_vptr, fa_ptr, fa_vptr0, load_vptr, len_vslice, len_slice, len_nil, len_str, decide_eq_true_eq, Bool.false_eq_true, if_true, if_false, Bool.not_true, Bool.not_false, Bool.not_eq_true, Bool.not_eq_true', decide_eq_false_iff_not, Bool.true_eq_false, eq_self, Nat.zero_add, Nat.add_zero, load_box, get0, get1, get2, get3, yl_some]
    rw [if_neg (by omega)]
    rw [List.take_of_length_le (by omega)] at hb hc
    exact hk H hb hc
  | succ m ih =>
    intro n H hm hb hc
    refine l_match_Blocking_0_s _ _ _ _ _ _ _ _ _ _ _ ?_
    have hn : n < d.length := by omega
    have hmem := List.getElem_mem hn
    obtain ⟨fc, hc1, hc2⟩ := hd.car _ hmem
    obtain ⟨fr, hr1, hr2⟩ := hd.ride _ hmem
    have htake : d.take (n + 1) = d.take n ++ [d[n]] := List.take_succ_eq_append_getElem hn
    simp only [obind, condK_bool, gB_bool, bin_lss, bin_leq, bin_gtr, bin_geq, bin_eql, bin_neq, str_eql, str_neq, un_not, ext0, ext1, ext2, nilc_ptr, nilc_vptr, fa_ptr, fa_vptr0, load_vptr, len_vslice, len_slice, len_nil, len_str, decide_eq_true_eq, Bool.false_eq_true, if_true, if_false, Bool.not_true, Bool.not_false, Bool.not_eq_true, Bool.not_eq_true', decide_eq_false_iff_not, Bool.true_eq_false, eq_self, Nat.zero_add, Nat.add_zero, load_box, get0, get1, get2, get3, yl_some]
    rw [if_pos (by omega), index_D hn]
    simp only [obind, condK_bool, gB_bool, bin_lss, bin_leq, bin_gtr, bin_geq, bin_eql, bin_neq, str_eql, str_neq, un_not, ext0, ext1, ext2, nilc_ptr, nilc_vptr, fa_ptr, fa_vptr0, load_vptr, len_vslice, len_slice, len_nil, len_str, decide_eq_true_eq, Bool.false_eq_true, if_true, if_false, Bool.not_true, Bool.not_false, Bool.not_eq_true, Bool.not_eq_true', decide_eq_false_iff_not, Bool.true_eq_false, eq_self, Nat.zero_add, Nat.add_zero, load_box, get0, get1, get2, get3, yl_some]
    rw [load_vptrs (n := 2) _ (by simp)]
    simp only [obind, condK_bool, gB_bool, bin_lss, bin_leq, bin_gtr, bin_geq, bin_eql, bin_neq, str_eql, str_neq, un_not, ext0, ext1, ext2, nilc_ptr, nilc_vptr, fa_ptr, fa_vptr0, load_vptr, len_vslice, len_slice, len_nil, len_str, decide_eq_true_eq, Bool.false_eq_true, if_true, if_false, Bool.not_true, Bool.not_false, Bool.not_eq_true, Bool.not_eq_true', decide_eq_false_iff_not, Bool.true_eq_false, eq_self, Nat.zero_add, Nat.add_zero, load_box, get0, get1, get2, get3, yl_some, List.take]
    rw [box_ok (by rfl) (by rfl)]
    simp only [obind, condK_bool, gB_bool, bin_lss, bin_leq, bin_gtr, bin_geq, bin_eql, bin_neq, str_eql, str_neq, un_not, ext0, ext1, ext2, nilc_ptr, nilc_vptr, fa_ptr, fa_vptr0, load_vptr, len_vslice, len_slice, len_nil, len_str, decide_eq_true_eq, Bool.false_eq_true, if_true, if_false, Bool.not_true, Bool.not_false, Bool.not_eq_true, Bool.not_eq_true', decide_eq_false_iff_not, Bool.true_eq_false, eq_self, Nat.zero_add, Nat.add_zero, load_box, get0, get1, get2, get3, yl_some]
    rw [store_box (sz := 2) (by rfl) (by rfl) (by rfl)]
    have hb' := app_old [Blk.arr 2 [.agg [.str d[n].1, .str d[n].2]]] hb
    have hc' := app_old [Blk.arr 2 [.agg [.str d[n].1, .str d[n].2]]] hc
    simp only [obind, condK_bool, gB_bool, bin_lss, bin_leq, bin_gtr, bin_geq, bin_eql, bin_neq, str_eql, str_neq, un_not, ext0, ext1, ext2, nilc_ptr, nilc_vptr, fa_ptr, fa_vptr0, load_vptr, len_vslice, len_slice, len_nil, len_str, decide_eq_true_eq, Bool.false_eq_true, if_true, if_false, Bool.not_true, Bool.not_false, Bool.not_eq_true, Bool.not_eq_true', decide_eq_false_iff_not, Bool.true_eq_false, eq_self, Nat.zero_add, Nat.add_zero, load_box, get0, get1, get2, get3, yl_some, lookup_vmap_ok, hc1, hr1, Option.isSome_some]
    have hof : look d[n].2 (ofT (d.take n)) = none := by
      refine (look_ofT _ _ fun p hp => ?_).trans rfl
      rw [List.mem_take_iff_getElem] at hp
      obtain ⟨i, hi, rfl⟩ := hp
      exact List.pairwise_iff_getElem.1 hd.one i n (by omega) hn (by omega)
    have hx := load_box H 2 [.str d[n].1, .str d[n].2] []
    have hj2 : Yl (j_match_Blocking_2 v0 (encDs d) (.vmap (tks C) (tvs encL C)) (.vmap (tks R) (tvs encL R)) (.map b) (.map c) (.ptr H.length 0 0) (encDs d) (I d.length) (I n) (.bool false) (H ++ [Blk.arr 2 [.agg [.str d[n].1, .str d[n].2]]]) k0) Q := by
      unfold j_match_Blocking_2
      simp only [obind, condK_bool, gB_bool, bin_lss, bin_leq, bin_gtr, bin_geq, bin_eql, bin_neq, str_eql, str_neq, un_not, ext0, ext1, ext2, nilc_ptr, nilc_vptr, fa_ptr, fa_vptr0, load_vptr, len_vslice, len_slice, len_nil, len_str, decide_eq_true_eq, Bool.false_eq_true, if_true, if_false, Bool.not_true, Bool.not_false, Bool.not_eq_true, Bool.not_eq_true', decide_eq_false_iff_not, Bool.true_eq_false, eq_self, Nat.zero_add, Nat.add_zero, load_box, get0, get1, get2, get3, yl_some]
      rw [lookup_map AV.str _ _ hb']
      simp only [obind, condK_bool, gB_bool, bin_lss, bin_leq, bin_gtr, bin_geq, bin_eql, bin_neq, str_eql, str_neq, un_not, ext0, ext1, ext2, nilc_ptr, nilc_vptr, fa_ptr, fa_vptr0, load_vptr, len_vslice, len_slice, len_nil, len_str, decide_eq_true_eq, Bool.false_eq_true, if_true, if_false, Bool.not_true, Bool.not_false, Bool.not_eq_true, Bool.not_eq_true', decide_eq_false_iff_not, Bool.true_eq_false, eq_self, Nat.zero_add, Nat.add_zero, load_box, get0, get1, get2, get3, yl_some, hof, getD_str, Option.getD_none, ne_eq, not_true_eq_false, lookup_vmap, hc1, hr1, Option.map_some, Option.getD_some]
      rw [contains_ok (l := fc) (by have := hfew _ _ hc1; omega) _ rfl rfl, contains_ok (l := fr) (by have := hfew' _ _ hr1; omega) _ rfl rfl]
      simp only [hc2, hr2, decide_true, obind, condK_bool, gB_bool, bin_lss, bin_leq, bin_gtr, bin_geq, bin_eql, bin_neq, str_eql, str_neq, un_not, ext0, ext1, ext2, nilc_ptr, nilc_vptr, fa_ptr, fa_vptr0, load_vptr, len_vslice, len_slice, len_nil, len_str, decide_eq_true_eq, Bool.false_eq_true, if_true, if_false, Bool.not_true, Bool.not_false, Bool.not_eq_true, Bool.not_eq_true', decide_eq_false_iff_not, Bool.true_eq_false, eq_self, Nat.zero_add, Nat.add_zero, load_box, get0, get1, get2, get3, yl_some]
      rw [update_map AV.str _ _ hb']
      simp only [obind, condK_bool, gB_bool, bin_lss, bin_leq, bin_gtr, bin_geq, bin_eql, bin_neq, str_eql, str_neq, un_not, ext0, ext1, ext2, nilc_ptr, nilc_vptr, fa_ptr, fa_vptr0, load_vptr, len_vslice, len_slice, len_nil, len_str, decide_eq_true_eq, Bool.false_eq_true, if_true, if_false, Bool.not_true, Bool.not_false, Bool.not_eq_true, Bool.not_eq_true', decide_eq_false_iff_not, Bool.true_eq_false, eq_self, Nat.zero_add, Nat.add_zero, load_box, get0, get1, get2, get3, yl_some]
      rw [update_map AV.str _ _ (set_other _ (Ne.symm hbc) hc')]
      simp only [obind, condK_bool, gB_bool, bin_lss, bin_leq, bin_gtr, bin_geq, bin_eql, bin_neq, str_eql, str_neq, un_not, ext0, ext1, ext2, nilc_ptr, nilc_vptr, fa_ptr, fa_vptr0, load_vptr, len_vslice, len_slice, len_nil, len_str, decide_eq_true_eq, Bool.false_eq_true, if_true, if_false, Bool.not_true, Bool.not_false, Bool.not_eq_true, Bool.not_eq_true', decide_eq_false_iff_not, Bool.true_eq_false, eq_self, Nat.zero_add, Nat.add_zero, load_box, get0, get1, get2, get3, yl_some]
      rw [succ64 _ _ (by omega)]
      simp only [obind, condK_bool, gB_bool, bin_lss, bin_leq, bin_gtr, bin_geq, bin_eql, bin_neq, str_eql, str_neq, un_not, ext0, ext1, ext2, nilc_ptr, nilc_vptr, fa_ptr, fa_vptr0, load_vptr, len_vslice, len_slice, len_nil, len_str, decide_eq_true_eq, Bool.false_eq_true, if_true, if_false, Bool.not_true, Bool.not_false, Bool.not_eq_true, Bool.not_eq_true', decide_eq_false_iff_not, Bool.true_eq_false, eq_self, Nat.zero_add, Nat.add_zero, load_box, get0, get1, get2, get3, yl_some]
      refine ih (n + 1) _ (by omega) ?_ ?_
      · rw [htake, ofT_snoc]; exact set_other _ hbc (set_same _ hb')
      · rw [htake, hasT_snoc]; exact set_same _ (set_other _ (Ne.symm hbc) hc')
    unfold j_match_Blocking_1
    simp only [obind, condK_bool, gB_bool, bin_lss, bin_leq, bin_gtr, bin_geq, bin_eql, bin_neq, str_eql, str_neq, un_not, ext0, ext1, ext2, nilc_ptr, nilc_vptr, fa_ptr, fa_vptr0, load_vptr, len_vslice, len_slice, len_nil, len_str, decide_eq_true_eq, Bool.false_eq_true, if_true, if_false, Bool.not_true, Bool.not_false, Bool.not_eq_true, Bool.not_eq_true', decide_eq_false_iff_not, Bool.true_eq_false, eq_self, Nat.zero_add, Nat.add_zero, load_box, get0, get1, get2, get3, yl_some]
    by_cases h0 : n = 0
    · subst h0
      rw [if_neg (by omega)]
      exact hj2
    · rw [if_pos (by omega), pred64 _ _ (by omega) (by omega)]
      simp only [obind, condK_bool, gB_bool, bin_lss, bin_leq, bin_gtr, bin_geq, bin_eql, bin_neq, str_eql, str_neq, un_not, ext0, ext1, ext2, nilc_ptr, nilc_vptr, fa_ptr, fa_vptr0, load_vptr, len_vslice, len_slice, len_nil, len_str, decide_eq_true_eq, Bool.false_eq_true, if_true, if_false, Bool.not_true, Bool.not_false, Bool.not_eq_true, Bool.not_eq_true', decide_eq_false_iff_not, Bool.true_eq_false, eq_self, Nat.zero_add, Nat.add_zero, load_box, get0, get1, get2, get3, yl_some, index_D (show n - 1 < d.length by omega), str_leq]
      have hlt : lt d[n - 1].1 d[n].1 = true := List.pairwise_iff_getElem.1 hd.ord (n - 1) n (by omega) hn (by omega)
      have h1 : Op.bytesLess d[n].1 d[n - 1].1 = false := lt_asymm hlt
      have h2 : (d[n].1 == d[n - 1].1) = false := by simpa using (lt_ne hlt).symm
      simp only [h1, h2, Bool.or_false, obind, condK_bool, gB_bool, bin_lss, bin_leq, bin_gtr, bin_geq, bin_eql, bin_neq, str_eql, str_neq, un_not, ext0, ext1, ext2, nilc_ptr, nilc_vptr, fa_ptr, fa_vptr0, load_vptr, len_vslice, len_slice, len_nil, len_str, decide_eq_true_eq, Bool.false_eq_true, if_true, if_false, Bool.not_true, Bool.not_false, Bool.not_eq_true, Bool.not_eq_true', decide_eq_false_iff_not, Bool.true_eq_false, eq_self, Nat.zero_add, Nat.add_zero, load_box, get0, get1, get2, get3, yl_some]
      exact hj2

theorem block_in {w : W} {R : Tab (List Str)} {o h : Tab Str} (hl : w.fr.length ≤ 100) (hfew : ∀ s f, look s R = some f → f.length ≤ 100) (hcalm : ∀ r ∈ w.fr, likes w.fr r ((look w.who h).getD []) = true → likes ((look r R).getD []) w.who ((look r o).getD []) = false)
    {b c x : Nat} {v120 v121 v122 : AV} {H : Heap} (hb : H[b]? = some (tS o)) (hc : H[c]? = some (tS h)) (hx : H[x]? = some (.arr 2 [encW w])) {k5 : AV → AV → AV → AV → AV → AV → AV → Heap → Option (AV × Heap)} {Q : AV → Heap → Prop}
    (hk : Yl (k5 (.vmap (tks R) (tvs encL R)) (.map b) (.map c) .nilslice v120 v121 v122 H) Q) (m : Nat) : ∀ n, m + n = w.fr.length →
    Yl (l_match_Blocking_1 (.vmap (tks R) (tvs encL R)) (.map b) (.map c) .nilslice (.ptr x 0 0) v120 v121 v122 (encL w.fr) (I w.fr.length) (I n) H k5) Q := by
  induction m with
  | zero =>
    intro n hm
    refine l_match_Blocking_1_s _ _ _ _ _ _ _ _ _ _ _ _ _ ?_
    simp only [obind, condK_bool, gB_bool, bin_lss, bin_leq, bin_gtr, bin_geq, bin_eql, bin_neq, str_eql, str_neq, un_not, ext0, ext1, ext2, nilc_ptr, nilc_vptr, fa_ptr, fa_vptr0, load_vptr, len_vslice, len_slice, len_nil, len_str, decide_eq_true_eq, Bool.false_eq_true, if_true, if_false, Bool.not_true, Bool.not_false, Bool.not_eq_true, Bool.not_eq_true', decide_eq_false_iff_not, Bool.true_eq_false, eq_self, Nat.zero_add, Nat.add_zero, load_box, get0, get1, get2, get3, yl_some]
    rw [if_neg (by omega)]
    exact hk
  | succ m ih =>
    intro n hm
    refine l_match_Blocking_1_s _ _ _ _ _ _ _ _ _ _ _ _ _ ?_
    have hn : n < w.fr.length := by omega
    have l0 : loadAV H none (.ptr x 0 0) = some (.str w.who) := load_ptr hx rfl rfl
    have l1 : loadAV H none (.ptr x 0 1) = some (encL w.fr) := load_ptr hx rfl rfl
    simp only [obind, condK_bool, gB_bool, bin_lss, bin_leq, bin_gtr, bin_geq, bin_eql, bin_neq, str_eql, str_neq, un_not, ext0, ext1, ext2, nilc_ptr, nilc_vptr, fa_ptr, fa_vptr0, load_vptr, len_vslice, len_slice, len_nil, len_str, decide_eq_true_eq, Bool.false_eq_true, if_true, if_false, Bool.not_true, Bool.not_false, Bool.not_eq_true, Bool.not_eq_true', decide_eq_false_iff_not, Bool.true_eq_false, eq_self, Nat.zero_add, Nat.add_zero, load_box, get0, get1, get2, get3, yl_some]
    rw [if_pos (by omega), index_S hn]
    simp only [obind, condK_bool, gB_bool, bin_lss, bin_leq, bin_gtr, bin_geq, bin_eql, bin_neq, str_eql, str_neq, un_not, ext0, ext1, ext2, nilc_ptr, nilc_vptr, fa_ptr, fa_vptr0, load_vptr, len_vslice, len_slice, len_nil, len_str, decide_eq_true_eq, Bool.false_eq_true, if_true, if_false, Bool.not_true, Bool.not_false, Bool.not_eq_true, Bool.not_eq_true', decide_eq_false_iff_not, Bool.true_eq_false, eq_self, Nat.zero_add, Nat.add_zero, load_box, get0, get1, get2, get3, yl_some, l0, l1]
    rw [lookup_map AV.str _ _ hc]
    simp only [obind, condK_bool, gB_bool, bin_lss, bin_leq, bin_gtr, bin_geq, bin_eql, bin_neq, str_eql, str_neq, un_not, ext0, ext1, ext2, nilc_ptr, nilc_vptr, fa_ptr, fa_vptr0, load_vptr, len_vslice, len_slice, len_nil, len_str, decide_eq_true_eq, Bool.false_eq_true, if_true, if_false, Bool.not_true, Bool.not_false, Bool.not_eq_true, Bool.not_eq_true', decide_eq_false_iff_not, Bool.true_eq_false, eq_self, Nat.zero_add, Nat.add_zero, load_box, get0, get1, get2, get3, yl_some, getD_str]
    rw [likes_ok (l := w.fr) (by omega) _ _ rfl rfl]
    simp only [obind, condK_bool, gB_bool, bin_lss, bin_leq, bin_gtr, bin_geq, bin_eql, bin_neq, str_eql, str_neq, un_not, ext0, ext1, ext2, nilc_ptr, nilc_vptr, fa_ptr, fa_vptr0, load_vptr, len_vslice, len_slice, len_nil, len_str, decide_eq_true_eq, Bool.false_eq_true, if_true, if_false, Bool.not_true, Bool.not_false, Bool.not_eq_true, Bool.not_eq_true', decide_eq_false_iff_not, Bool.true_eq_false, eq_self, Nat.zero_add, Nat.add_zero, load_box, get0, get1, get2, get3, yl_some]
    rw [succ64 _ _ (by omega)]
    have hc1 := hcalm _ (List.getElem_mem hn)
    split
    · rename_i hlk
      simp only [obind, condK_bool, gB_bool, bin_lss, bin_leq, bin_gtr, bin_geq, bin_eql, bin_neq, str_eql, str_neq, un_not, ext0, ext1, ext2, nilc_ptr, nilc_vptr, fa_ptr, fa_vptr0, load_vptr, len_vslice, len_slice, len_nil, len_str, decide_eq_true_eq, Bool.false_eq_true, if_true, if_false, Bool.not_true, Bool.not_false, Bool.not_eq_true, Bool.not_eq_true', decide_eq_false_iff_not, Bool.true_eq_false, eq_self, Nat.zero_add, Nat.add_zero, load_box, get0, get1, get2, get3, yl_some, lookup_vmap]
      rw [lookup_map AV.str _ _ hb]
      simp only [obind, condK_bool, gB_bool, bin_lss, bin_leq, bin_gtr, bin_geq, bin_eql, bin_neq, str_eql, str_neq, un_not, ext0, ext1, ext2, nilc_ptr, nilc_vptr, fa_ptr, fa_vptr0, load_vptr, len_vslice, len_slice, len_nil, len_str, decide_eq_true_eq, Bool.false_eq_true, if_true, if_false, Bool.not_true, Bool.not_false, Bool.not_eq_true, Bool.not_eq_true', decide_eq_false_iff_not, Bool.true_eq_false, eq_self, Nat.zero_add, Nat.add_zero, load_box, get0, get1, get2, get3, yl_some, getD_str]
      have hg := getD_encL H (look w.fr[n] R)
      rw [likes_ok (l := (look w.fr[n] R).getD []) ?_ _ _ hg.1 hg.2]
      · simp only [obind, condK_bool, gB_bool, bin_lss, bin_leq, bin_gtr, bin_geq, bin_eql, bin_neq, str_eql, str_neq, un_not, ext0, ext1, ext2, nilc_ptr, nilc_vptr, fa_ptr, fa_vptr0, load_vptr, len_vslice, len_slice, len_nil, len_str, decide_eq_true_eq, Bool.false_eq_true, if_true, if_false, Bool.not_true, Bool.not_false, Bool.not_eq_true, Bool.not_eq_true', decide_eq_false_iff_not, Bool.true_eq_false, eq_self, Nat.zero_add, Nat.add_zero, load_box, get0, get1, get2, get3, yl_some, hc1 hlk]
        exact ih (n + 1) (by omega)
      · cases hlk' : look w.fr[n] R with
        | none => simp
        | some f => have := hfew _ _ hlk'; simp; omega
    · simp only [obind, condK_bool, gB_bool, bin_lss, bin_leq, bin_gtr, bin_geq, bin_eql, bin_neq, str_eql, str_neq, un_not, ext0, ext1, ext2, nilc_ptr, nilc_vptr, fa_ptr, fa_vptr0, load_vptr, len_vslice, len_slice, len_nil, len_str, decide_eq_true_eq, Bool.false_eq_true, if_true, if_false, Bool.not_true, Bool.not_false, Bool.not_eq_true, Bool.not_eq_true', decide_eq_false_iff_not, Bool.true_eq_false, eq_self, Nat.zero_add, Nat.add_zero, load_box, get0, get1, get2, get3, yl_some]
      exact ih (n + 1) (by omega)

theorem block_out {cars : List W} (hok : OkW cars) {R : Tab (List Str)} {d : List Deal} (hfew : ∀ s f, look s R = some f → f.length ≤ 100) (hcalm : Calm cars R d)
    {b c : Nat} {k3 : AV → Heap → Option (AV × Heap)} {Q : AV → Heap → Prop} (hk : ∀ H, Yl (k3 .nilslice H) Q) (m : Nat) : ∀ n H, m + n = cars.length → H[b]? = some (tS (ofT d)) → H[c]? = some (tS (hasT d)) →
    Yl (l_match_Blocking_2 (.vmap (tks R) (tvs encL R)) (.map b) (.map c) .nilslice (encWs cars) (I cars.length) (I n) H k3) Q := by
  have hlen := hok.len
  induction m with
  | zero =>
    intro n H hm hb hc
    refine l_match_Blocking_2_s _ _ _ _ _ _ _ _ _ ?_
    simp only [obind, condK_bool, gB_bool, bin_lss, bin_leq, bin_gtr, bin_geq, bin_eql, bin_neq, str_eql, str_neq, un_not, ext0, ext1, ext2, nilc_ptr, nilc_vptr, fa_ptr, fa_vptr0, load_vptr, len_vslice, len_slice, len_nil, len_str, decide_eq_true_eq, Bool.false_eq_true, if_true, if_false, Bool.not_true, Bool.not_false, Bool.not_eq_true, Bool.not_eq_true', decide_eq_false_iff_not, Bool.true_eq_false, eq_self, Nat.zero_add, Nat.add_zero, load_box, get0, get1, get2, get3, yl_some]
    rw [if_neg (by omega)]
    exact hk H
  | succ m ih =>
    intro n H hm hb hc
    refine l_match_Blocking_2_s _ _ _ _ _ _ _ _ _ ?_
    have hn : n < cars.length := by omega
    have hmem := List.getElem_mem hn
    simp only [obind, condK_bool, gB_bool, bin_lss, bin_leq, bin_gtr, bin_geq, bin_eql, bin_neq, str_eql, str_neq, un_not, ext0, ext1, ext2, nilc_ptr, nilc_vptr, fa_ptr, fa_vptr0, load_vptr, len_vslice, len_slice, len_nil, len_str, decide_eq_true_eq, Bool.false_eq_true, if_true, if_false, Bool.not_true, Bool.not_false, Bool.not_eq_true, Bool.not_eq_true', decide_eq_false_iff_not, Bool.true_eq_false, eq_self, Nat.zero_add, Nat.add_zero, load_box, get0, get1, get2, get3, yl_some]
    rw [if_pos (by omega), index_W hn]
    simp only [obind, condK_bool, gB_bool, bin_lss, bin_leq, bin_gtr, bin_geq, bin_eql, bin_neq, str_eql, str_neq, un_not, ext0, ext1, ext2, nilc_ptr, nilc_vptr, fa_ptr, fa_vptr0, load_vptr, len_vslice, len_slice, len_nil, len_str, decide_eq_true_eq, Bool.false_eq_true, if_true, if_false, Bool.not_true, Bool.not_false, Bool.not_eq_true, Bool.not_eq_true', decide_eq_false_iff_not, Bool.true_eq_false, eq_self, Nat.zero_add, Nat.add_zero, load_box, get0, get1, get2, get3, yl_some]
    rw [load_vptrs (n := 2) _ (by simp)]
    simp only [obind, condK_bool, gB_bool, bin_lss, bin_leq, bin_gtr, bin_geq, bin_eql, bin_neq, str_eql, str_neq, un_not, ext0, ext1, ext2, nilc_ptr, nilc_vptr, fa_ptr, fa_vptr0, load_vptr, len_vslice, len_slice, len_nil, len_str, decide_eq_true_eq, Bool.false_eq_true, if_true, if_false, Bool.not_true, Bool.not_false, Bool.not_eq_true, Bool.not_eq_true', decide_eq_false_iff_not, Bool.true_eq_false, eq_self, Nat.zero_add, Nat.add_zero, load_box, get0, get1, get2, get3, yl_some, List.take]
    rw [box_ok (by rfl) (by rfl)]
    simp only [obind, condK_bool, gB_bool, bin_lss, bin_leq, bin_gtr, bin_geq, bin_eql, bin_neq, str_eql, str_neq, un_not, ext0, ext1, ext2, nilc_ptr, nilc_vptr, fa_ptr, fa_vptr0, load_vptr, len_vslice, len_slice, len_nil, len_str, decide_eq_true_eq, Bool.false_eq_true, if_true, if_false, Bool.not_true, Bool.not_false, Bool.not_eq_true, Bool.not_eq_true', decide_eq_false_iff_not, Bool.true_eq_false, eq_self, Nat.zero_add, Nat.add_zero, load_box, get0, get1, get2, get3, yl_some]
    rw [store_box (sz := 2) (by rfl) (by rfl) (by rfl)]
    simp only [obind, condK_bool, gB_bool, bin_lss, bin_leq, bin_gtr, bin_geq, bin_eql, bin_neq, str_eql, str_neq, un_not, ext0, ext1, ext2, nilc_ptr, nilc_vptr, fa_ptr, fa_vptr0, load_vptr, len_vslice, len_slice, len_nil, len_str, decide_eq_true_eq, Bool.false_eq_true, if_true, if_false, Bool.not_true, Bool.not_false, Bool.not_eq_true, Bool.not_eq_true', decide_eq_false_iff_not, Bool.true_eq_false, eq_self, Nat.zero_add, Nat.add_zero, load_box, get0, get1, get2, get3, yl_some, len_L]
    have hb' := app_old [Blk.arr 2 [.agg [.str cars[n].who, encL cars[n].fr]]] hb
    have hc' := app_old [Blk.arr 2 [.agg [.str cars[n].who, encL cars[n].fr]]] hc
    refine block_in (w := cars[n]) (hok.few _ hmem) hfew (hcalm _ hmem) hb' hc' (app_get0 _ _ _) ?_ cars[n].fr.length 0 (by omega)
    rw [succ64 _ _ (by omega)]
    simp only [obind, condK_bool, gB_bool, bin_lss, bin_leq, bin_gtr, bin_geq, bin_eql, bin_neq, str_eql, str_neq, un_not, ext0, ext1, ext2, nilc_ptr, nilc_vptr, fa_ptr, fa_vptr0, load_vptr, len_vslice, len_slice, len_nil, len_str, decide_eq_true_eq, Bool.false_eq_true, if_true, if_false, Bool.not_true, Bool.not_false, Bool.not_eq_true, Bool.not_eq_true', decide_eq_false_iff_not, Bool.true_eq_false, eq_self, Nat.zero_add, Nat.add_zero, load_box, get0, get1, get2, get3, yl_some]
    exact ih (n + 1) _ (by omega) hb' hc'

theorem look_mem {α : Type} {s : Str} {x : α} : ∀ {t : Tab α}, look s t = some x → (s, x) ∈ t
  | [], h => by cases h
  | (u, v) :: t, h => by
    simp only [look] at h
    split at h
    · rename_i e; cases h; simp [e]
    · exact List.mem_cons_of_mem _ (look_mem h)

theorem look_tabOf {l : List W} {s : Str} {f : List Str} (h : look s (tabOf l) = some f) : ∃ w ∈ l, w.who = s ∧ w.fr = f := by
  have := look_mem h
  obtain ⟨w, hw, he⟩ := List.mem_map.1 this
  cases he
  exact ⟨w, hw, rfl, rfl⟩

theorem first_ok (H : Heap) (a b : Int) : pureCall prog (R prog) f_base_First [.vslice [I a, I b]] H = some (I (firstE [a, b])) := by
  refine pure_fz (by simp [fz_vslice]) rfl (r_base_First _ _ ?_)
  have step : ∀ (n : Nat) (x : Int) (rest : Option (AV × Heap)), True := fun _ _ _ => trivial
  simp only [obind, condK_bool, gB_bool, bin_lss, bin_leq, bin_gtr, bin_geq, bin_eql, bin_neq, str_eql, str_neq, un_not, ext0, ext1, ext2, nilc_ptr, nilc_vptr, fa_ptr, fa_vptr0, load_vptr, len_vslice, len_slice, len_nil, len_str, decide_eq_true_eq, Bool.false_eq_true, if_true, if_false, Bool.not_true, Bool.not_false, Bool.not_eq_true, Bool.not_eq_true', decide_eq_false_iff_not, Bool.true_eq_false, eq_self, Nat.zero_add, Nat.add_zero, load_box, get0, get1, get2, get3, yl_some, List.length_cons, List.length_nil]
  refine l_base_First_0_s _ _ _ _ _ ?_
  simp only [obind, condK_bool, gB_bool, bin_lss, bin_leq, bin_gtr, bin_geq, bin_eql, bin_neq, str_eql, str_neq, un_not, ext0, ext1, ext2, nilc_ptr, nilc_vptr, fa_ptr, fa_vptr0, load_vptr, len_vslice, len_slice, len_nil, len_str, decide_eq_true_eq, Bool.false_eq_true, if_true, if_false, Bool.not_true, Bool.not_false, Bool.not_eq_true, Bool.not_eq_true', decide_eq_false_iff_not, Bool.true_eq_false, eq_self, Nat.zero_add, Nat.add_zero, load_box, get0, get1, get2, get3, yl_some]
  have e0 : indexV [] 1 (.vslice [I a, I b]) (I 0) = some (.vptr [I a]) := index_vslice (n := 0) (e := I a) rfl rfl
  have e1 : indexV [] 1 (.vslice [I a, I b]) (I 1) = some (.vptr [I b]) := index_vslice (n := 1) (e := I b) rfl rfl
  rw [if_pos (by omega), e0]
  simp only [obind, condK_bool, gB_bool, bin_lss, bin_leq, bin_gtr, bin_geq, bin_eql, bin_neq, str_eql, str_neq, un_not, ext0, ext1, ext2, nilc_ptr, nilc_vptr, fa_ptr, fa_vptr0, load_vptr, len_vslice, len_slice, len_nil, len_str, decide_eq_true_eq, Bool.false_eq_true, if_true, if_false, Bool.not_true, Bool.not_false, Bool.not_eq_true, Bool.not_eq_true', decide_eq_false_iff_not, Bool.true_eq_false, eq_self, Nat.zero_add, Nat.add_zero, load_box, get0, get1, get2, get3, yl_some]
  by_cases ha : a = 0
  · simp only [ha, obind, condK_bool, gB_bool, bin_lss, bin_leq, bin_gtr, bin_geq, bin_eql, bin_neq, str_eql, str_neq, un_not, ext0, ext1, ext2, nilc_ptr, nilc_vptr, fa_ptr, fa_vptr0, load_vptr, len_vslice, len_slice, len_nil, len_str, decide_eq_true_eq, Bool.false_eq_true, if_true, if_false, Bool.not_true, Bool.not_false, Bool.not_eq_true, Bool.not_eq_true', decide_eq_false_iff_not, Bool.true_eq_false, eq_self, Nat.zero_add, Nat.add_zero, load_box, get0, get1, get2, get3, yl_some, ne_eq, not_true_eq_false]
    rw [add64 _ _ (by omega) (by omega)]
    simp only [obind, condK_bool, gB_bool, bin_lss, bin_leq, bin_gtr, bin_geq, bin_eql, bin_neq, str_eql, str_neq, un_not, ext0, ext1, ext2, nilc_ptr, nilc_vptr, fa_ptr, fa_vptr0, load_vptr, len_vslice, len_slice, len_nil, len_str, decide_eq_true_eq, Bool.false_eq_true, if_true, if_false, Bool.not_true, Bool.not_false, Bool.not_eq_true, Bool.not_eq_true', decide_eq_false_iff_not, Bool.true_eq_false, eq_self, Nat.zero_add, Nat.add_zero, load_box, get0, get1, get2, get3, yl_some, Int.zero_add]
    refine l_base_First_0_s _ _ _ _ _ ?_
    simp only [obind, condK_bool, gB_bool, bin_lss, bin_leq, bin_gtr, bin_geq, bin_eql, bin_neq, str_eql, str_neq, un_not, ext0, ext1, ext2, nilc_ptr, nilc_vptr, fa_ptr, fa_vptr0, load_vptr, len_vslice, len_slice, len_nil, len_str, decide_eq_true_eq, Bool.false_eq_true, if_true, if_false, Bool.not_true, Bool.not_false, Bool.not_eq_true, Bool.not_eq_true', decide_eq_false_iff_not, Bool.true_eq_false, eq_self, Nat.zero_add, Nat.add_zero, load_box, get0, get1, get2, get3, yl_some]
    rw [if_pos (by omega)]
    rw [ha] at e1
    rw [e1]
    simp only [obind, condK_bool, gB_bool, bin_lss, bin_leq, bin_gtr, bin_geq, bin_eql, bin_neq, str_eql, str_neq, un_not, ext0, ext1, ext2, nilc_ptr, nilc_vptr, fa_ptr, fa_vptr0, load_vptr, len_vslice, len_slice, len_nil, len_str, decide_eq_true_eq, Bool.false_eq_true, if_true, if_false, Bool.not_true, Bool.not_false, Bool.not_eq_true, Bool.not_eq_true', decide_eq_false_iff_not, Bool.true_eq_false, eq_self, Nat.zero_add, Nat.add_zero, load_box, get0, get1, get2, get3, yl_some]
    by_cases hb : b = 0
    · simp only [hb, obind, condK_bool, gB_bool, bin_lss, bin_leq, bin_gtr, bin_geq, bin_eql, bin_neq, str_eql, str_neq, un_not, ext0, ext1, ext2, nilc_ptr, nilc_vptr, fa_ptr, fa_vptr0, load_vptr, len_vslice, len_slice, len_nil, len_str, decide_eq_true_eq, Bool.false_eq_true, if_true, if_false, Bool.not_true, Bool.not_false, Bool.not_eq_true, Bool.not_eq_true', decide_eq_false_iff_not, Bool.true_eq_false, eq_self, Nat.zero_add, Nat.add_zero, load_box, get0, get1, get2, get3, yl_some, ne_eq, not_true_eq_false]
      rw [add64 _ _ (by omega) (by omega)]
      simp only [obind, condK_bool, gB_bool, bin_lss, bin_leq, bin_gtr, bin_geq, bin_eql, bin_neq, str_eql, str_neq, un_not, ext0, ext1, ext2, nilc_ptr, nilc_vptr, fa_ptr, fa_vptr0, load_vptr, len_vslice, len_slice, len_nil, len_str, decide_eq_true_eq, Bool.false_eq_true, if_true, if_false, Bool.not_true, Bool.not_false, Bool.not_eq_true, Bool.not_eq_true', decide_eq_false_iff_not, Bool.true_eq_false, eq_self, Nat.zero_add, Nat.add_zero, load_box, get0, get1, get2, get3, yl_some]
      refine l_base_First_0_s _ _ _ _ _ ?_
      simp only [obind, condK_bool, gB_bool, bin_lss, bin_leq, bin_gtr, bin_geq, bin_eql, bin_neq, str_eql, str_neq, un_not, ext0, ext1, ext2, nilc_ptr, nilc_vptr, fa_ptr, fa_vptr0, load_vptr, len_vslice, len_slice, len_nil, len_str, decide_eq_true_eq, Bool.false_eq_true, if_true, if_false, Bool.not_true, Bool.not_false, Bool.not_eq_true, Bool.not_eq_true', decide_eq_false_iff_not, Bool.true_eq_false, eq_self, Nat.zero_add, Nat.add_zero, load_box, get0, get1, get2, get3, yl_some]
      rw [if_neg (by omega)]
      exact yl_some.2 rfl
    · simp only [hb, obind, condK_bool, gB_bool, bin_lss, bin_leq, bin_gtr, bin_geq, bin_eql, bin_neq, str_eql, str_neq, un_not, ext0, ext1, ext2, nilc_ptr, nilc_vptr, fa_ptr, fa_vptr0, load_vptr, len_vslice, len_slice, len_nil, len_str, decide_eq_true_eq, Bool.false_eq_true, if_true, if_false, Bool.not_true, Bool.not_false, Bool.not_eq_true, Bool.not_eq_true', decide_eq_false_iff_not, Bool.true_eq_false, eq_self, Nat.zero_add, Nat.add_zero, load_box, get0, get1, get2, get3, yl_some, ne_eq, not_false_eq_true]
      simp only [firstE, hb, ne_eq, not_true_eq_false, not_false_eq_true, if_true, if_false]
      rfl
  · simp only [ha, obind, condK_bool, gB_bool, bin_lss, bin_leq, bin_gtr, bin_geq, bin_eql, bin_neq, str_eql, str_neq, un_not, ext0, ext1, ext2, nilc_ptr, nilc_vptr, fa_ptr, fa_vptr0, load_vptr, len_vslice, len_slice, len_nil, len_str, decide_eq_true_eq, Bool.false_eq_true, if_true, if_false, Bool.not_true, Bool.not_false, Bool.not_eq_true, Bool.not_eq_true', decide_eq_false_iff_not, Bool.true_eq_false, eq_self, Nat.zero_add, Nat.add_zero, load_box, get0, get1, get2, get3, yl_some, ne_eq, not_false_eq_true]
    simp only [firstE, ha, ne_eq, not_false_eq_true, if_true]
    rfl

theorem lit_int2 (H : Heap) (a b : Int) : litAV 1 [I 0, I 0] [(0, I a), (1, I b)] false H = some (.vslice [I a, I b], H) := (rfl)

theorem blocking_ok {cars rides : List W} (hc : OkW cars) (hr : OkW rides) (hne : ∀ w ∈ cars, w.who ≠ []) {d : List Deal} (hd : Mat (tabOf cars) (tabOf rides) d) (hcalm : Calm cars (tabOf rides) d) (H : Heap) :
    pureCall prog (R prog) f_match_Blocking [encWs cars, encWs rides, encDs d] H = some (.tuple [.vslice [], I 0]) := by
  refine pure_fz (by simp [encWs, encDs, fz_vslice]) rfl (r_match_Blocking _ _ _ _ ?_)
  have hlen := hd.len
  have few : ∀ {l : List W}, OkW l → ∀ s f, look s (tabOf l) = some f → f.length ≤ 100 := by
    intro l hl s f h
    obtain ⟨w, hw, _, rfl⟩ := look_tabOf h
    exact hl.few w hw
  simp only [obind, condK_bool, gB_bool, bin_lss, bin_leq, bin_gtr, bin_geq, bin_eql, bin_neq, str_eql, str_neq, un_not, ext0, ext1, ext2, nilc_ptr, nilc_vptr, fa_ptr, fa_vptr0, load_vptr, len_vslice, len_slice, len_nil, len_str, decide_eq_true_eq, Bool.false_eq_true, if_true, if_false, Bool.not_true, Bool.not_false, Bool.not_eq_true, Bool.not_eq_true', decide_eq_false_iff_not, Bool.true_eq_false, eq_self, Nat.zero_add, Nat.add_zero, load_box, get0, get1, get2, get3, yl_some, check_ok hc, check_ok hr, lit_int2, first_ok, firstE, ne_eq, not_true_eq_false, len_Ds, wishes_ok hc, wishes_ok hr, newMap_ok]
  rw [if_neg (by omega)]
  refine block_first hd (fun p hp => ?_) (few hc) (few hr) (by simp) (fun H' h1 h2 => ?_) d.length 0 _ (by omega) (by rfl) (by rfl)
  · obtain ⟨f, h1, _⟩ := hd.car p hp
    obtain ⟨w, hw, he, _⟩ := look_tabOf h1
    rw [← he]
    exact hne w hw
  · simp only [len_Ws, obind, condK_bool, gB_bool, bin_lss, bin_leq, bin_gtr, bin_geq, bin_eql, bin_neq, str_eql, str_neq, un_not, ext0, ext1, ext2, nilc_ptr, nilc_vptr, fa_ptr, fa_vptr0, load_vptr, len_vslice, len_slice, len_nil, len_str, decide_eq_true_eq, Bool.false_eq_true, if_true, if_false, Bool.not_true, Bool.not_false, Bool.not_eq_true, Bool.not_eq_true', decide_eq_false_iff_not, Bool.true_eq_false, eq_self, Nat.zero_add, Nat.add_zero, load_box, get0, get1, get2, get3, yl_some]
    refine block_out hc (few hr) hcalm (fun H'' => ?_) cars.length 0 H' (by omega) h1 h2
    obtain ⟨H3, e1, _⟩ := sort_ok (α := Empty) (enc := fun a => a.elim) (c := fun a _ => a.elim) (cmp := .func (.func f_match_Blocking_1) []) (v := .nilslice) (fun a => a.elim) (fun a => a.elim) (l := []) (by simp) (H := H'') (.nil _ _)
    rw [e1]
    simp only [obind, condK_bool, gB_bool, bin_lss, bin_leq, bin_gtr, bin_geq, bin_eql, bin_neq, str_eql, str_neq, un_not, ext0, ext1, ext2, nilc_ptr, nilc_vptr, fa_ptr, fa_vptr0, load_vptr, len_vslice, len_slice, len_nil, len_str, decide_eq_true_eq, Bool.false_eq_true, if_true, if_false, Bool.not_true, Bool.not_false, Bool.not_eq_true, Bool.not_eq_true', decide_eq_false_iff_not, Bool.true_eq_false, eq_self, Nat.zero_add, Nat.add_zero, load_box, get0, get1, get2, get3, yl_some]
    rfl
end Y
end Go.Proofs.YtkaigfcjejabfaaGreatDoor
