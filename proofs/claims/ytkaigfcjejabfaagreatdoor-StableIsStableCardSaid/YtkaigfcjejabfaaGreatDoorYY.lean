/- What the law's own closures and ContainsFunc compute. No condition. -/
import Derived.Test.YtkaigfcjejabfaaGreatDoorYT
import Derived.Test.YtkaigfcjejabfaaGreatDoorYD
set_option maxRecDepth 100000
set_option linter.unusedSimpArgs false
set_option linter.unusedVariables false
namespace Go.Proofs.YtkaigfcjejabfaaGreatDoor
open Go
namespace Y
open X

theorem index_func {f : Nat} {p : Deal → Bool} {cp : AV} (hm : prog.mode f = .pure) (hc : ∀ (H : Heap) (d : Deal), pureCall prog (R prog) f [encD d, cp] H = some (.bool (p d))) {l : List Deal} (hl : l.length < 1000000) {k0 : Heap → Option (AV × Heap)} {Q : AV → Heap → Prop} {H : Heap} (m : Nat) :
    ∀ n, m + n = l.length → ((∃ d ∈ l.drop n, p d = true) → ∀ i : Nat, Q (I (i : Int)) H) → ((∀ d ∈ l.drop n, p d = false) → Yl (k0 H) Q) → Yl (l_slices_IndexFunc_api_Deal_api_Deal_0 (encDs l) (.func (.func f) [cp]) (I l.length) (I n) H k0) Q := by
  induction m with
  | zero =>
    intro n hm' hq hk
    refine l_slices_IndexFunc_api_Deal_api_Deal_0_s _ _ _ _ _ _ ?_
    rw [List.drop_eq_nil_of_le (by omega)] at hk
    simp only [obind, condK_bool, gB_bool, bin_lss, bin_leq, bin_gtr, bin_geq, bin_eql, bin_neq, str_eql, str_neq, un_not, ext0, ext1, ext2, nilc_ptr, nilc_vptr, fa_ptr, fa_vptr0, load_vptr, len_vslice, len_slice, len_nil, len_str, decide_eq_true_eq, Bool.false_eq_true, if_true, if_false, Bool.not_true, Bool.not_false, Bool.not_eq_true, Bool.not_eq_true', decide_eq_false_iff_not, Bool.true_eq_false, eq_self, Nat.zero_add, Nat.add_zero, load_box, get0, get1, get2, get3, yl_some]
    rw [if_neg (by omega)]
    exact hk (by simp)
  | succ m ih =>
    intro n hm' hq hk
    refine l_slices_IndexFunc_api_Deal_api_Deal_0_s _ _ _ _ _ _ ?_
    have hn : n < l.length := by omega
    rw [List.drop_eq_getElem_cons hn] at hq hk
    simp only [obind, condK_bool, gB_bool, bin_lss, bin_leq, bin_gtr, bin_geq, bin_eql, bin_neq, str_eql, str_neq, un_not, ext0, ext1, ext2, nilc_ptr, nilc_vptr, fa_ptr, fa_vptr0, load_vptr, len_vslice, len_slice, len_nil, len_str, decide_eq_true_eq, Bool.false_eq_true, if_true, if_false, Bool.not_true, Bool.not_false, Bool.not_eq_true, Bool.not_eq_true', decide_eq_false_iff_not, Bool.true_eq_false, eq_self, Nat.zero_add, Nat.add_zero, load_box, get0, get1, get2, get3, yl_some]
    rw [if_pos (by omega), index_D hn]
    simp only [obind, condK_bool, gB_bool, bin_lss, bin_leq, bin_gtr, bin_geq, bin_eql, bin_neq, str_eql, str_neq, un_not, ext0, ext1, ext2, nilc_ptr, nilc_vptr, fa_ptr, fa_vptr0, load_vptr, len_vslice, len_slice, len_nil, len_str, decide_eq_true_eq, Bool.false_eq_true, if_true, if_false, Bool.not_true, Bool.not_false, Bool.not_eq_true, Bool.not_eq_true', decide_eq_false_iff_not, Bool.true_eq_false, eq_self, Nat.zero_add, Nat.add_zero, load_box, get0, get1, get2, get3, yl_some]
    rw [load_vptrs (n := 2) _ (by simp)]
    simp only [obind, condK_bool, gB_bool, bin_lss, bin_leq, bin_gtr, bin_geq, bin_eql, bin_neq, str_eql, str_neq, un_not, ext0, ext1, ext2, nilc_ptr, nilc_vptr, fa_ptr, fa_vptr0, load_vptr, len_vslice, len_slice, len_nil, len_str, decide_eq_true_eq, Bool.false_eq_true, if_true, if_false, Bool.not_true, Bool.not_false, Bool.not_eq_true, Bool.not_eq_true', decide_eq_false_iff_not, Bool.true_eq_false, eq_self, Nat.zero_add, Nat.add_zero, load_box, get0, get1, get2, get3, yl_some, List.take]
    rw [callK_pure hm]
    have := hc H l[n]
    unfold encD at this
    simp only [List.cons_append, List.nil_append, this, obind, condK_bool, gB_bool, bin_lss, bin_leq, bin_gtr, bin_geq, bin_eql, bin_neq, str_eql, str_neq, un_not, ext0, ext1, ext2, nilc_ptr, nilc_vptr, fa_ptr, fa_vptr0, load_vptr, len_vslice, len_slice, len_nil, len_str, decide_eq_true_eq, Bool.false_eq_true, if_true, if_false, Bool.not_true, Bool.not_false, Bool.not_eq_true, Bool.not_eq_true', decide_eq_false_iff_not, Bool.true_eq_false, eq_self, Nat.zero_add, Nat.add_zero, load_box, get0, get1, get2, get3, yl_some]
    split
    · rename_i hp
      exact yl_some.2 (hq ⟨_, List.mem_cons_self, hp⟩ n)
    · rename_i hp
      rw [succ64 _ _ (by omega)]
      simp only [obind, condK_bool, gB_bool, bin_lss, bin_leq, bin_gtr, bin_geq, bin_eql, bin_neq, str_eql, str_neq, un_not, ext0, ext1, ext2, nilc_ptr, nilc_vptr, fa_ptr, fa_vptr0, load_vptr, len_vslice, len_slice, len_nil, len_str, decide_eq_true_eq, Bool.false_eq_true, if_true, if_false, Bool.not_true, Bool.not_false, Bool.not_eq_true, Bool.not_eq_true', decide_eq_false_iff_not, Bool.true_eq_false, eq_self, Nat.zero_add, Nat.add_zero, load_box, get0, get1, get2, get3, yl_some]
      refine ih (n + 1) (by omega) (fun ⟨d, hd, hpd⟩ => hq ⟨d, List.mem_cons_of_mem _ hd, hpd⟩) fun h => hk fun d hd => ?_
      rcases List.mem_cons.1 hd with rfl | hd
      · simpa using hp
      · exact h d hd

theorem fz_func (f : Nat) (cs : List AV) : Fz (.func (.func f) [.vptr cs]) := ⟨fun _ => rfl, rfl⟩

theorem contains_func {f : Nat} {p : Deal → Bool} {cs : List AV} (hm : prog.mode f = .pure) (hc : ∀ (H : Heap) (d : Deal), pureCall prog (R prog) f [encD d, .vptr cs] H = some (.bool (p d))) {l : List Deal} (hl : l.length < 1000000) (hex : ∃ d ∈ l, p d = true) {H : Heap} {x : AV} (hx : snap H 11 x = some (.vptr cs)) :
    pureCall prog (R prog) f_slices_ContainsFunc_api_Deal_api_Deal [encDs l, .func (.func f) [x]] H = some (.bool true) := by
  obtain ⟨i, hi⟩ : ∃ i : Nat, pureCall prog (R prog) f_slices_IndexFunc_api_Deal_api_Deal [encDs l, .func (.func f) [.vptr cs]] [] = some (I (i : Int)) := by
    have h : Yl (R prog f_slices_IndexFunc_api_Deal_api_Deal [encDs l, .func (.func f) [.vptr cs]] []) fun v H' => ∃ i : Nat, v = I (i : Int) := by
      refine r_slices_IndexFunc_api_Deal_api_Deal _ _ _ ?_
      simp only [obind, condK_bool, gB_bool, bin_lss, bin_leq, bin_gtr, bin_geq, bin_eql, bin_neq, str_eql, str_neq, un_not, ext0, ext1, ext2, nilc_ptr, nilc_vptr, fa_ptr, fa_vptr0, load_vptr, len_vslice, len_slice, len_nil, len_str, decide_eq_true_eq, Bool.false_eq_true, if_true, if_false, Bool.not_true, Bool.not_false, Bool.not_eq_true, Bool.not_eq_true', decide_eq_false_iff_not, Bool.true_eq_false, eq_self, Nat.zero_add, Nat.add_zero, load_box, get0, get1, get2, get3, yl_some, len_Ds]
      refine index_func hm hc hl l.length 0 (by omega) (fun _ i => ⟨i, rfl⟩) fun h => ?_
      obtain ⟨d, hd, hp⟩ := hex
      rw [h d (by simpa using hd)] at hp; cases hp
    obtain ⟨v, H', h1, i, rfl⟩ := h
    exact ⟨i, pure_fz (by simp [encDs, fz_vslice, fz_func]) rfl ⟨_, _, h1, rfl⟩⟩
  refine pure_snap (bs := [encDs l, .func (.func f) [.vptr cs]]) ?_ rfl (r_slices_ContainsFunc_api_Deal_api_Deal _ _ _ ?_)
  · have : snap H deep (.func (.func f) [x]) = some (.func (.func f) [.vptr cs]) := by
      unfold deep
      rw [X.snap]
      simp [List.mapM_cons, hx]
    simp [List.mapM_cons, this, (fz_vslice _).1 H, encDs]
  · simp only [hi, obind, condK_bool, gB_bool, bin_lss, bin_leq, bin_gtr, bin_geq, bin_eql, bin_neq, str_eql, str_neq, un_not, ext0, ext1, ext2, nilc_ptr, nilc_vptr, fa_ptr, fa_vptr0, load_vptr, len_vslice, len_slice, len_nil, len_str, decide_eq_true_eq, Bool.false_eq_true, if_true, if_false, Bool.not_true, Bool.not_false, Bool.not_eq_true, Bool.not_eq_true', decide_eq_false_iff_not, Bool.true_eq_false, eq_self, Nat.zero_add, Nat.add_zero, load_box, get0, get1, get2, get3, yl_some]
    rw [decide_eq_true (by omega)]
    exact ⟨rfl, rfl⟩

theorem law1_call (x : Deal) (H : Heap) (d : Deal) : pureCall prog (R prog) f_jitkeep2_StableIsStable_1 [encD d, .vptr [.str x.1, .str x.2]] H = some (.bool (decide (d.2 = x.1))) := by
  refine pure_fz (fun v hv => ?_) rfl (r_jitkeep2_StableIsStable_1 _ _ _ ?_)
  · simp only [List.mem_cons, List.not_mem_nil, or_false] at hv
    rcases hv with rfl | rfl <;> exact ⟨fun _ => rfl, rfl⟩
  · have e1 : boxAV 2 (encD d) [] = some (.ptr 0 0 0, [.arr 2 [encD d]]) := rfl
    have e3 : loadAV [.arr 2 [encD d]] none (.ptr 0 0 1) = some (.str d.2) := rfl
    simp only [e1, obind, condK_bool, gB_bool, bin_lss, bin_leq, bin_gtr, bin_geq, bin_eql, bin_neq, str_eql, str_neq, un_not, ext0, ext1, ext2, nilc_ptr, nilc_vptr, fa_ptr, fa_vptr0, load_vptr, len_vslice, len_slice, len_nil, len_str, decide_eq_true_eq, Bool.false_eq_true, if_true, if_false, Bool.not_true, Bool.not_false, Bool.not_eq_true, Bool.not_eq_true', decide_eq_false_iff_not, Bool.true_eq_false, eq_self, Nat.zero_add, Nat.add_zero, load_box, get0, get1, get2, get3, yl_some, e3]
    rfl

theorem law2_call (x : Deal) (H : Heap) (d : Deal) : pureCall prog (R prog) f_jitkeep2_StableIsStable_2 [encD d, .vptr [.str x.1, .str x.2]] H = some (.bool (decide (d.1 = x.2))) := by
  refine pure_fz (fun v hv => ?_) rfl (r_jitkeep2_StableIsStable_2 _ _ _ ?_)
  · simp only [List.mem_cons, List.not_mem_nil, or_false] at hv
    rcases hv with rfl | rfl <;> exact ⟨fun _ => rfl, rfl⟩
  · have e1 : boxAV 2 (encD d) [] = some (.ptr 0 0 0, [.arr 2 [encD d]]) := rfl
    have e2 : fieldAddrAV 1 (.vptr [.str x.1, .str x.2]) = some (.vptr [.str x.2]) := rfl
    have e3 : loadAV [.arr 2 [encD d]] none (.ptr 0 0 0) = some (.str d.1) := rfl
    simp only [e1, obind, condK_bool, gB_bool, bin_lss, bin_leq, bin_gtr, bin_geq, bin_eql, bin_neq, str_eql, str_neq, un_not, ext0, ext1, ext2, nilc_ptr, nilc_vptr, fa_ptr, fa_vptr0, load_vptr, len_vslice, len_slice, len_nil, len_str, decide_eq_true_eq, Bool.false_eq_true, if_true, if_false, Bool.not_true, Bool.not_false, Bool.not_eq_true, Bool.not_eq_true', decide_eq_false_iff_not, Bool.true_eq_false, eq_self, Nat.zero_add, Nat.add_zero, load_box, get0, get1, get2, get3, yl_some, e2, e3]
    rfl
end Y
end Go.Proofs.YtkaigfcjejabfaaGreatDoor
