/- What RightWishes hands out. No condition. -/
import Derived.Test.YtkaigfcjejabfaaGreatDoorYP
set_option linter.unusedSimpArgs false
set_option linter.unusedVariables false
namespace Go.Proofs.YtkaigfcjejabfaaGreatDoor
open Go
namespace Y
open X

def strA (l : List Str) : List AV := l.map .str

/-- While a wish is filled. -/
structure InS (zs : List Int) (b bx L : Nat) (who : Str) (v26 : AV) (p : List Nat) (H : Heap) (q : Nat) (fv : AV) (fr : List Str) : Prop where
  hs : H[b]? = some (stB zs q)
  hbx : H[bx]? = some (.arr 2 [.agg [.str who, fv]])
  hf : Own H 1 fv (strA fr)
  ho : Own H 1 v26 (natI p)
  bL : b < L
  xL : L ≤ bx
  fL : Lo L fv
  oL : Lo L v26
  xf : fv.blockOf ≠ some bx
  xo : v26.blockOf ≠ some bx
  fo : ∀ c, v26.blockOf = some c → fv.blockOf ≠ some c
  len : L ≤ H.length

theorem InS.flip {zs : List Int} {b bx L : Nat} {who : Str} {v26 fv : AV} {p : List Nat} {H : Heap} {q : Nat} {fr : List Str} (h : InS zs b bx L who v26 p H q fv fr) : InS zs b bx L who v26 p (H.set b (stB zs (q + 1))) (q + 1) fv fr := by
  have hb := h.bL
  have hx := h.xL
  refine ⟨set_same _ h.hs, set_other _ (by omega) h.hbx, h.hf.stay (L := H.length) .set fun c hc => ⟨h.hf.block hc, ?_⟩, h.ho.stay (L := H.length) .set fun c hc => ⟨h.ho.block hc, ?_⟩, h.bL, h.xL, h.fL, h.oL, h.xf, h.xo, h.fo, by simpa using h.len⟩
  · have := h.fL c hc; omega
  · have := h.oL c hc; omega

theorem strA_get {l : List Str} {i : Nat} (h : i < l.length) : (strA l)[i]'(by simpa [strA] using h) = .str l[i] := by simp [strA]

theorem wish_in {others : List Str} (hot : others.length ≤ 1000) {zs : List Int} {b bx L : Nat} {who : Str} {v26 v7 v13 v14 v15 : AV} {p : List Nat} (hp : Dist others.length p)
    {k2 : AV → AV → AV → AV → AV → AV → AV → Heap → Option (AV × Heap)} {Q : AV → Heap → Prop} (m : Nat) : ∀ (n : Nat) (H : Heap) (q : Nat) (fv : AV) (fr : List Str), m + n = p.length → InS zs b bx L who v26 p H q fv fr →
    fr.Sublist ((p.take n).map fun j => others.getD j []) → q + m < 1000000000 →
    (∀ H' fv' fr', InS zs b bx L who v26 p H' (q + m) fv' fr' → fr'.Sublist (p.map fun j => others.getD j []) → Stay L b H H' → Yl (k2 (.ptr b 0 0) (encL others) v7 (.ptr bx 0 0) v13 v14 v15 H') Q) →
    Yl (l_jitmake_Stream_RightWishes_0 (.ptr b 0 0) (encL others) v7 (.ptr bx 0 0) v13 v14 v15 v26 (I p.length) (I n) H k2) Q := by
  have hlen := hp.len
  induction m with
  | zero =>
    intro n H q fv fr hm hi hsub hq hk
    refine l_jitmake_Stream_RightWishes_0_s _ _ _ _ _ _ _ _ _ _ _ _ ?_
    simp only [obind, condK_bool, gB_bool, bin_lss, bin_leq, bin_gtr, bin_geq, bin_eql, bin_neq, str_eql, str_neq, un_not, ext0, ext1, ext2, nilc_ptr, nilc_vptr, fa_ptr, fa_vptr0, load_vptr, len_vslice, len_slice, len_nil, len_str, decide_eq_true_eq, Bool.false_eq_true, if_true, if_false, Bool.not_true, Bool.not_false, Bool.not_eq_true, Bool.not_eq_true', decide_eq_false_iff_not, Bool.true_eq_false, eq_self, Nat.zero_add, Nat.add_zero, load_box, get0, get1, get2, get3, yl_some]
    rw [if_neg (by omega)]
    rw [List.take_of_length_le (by omega)] at hsub
    exact hk H fv fr hi hsub (.refl _ _ _)
  | succ m ih =>
    intro n H q fv fr hm hi hsub hq hk
    refine l_jitmake_Stream_RightWishes_0_s _ _ _ _ _ _ _ _ _ _ _ _ ?_
    have hn : n < p.length := by omega
    have hpn : p[n] < others.length := hp.lt _ (List.getElem_mem hn)
    obtain ⟨a, e1, e2⟩ := hi.ho.loadN hn
    simp only [obind, condK_bool, gB_bool, bin_lss, bin_leq, bin_gtr, bin_geq, bin_eql, bin_neq, str_eql, str_neq, un_not, ext0, ext1, ext2, nilc_ptr, nilc_vptr, fa_ptr, fa_vptr0, load_vptr, len_vslice, len_slice, len_nil, len_str, decide_eq_true_eq, Bool.false_eq_true, if_true, if_false, Bool.not_true, Bool.not_false, Bool.not_eq_true, Bool.not_eq_true', decide_eq_false_iff_not, Bool.true_eq_false, eq_self, Nat.zero_add, Nat.add_zero, load_box, get0, get1, get2, get3, yl_some]
    rw [if_pos (by omega)]
    simp only [obind, condK_bool, gB_bool, bin_lss, bin_leq, bin_gtr, bin_geq, bin_eql, bin_neq, str_eql, str_neq, un_not, ext0, ext1, ext2, nilc_ptr, nilc_vptr, fa_ptr, fa_vptr0, load_vptr, len_vslice, len_slice, len_nil, len_str, decide_eq_true_eq, Bool.false_eq_true, if_true, if_false, Bool.not_true, Bool.not_false, Bool.not_eq_true, Bool.not_eq_true', decide_eq_false_iff_not, Bool.true_eq_false, eq_self, Nat.zero_add, Nat.add_zero, load_box, get0, get1, get2, get3, yl_some, e1, e2, flip_ok hi.hs (show q < 1000000000 by omega) (show (-4611686018427387904 : Int) ≤ 4 by omega) (show (4 : Int) < 4611686018427387904 by omega)]
    have hi1 := hi.flip
    have st1 : Stay L b H (H.set b (stB zs (q + 1))) := .set
    have htake : (p.take (n + 1)).map (fun j => others.getD j []) = (p.take n).map (fun j => others.getD j []) ++ [others[p[n]]] := by
      rw [List.take_succ_eq_append_getElem hn, List.map_append]
      simp [List.getD_eq_getElem?_getD, List.getElem?_eq_getElem hpn]
    by_cases hz : nx zs q 4 = 0
    · simp only [hz, obind, condK_bool, gB_bool, bin_lss, bin_leq, bin_gtr, bin_geq, bin_eql, bin_neq, str_eql, str_neq, un_not, ext0, ext1, ext2, nilc_ptr, nilc_vptr, fa_ptr, fa_vptr0, load_vptr, len_vslice, len_slice, len_nil, len_str, decide_eq_true_eq, Bool.false_eq_true, if_true, if_false, Bool.not_true, Bool.not_false, Bool.not_eq_true, Bool.not_eq_true', decide_eq_false_iff_not, Bool.true_eq_false, eq_self, Nat.zero_add, Nat.add_zero, load_box, get0, get1, get2, get3, yl_some, not_true_eq_false]
      rw [succ64 _ _ (by omega)]
      simp only [obind, condK_bool, gB_bool, bin_lss, bin_leq, bin_gtr, bin_geq, bin_eql, bin_neq, str_eql, str_neq, un_not, ext0, ext1, ext2, nilc_ptr, nilc_vptr, fa_ptr, fa_vptr0, load_vptr, len_vslice, len_slice, len_nil, len_str, decide_eq_true_eq, Bool.false_eq_true, if_true, if_false, Bool.not_true, Bool.not_false, Bool.not_eq_true, Bool.not_eq_true', decide_eq_false_iff_not, Bool.true_eq_false, eq_self, Nat.zero_add, Nat.add_zero, load_box, get0, get1, get2, get3, yl_some]
      refine ih (n + 1) _ (q + 1) fv fr (by omega) hi1 (by rw [htake]; exact hsub.trans (List.sublist_append_left _ _)) (by omega) fun H' fv' fr' i' s' t' => ?_
      exact hk H' fv' fr' (by rw [show q + (m + 1) = q + 1 + m by omega]; exact i') s' (st1.trans t')
    · simp only [hz, obind, condK_bool, gB_bool, bin_lss, bin_leq, bin_gtr, bin_geq, bin_eql, bin_neq, str_eql, str_neq, un_not, ext0, ext1, ext2, nilc_ptr, nilc_vptr, fa_ptr, fa_vptr0, load_vptr, len_vslice, len_slice, len_nil, len_str, decide_eq_true_eq, Bool.false_eq_true, if_true, if_false, Bool.not_true, Bool.not_false, Bool.not_eq_true, Bool.not_eq_true', decide_eq_false_iff_not, Bool.true_eq_false, eq_self, Nat.zero_add, Nat.add_zero, load_box, get0, get1, get2, get3, yl_some, not_false_eq_true]
      have l1 : loadAV (H.set b (stB zs (q + 1))) none (.ptr bx 0 1) = some fv := load_ptr hi1.hbx rfl rfl
      simp only [l1, obind, condK_bool, gB_bool, bin_lss, bin_leq, bin_gtr, bin_geq, bin_eql, bin_neq, str_eql, str_neq, un_not, ext0, ext1, ext2, nilc_ptr, nilc_vptr, fa_ptr, fa_vptr0, load_vptr, len_vslice, len_slice, len_nil, len_str, decide_eq_true_eq, Bool.false_eq_true, if_true, if_false, Bool.not_true, Bool.not_false, Bool.not_eq_true, Bool.not_eq_true', decide_eq_false_iff_not, Bool.true_eq_false, eq_self, Nat.zero_add, Nat.add_zero, load_box, get0, get1, get2, get3, yl_some]
      rw [index_S hpn]
      simp only [obind, condK_bool, gB_bool, bin_lss, bin_leq, bin_gtr, bin_geq, bin_eql, bin_neq, str_eql, str_neq, un_not, ext0, ext1, ext2, nilc_ptr, nilc_vptr, fa_ptr, fa_vptr0, load_vptr, len_vslice, len_slice, len_nil, len_str, decide_eq_true_eq, Bool.false_eq_true, if_true, if_false, Bool.not_true, Bool.not_false, Bool.not_eq_true, Bool.not_eq_true', decide_eq_false_iff_not, Bool.true_eq_false, eq_self, Nat.zero_add, Nat.add_zero, load_box, get0, get1, get2, get3, yl_some, lit_str]
      have hfl : fr.length ≤ 1000 := by have := hsub.length_le; simp at this; omega
      obtain ⟨fv2, H2, h1, h2, h3⟩ := append_own (y := .vslice [.str others[p[n]]]) (xs := [.str others[p[n]]]) (bytes := 16) hi1.hf (elems_vslice _ _) rfl rfl (by omega) (by simp [strA]; omega)
      rw [h1]
      obtain ⟨g1, g2⟩ := h3.lo hi1.fL hi1.len
      obtain ⟨gb, gx⟩ := h3.old bx _ hi1.hbx hi1.xf
      have hc := h2.cells
      have hst : storeAV H2 1 (.ptr bx 0 1) fv2 = some (H2.set bx (.arr 2 [.agg [.str who, fv2]])) := by
        rw [store_ptr (x := fv2) (n := 1) (i := 0) (o := 1) gb rfl (by rw [hc.1]; rfl) (by rw [hc.1]; simp [hc.2]) (by simp [AV.cells]) rfl]
        simp [AV.setCells, hc.1]
      simp only [obind, condK_bool, gB_bool, bin_lss, bin_leq, bin_gtr, bin_geq, bin_eql, bin_neq, str_eql, str_neq, un_not, ext0, ext1, ext2, nilc_ptr, nilc_vptr, fa_ptr, fa_vptr0, load_vptr, len_vslice, len_slice, len_nil, len_str, decide_eq_true_eq, Bool.false_eq_true, if_true, if_false, Bool.not_true, Bool.not_false, Bool.not_eq_true, Bool.not_eq_true', decide_eq_false_iff_not, Bool.true_eq_false, eq_self, Nat.zero_add, Nat.add_zero, load_box, get0, get1, get2, get3, yl_some, hst]
      rw [succ64 _ _ (by omega)]
      simp only [obind, condK_bool, gB_bool, bin_lss, bin_leq, bin_gtr, bin_geq, bin_eql, bin_neq, str_eql, str_neq, un_not, ext0, ext1, ext2, nilc_ptr, nilc_vptr, fa_ptr, fa_vptr0, load_vptr, len_vslice, len_slice, len_nil, len_str, decide_eq_true_eq, Bool.false_eq_true, if_true, if_false, Bool.not_true, Bool.not_false, Bool.not_eq_true, Bool.not_eq_true', decide_eq_false_iff_not, Bool.true_eq_false, eq_self, Nat.zero_add, Nat.add_zero, load_box, get0, get1, get2, get3, yl_some]
      have hbl := hi.bL
      have hxl := hi.xL
      have hstr : strA fr ++ [.str others[p[n]]] = strA (fr ++ [others[p[n]]]) := by simp [strA]
      have hof : Own H2 1 v26 (natI p) := hi1.ho.frame h3 fun c hc => hi1.fo c hc
      have hi2 : InS zs b bx L who v26 p (H2.set bx (.arr 2 [.agg [.str who, fv2]])) (q + 1) fv2 (fr ++ [others[p[n]]]) := by
        refine ⟨set_other _ (by omega) ?_, set_same _ gb, ?_, ?_, hi.bL, hi.xL, g1, hi.oL, gx, hi.xo, ?_, by simp; exact Nat.le_trans hi1.len h3.len⟩
        · rw [(g2 (b + 1)).old b hbl (by omega)]; exact hi1.hs
        · rw [← hstr]; exact h2.stay (L := H2.length) .set fun c hc => ⟨h2.block hc, fun e => gx (e ▸ hc)⟩
        · exact hof.stay (L := H2.length) .set fun c hc => ⟨hof.block hc, fun e => hi.xo (e ▸ hc)⟩
        · intro c hc
          obtain ⟨k, hk⟩ : ∃ k, (H.set b (stB zs (q + 1)))[c]? = some k := ⟨_, List.getElem?_eq_getElem (hi1.ho.block hc)⟩
          exact (h3.old c k hk (hi1.fo c hc)).2
      refine ih (n + 1) _ (q + 1) fv2 _ (by omega) hi2 (by rw [htake]; exact hsub.append (List.Sublist.refl _)) (by omega) fun H' fv' fr' i' s' t' => ?_
      exact hk H' fv' fr' (by rw [show q + (m + 1) = q + 1 + m by omega]; exact i') s' (((st1.trans (g2 b)).trans (.set' hxl)).trans t')

/-- Wishes as they lie in the heap. -/
structure OutS (L : Nat) (H : Heap) (v : AV) (l : List (W × AV)) : Prop where
  own : Own H 2 v (l.map fun p => .agg [.str p.1.who, p.2])
  lo : Lo L v
  els : ∀ p ∈ l, Own H 1 p.2 (strA p.1.fr) ∧ Lo L p.2 ∧ ∀ c, p.2.blockOf = some c → v.blockOf ≠ some c

theorem OutS.stay {L K b : Nat} {H H' : Heap} {v : AV} {l : List (W × AV)} (h : OutS L H v l) (s : Stay K b H H') (hK : H.length ≤ K) (hb : b < L) : OutS L H' v l := by
  refine ⟨h.own.stay s fun c hc => ⟨?_, ?_⟩, h.lo, fun p hp => ?_⟩
  · have := h.own.block hc; omega
  · have := h.lo c hc; omega
  · obtain ⟨h1, h2, h3⟩ := h.els p hp
    refine ⟨h1.stay s fun c hc => ⟨?_, ?_⟩, h2, h3⟩
    · have := h1.block hc; omega
    · have := h2 c hc; omega

structure RW (whos others : List Str) (l : List W) : Prop where
  who : (l.map W.who).Sublist whos
  fr : ∀ w ∈ l, w.fr.Nodup ∧ ∀ s ∈ w.fr, s ∈ others

theorem build_W (s : Str) : buildAV [.str [], .nilslice] [(0, 1, .str s)] = some (.agg [.str s, .nilslice]) := (rfl)
theorem lit_own2 (H : Heap) (z a b : AV) (ha : a.storable = true) (hb : b.storable = true) : litAV 2 [z] [(0, .agg [a, b])] true H = some (.slice H.length 0 1, H ++ [.arr 2 [.agg [a, b]]]) := by
  simp [litAV, fillLit, AV.cells, ha, hb]
theorem allSz2 {a b : AV} (ha : a.storable = true) (hb : b.storable = true) : allSz 2 [.agg [a, b]] = true := by simp [allSz, AV.cells, ha, hb]
theorem elems_own2 (H : Heap) (e : AV) : elems (H ++ [.arr 2 [e]]) (.slice H.length 0 1) = some [e] := by
  simp [elems, app_get0]

theorem map_nodup {others : List Str} (hnd : others.Nodup) {p : List Nat} (hp : Dist others.length p) : (p.map fun j => others.getD j []).Nodup ∧ ∀ s ∈ p.map (fun j => others.getD j []), s ∈ others := by
  constructor
  · refine List.pairwise_map.2 (hp.nd.imp_of_mem fun {a c} ha hc hne => ?_)
    have h1 := hp.lt a ha
    have h2 := hp.lt c hc
    simp only [List.getD_eq_getElem?_getD, List.getElem?_eq_getElem h1, List.getElem?_eq_getElem h2, Option.getD_some]
    have hnd' := List.pairwise_iff_getElem.1 hnd
    rcases Nat.lt_or_gt_of_ne hne with h | h
    · exact hnd' a c h1 h2 h
    · exact (hnd' c a h2 h1 h).symm
  · intro s hs
    obtain ⟨j, hj, rfl⟩ := List.mem_map.1 hs
    have h1 := hp.lt j hj
    rw [List.getD_eq_getElem?_getD, List.getElem?_eq_getElem h1]
    exact List.getElem_mem h1

theorem wish_out {whos others : List Str} (hw : whos.length ≤ 1000) (hot : others.length ≤ 1000) (hnd : others.Nodup) {zs : List Int} {b L : Nat} (hb : b < L) {k0 : AV → Heap → Option (AV × Heap)} {Q : AV → Heap → Prop} (m : Nat) :
    ∀ (n : Nat) (H : Heap) (q : Nat) (v7 : AV) (l : List (W × AV)), m + n = whos.length → H[b]? = some (stB zs q) → L ≤ H.length → OutS L H v7 l → RW (whos.take n) others (l.map (·.1)) → q + m * (2 * others.length + 1) < 1000000000 →
    (∀ H' q' v' l', H'[b]? = some (stB zs q') → q' ≤ q + m * (2 * others.length + 1) → OutS L H' v' l' → RW whos others (l'.map (·.1)) → Stay L b H H' → Yl (k0 v' H') Q) →
    Yl (l_jitmake_Stream_RightWishes_1 (.ptr b 0 0) (encL others) v7 (encL whos) (I whos.length) (I n) H k0) Q := by
  induction m with
  | zero =>
    intro n H q v7 l hm hs hL ho hr hq hk
    refine l_jitmake_Stream_RightWishes_1_s _ _ _ _ _ _ _ _ ?_
    simp only [obind, condK_bool, gB_bool, bin_lss, bin_leq, bin_gtr, bin_geq, bin_eql, bin_neq, str_eql, str_neq, un_not, ext0, ext1, ext2, nilc_ptr, nilc_vptr, fa_ptr, fa_vptr0, load_vptr, len_vslice, len_slice, len_nil, len_str, decide_eq_true_eq, Bool.false_eq_true, if_true, if_false, Bool.not_true, Bool.not_false, Bool.not_eq_true, Bool.not_eq_true', decide_eq_false_iff_not, Bool.true_eq_false, eq_self, Nat.zero_add, Nat.add_zero, load_box, get0, get1, get2, get3, yl_some]
    rw [if_neg (by omega)]
    rw [List.take_of_length_le (by omega)] at hr
    exact hk H q v7 l hs (by omega) ho hr (.refl _ _ _)
  | succ m ih =>
    intro n H q v7 l hm hs hL ho hr hq hk
    refine l_jitmake_Stream_RightWishes_1_s _ _ _ _ _ _ _ _ ?_
    have hn : n < whos.length := by omega
    have hmul : (m + 1) * (2 * others.length + 1) = m * (2 * others.length + 1) + (2 * others.length + 1) := by rw [Nat.add_mul]; omega
    have htake : whos.take (n + 1) = whos.take n ++ [whos[n]] := List.take_succ_eq_append_getElem hn
    simp only [obind, condK_bool, gB_bool, bin_lss, bin_leq, bin_gtr, bin_geq, bin_eql, bin_neq, str_eql, str_neq, un_not, ext0, ext1, ext2, nilc_ptr, nilc_vptr, fa_ptr, fa_vptr0, load_vptr, len_vslice, len_slice, len_nil, len_str, decide_eq_true_eq, Bool.false_eq_true, if_true, if_false, Bool.not_true, Bool.not_false, Bool.not_eq_true, Bool.not_eq_true', decide_eq_false_iff_not, Bool.true_eq_false, eq_self, Nat.zero_add, Nat.add_zero, load_box, get0, get1, get2, get3, yl_some]
    rw [if_pos (by omega), index_S hn]
    simp only [obind, condK_bool, gB_bool, bin_lss, bin_leq, bin_gtr, bin_geq, bin_eql, bin_neq, str_eql, str_neq, un_not, ext0, ext1, ext2, nilc_ptr, nilc_vptr, fa_ptr, fa_vptr0, load_vptr, len_vslice, len_slice, len_nil, len_str, decide_eq_true_eq, Bool.false_eq_true, if_true, if_false, Bool.not_true, Bool.not_false, Bool.not_eq_true, Bool.not_eq_true', decide_eq_false_iff_not, Bool.true_eq_false, eq_self, Nat.zero_add, Nat.add_zero, load_box, get0, get1, get2, get3, yl_some, flip_ok hs (show q < 1000000000 by omega) (show (-4611686018427387904 : Int) ≤ 6 by omega) (show (6 : Int) < 4611686018427387904 by omega)]
    have st1 : Stay L b H (H.set b (stB zs (q + 1))) := .set
    have st1' : Stay H.length b H (H.set b (stB zs (q + 1))) := .set
    have hs1 : (H.set b (stB zs (q + 1)))[b]? = some (stB zs (q + 1)) := set_same _ hs
    have ho1 := ho.stay st1' (Nat.le_refl _) hb
    have hlen1 : (H.set b (stB zs (q + 1))).length = H.length := by simp
    generalize H.set b (stB zs (q + 1)) = H1 at *
    by_cases hz : nx zs q 6 = 0
    · simp only [hz, obind, condK_bool, gB_bool, bin_lss, bin_leq, bin_gtr, bin_geq, bin_eql, bin_neq, str_eql, str_neq, un_not, ext0, ext1, ext2, nilc_ptr, nilc_vptr, fa_ptr, fa_vptr0, load_vptr, len_vslice, len_slice, len_nil, len_str, decide_eq_true_eq, Bool.false_eq_true, if_true, if_false, Bool.not_true, Bool.not_false, Bool.not_eq_true, Bool.not_eq_true', decide_eq_false_iff_not, Bool.true_eq_false, eq_self, Nat.zero_add, Nat.add_zero, load_box, get0, get1, get2, get3, yl_some]
      rw [succ64 _ _ (by omega)]
      simp only [obind, condK_bool, gB_bool, bin_lss, bin_leq, bin_gtr, bin_geq, bin_eql, bin_neq, str_eql, str_neq, un_not, ext0, ext1, ext2, nilc_ptr, nilc_vptr, fa_ptr, fa_vptr0, load_vptr, len_vslice, len_slice, len_nil, len_str, decide_eq_true_eq, Bool.false_eq_true, if_true, if_false, Bool.not_true, Bool.not_false, Bool.not_eq_true, Bool.not_eq_true', decide_eq_false_iff_not, Bool.true_eq_false, eq_self, Nat.zero_add, Nat.add_zero, load_box, get0, get1, get2, get3, yl_some]
      refine ih (n + 1) H1 (q + 1) v7 l (by omega) hs1 (by omega) ho1 ⟨by rw [htake]; exact hr.who.trans (List.sublist_append_left _ _), hr.fr⟩ (by omega) fun H' q' v' l' a1 a2 a3 a4 a5 => ?_
      exact hk H' q' v' l' a1 (by omega) a3 a4 (st1.trans a5)
    · simp only [hz, obind, condK_bool, gB_bool, bin_lss, bin_leq, bin_gtr, bin_geq, bin_eql, bin_neq, str_eql, str_neq, un_not, ext0, ext1, ext2, nilc_ptr, nilc_vptr, fa_ptr, fa_vptr0, load_vptr, len_vslice, len_slice, len_nil, len_str, decide_eq_true_eq, Bool.false_eq_true, if_true, if_false, Bool.not_true, Bool.not_false, Bool.not_eq_true, Bool.not_eq_true', decide_eq_false_iff_not, Bool.true_eq_false, eq_self, Nat.zero_add, Nat.add_zero, load_box, get0, get1, get2, get3, yl_some, build_W]
      rw [box_ok (by rfl) (by rfl)]
      simp only [obind, condK_bool, gB_bool, bin_lss, bin_leq, bin_gtr, bin_geq, bin_eql, bin_neq, str_eql, str_neq, un_not, ext0, ext1, ext2, nilc_ptr, nilc_vptr, fa_ptr, fa_vptr0, load_vptr, len_vslice, len_slice, len_nil, len_str, decide_eq_true_eq, Bool.false_eq_true, if_true, if_false, Bool.not_true, Bool.not_false, Bool.not_eq_true, Bool.not_eq_true', decide_eq_false_iff_not, Bool.true_eq_false, eq_self, Nat.zero_add, Nat.add_zero, load_box, get0, get1, get2, get3, yl_some]
      rw [store_box (sz := 2) (by rfl) (by rfl) (by rfl)]
      simp only [obind, condK_bool, gB_bool, bin_lss, bin_leq, bin_gtr, bin_geq, bin_eql, bin_neq, str_eql, str_neq, un_not, ext0, ext1, ext2, nilc_ptr, nilc_vptr, fa_ptr, fa_vptr0, load_vptr, len_vslice, len_slice, len_nil, len_str, decide_eq_true_eq, Bool.false_eq_true, if_true, if_false, Bool.not_true, Bool.not_false, Bool.not_eq_true, Bool.not_eq_true', decide_eq_false_iff_not, Bool.true_eq_false, eq_self, Nat.zero_add, Nat.add_zero, load_box, get0, get1, get2, get3, yl_some, len_L]
      have hs3 : (H1 ++ [Blk.arr 2 [.agg [.str whos[n], .nilslice]]])[b]? = some (stB zs (q + 1)) := app_old _ hs1
      have hx3 : (H1 ++ [Blk.arr 2 [.agg [.str whos[n], .nilslice]]])[H1.length]? = some (.arr 2 [.agg [.str whos[n], .nilslice]]) := app_get0 _ _ _
      have hl3 : (H1 ++ [Blk.arr 2 [.agg [.str whos[n], .nilslice]]]).length = H1.length + 1 := by simp
      have st3 : Stay H1.length b H1 (H1 ++ [Blk.arr 2 [.agg [.str whos[n], .nilslice]]]) := .app _ (Nat.le_refl _)
      generalize H1 ++ [Blk.arr 2 [.agg [.str whos[n], .nilslice]]] = H3 at *
      obtain ⟨v26, H4, p, h1, hp, h2, h3, h4, h5⟩ := order_ok hot hs3 (by omega)
      rw [h1]
      simp only [obind, condK_bool, gB_bool, bin_lss, bin_leq, bin_gtr, bin_geq, bin_eql, bin_neq, str_eql, str_neq, un_not, ext0, ext1, ext2, nilc_ptr, nilc_vptr, fa_ptr, fa_vptr0, load_vptr, len_vslice, len_slice, len_nil, len_str, decide_eq_true_eq, Bool.false_eq_true, if_true, if_false, Bool.not_true, Bool.not_false, Bool.not_eq_true, Bool.not_eq_true', decide_eq_false_iff_not, Bool.true_eq_false, eq_self, Nat.zero_add, Nat.add_zero, load_box, get0, get1, get2, get3, yl_some, h2.len, natI_len]
      have hlt := (List.getElem?_eq_some_iff.1 hs1).1
      have hi4 : InS zs b H1.length H1.length whos[n] v26 p H4 (q + 1 + (others.length - 1)) .nilslice [] := by
        refine ⟨h5, ?_, .nil _ _, h2, hlt, Nat.le_refl _, .nil _, h3.mono (by omega), (by intro e; cases e), ?_, (by intro c hc e; cases e), ?_⟩
        · rw [h4.old _ (by omega) (by omega)]; exact hx3
        · intro e; have := h3 _ e; omega
        · have := h4.len; omega
      refine wish_in hot hp p.length 0 H4 _ .nilslice [] (by omega) hi4 (by simp) (by have := hp.len; omega) fun H9 fv fr hi9 hsub st9 => ?_
      have hmm := map_nodup hnd hp
      have hfc := hi9.hf.cells
      have hld : loadAV H9 (some 2) (.ptr H1.length 0 0) = some (.agg [.str whos[n], fv]) := load_ptr hi9.hbx rfl rfl
      rw [hld, obind, lit_own2 _ _ _ _ rfl hfc.2]
      simp only [obind, condK_bool, gB_bool, bin_lss, bin_leq, bin_gtr, bin_geq, bin_eql, bin_neq, str_eql, str_neq, un_not, ext0, ext1, ext2, nilc_ptr, nilc_vptr, fa_ptr, fa_vptr0, load_vptr, len_vslice, len_slice, len_nil, len_str, decide_eq_true_eq, Bool.false_eq_true, if_true, if_false, Bool.not_true, Bool.not_false, Bool.not_eq_true, Bool.not_eq_true', decide_eq_false_iff_not, Bool.true_eq_false, eq_self, Nat.zero_add, Nat.add_zero, load_box, get0, get1, get2, get3, yl_some]
      have stA : Stay H1.length b H1 H9 := (st3.trans (h4.mono (by omega))).trans st9
      have ho9 := ho1.stay stA (Nat.le_refl _) hb
      have ho10 : OutS L (H9 ++ [Blk.arr 2 [.agg [.str whos[n], fv]]]) v7 l := ho9.stay (.app _ (Nat.le_refl _)) (Nat.le_refl _) hb
      have hll : l.length ≤ 1000 := by
        have := hr.who.length_le
        simp at this; omega
      obtain ⟨v', H11, e1, e2, e3⟩ := append_own (bytes := 40) ho10.own (elems_own2 H9 (.agg [.str whos[n], fv])) (allSz2 rfl hfc.2) rfl (by omega) (by simp; omega)
      rw [e1]
      simp only [obind, condK_bool, gB_bool, bin_lss, bin_leq, bin_gtr, bin_geq, bin_eql, bin_neq, str_eql, str_neq, un_not, ext0, ext1, ext2, nilc_ptr, nilc_vptr, fa_ptr, fa_vptr0, load_vptr, len_vslice, len_slice, len_nil, len_str, decide_eq_true_eq, Bool.false_eq_true, if_true, if_false, Bool.not_true, Bool.not_false, Bool.not_eq_true, Bool.not_eq_true', decide_eq_false_iff_not, Bool.true_eq_false, eq_self, Nat.zero_add, Nat.add_zero, load_box, get0, get1, get2, get3, yl_some]
      rw [succ64 _ _ (by omega)]
      simp only [obind, condK_bool, gB_bool, bin_lss, bin_leq, bin_gtr, bin_geq, bin_eql, bin_neq, str_eql, str_neq, un_not, ext0, ext1, ext2, nilc_ptr, nilc_vptr, fa_ptr, fa_vptr0, load_vptr, len_vslice, len_slice, len_nil, len_str, decide_eq_true_eq, Bool.false_eq_true, if_true, if_false, Bool.not_true, Bool.not_false, Bool.not_eq_true, Bool.not_eq_true', decide_eq_false_iff_not, Bool.true_eq_false, eq_self, Nat.zero_add, Nat.add_zero, load_box, get0, get1, get2, get3, yl_some]
      have hH9 : H1.length ≤ H9.length := stA.len
      obtain ⟨g1, g2⟩ := e3.lo ho10.lo (by simp; omega)
      have hf10 : Own (H9 ++ [Blk.arr 2 [.agg [.str whos[n], fv]]]) 1 fv (strA fr) := hi9.hf.stay (L := H9.length) (b := b) (.app _ (Nat.le_refl _)) fun c hc => ⟨hi9.hf.block hc, by have := hi9.fL c hc; omega⟩
      have hv7 : ∀ c, v7.blockOf = some c → c < H1.length := fun c hc => ho1.own.block hc
      have hs9 : (H9 ++ [Blk.arr 2 [.agg [.str whos[n], fv]]])[b]? = some (stB zs (q + 1 + (others.length - 1) + p.length)) := app_old _ hi9.hs
      have hplen := hp.len
      have hnew : OutS L H11 v' (l ++ [(⟨whos[n], fr⟩, fv)]) := by
        refine ⟨by rw [List.map_append]; exact e2, g1, fun x hx => ?_⟩
        rw [List.mem_append, List.mem_singleton] at hx
        rcases hx with hx | rfl
        · obtain ⟨a1, a2, a3⟩ := ho10.els x hx
          refine ⟨a1.frame e3 a3, a2, fun c hc => ?_⟩
          exact (e3.old c _ (List.getElem?_eq_getElem (a1.block hc)) (a3 c hc)).2
        · have hne : ∀ c, fv.blockOf = some c → v7.blockOf ≠ some c := fun c hc e => by have := hi9.fL c hc; have := hv7 c e; omega
          refine ⟨hf10.frame e3 hne, hi9.fL.mono (by omega), fun c hc => ?_⟩
          exact (e3.old c _ (List.getElem?_eq_getElem (hf10.block hc)) (hne c hc)).2
      have hr' : RW (whos.take (n + 1)) others ((l ++ [((⟨whos[n], fr⟩ : W), fv)]).map (·.1)) := by
        constructor
        · rw [htake, List.map_append, List.map_append]
          exact hr.who.append (List.Sublist.refl _)
        · intro w hw'
          rw [List.map_append, List.mem_append] at hw'
          rcases hw' with hw' | hw'
          · exact hr.fr w hw'
          · simp at hw'; subst hw'
            exact ⟨hmm.1.sublist hsub, fun s hs => hmm.2 s (hsub.subset hs)⟩
      refine ih (n + 1) H11 _ v' _ (by omega) (by rw [(g2 (b + 1)).old b hb (by omega)]; exact hs9) (by have := e3.len; simp at this; omega) hnew hr' (by omega) fun H' q' v'' l' a1 a2 a3 a4 a5 => ?_
      refine hk H' q' v'' l' a1 (by omega) a3 a4 ?_
      exact (((st1.trans (stA.mono (by omega))).trans ((Stay.app _ (Nat.le_refl _) : Stay H9.length b H9 (H9 ++ [Blk.arr 2 [.agg [.str whos[n], fv]]])).mono (by omega))).trans (g2 b)).trans a5

theorem mapM_map' {α β : Type} {f : α → β} {g : β → Option AV} {h : α → AV} : ∀ {l : List α}, (∀ a ∈ l, g (f a) = some (h a)) → (l.map f).mapM g = some (l.map h)
  | [], _ => rfl
  | a :: l, hl => by
    rw [List.map_cons, List.mapM_cons, hl a (by simp), mapM_map' fun b hb => hl b (by simp [hb])]
    rfl

theorem snap_strA (H : Heap) (k : Nat) (l : List Str) : (strA l).mapM (X.snap H (k + 1)) = some (strA l) := by
  refine mapM_id fun a ha => ?_
  obtain ⟨s, _, rfl⟩ := List.mem_map.1 ha
  rfl

theorem above_strA (H : Heap) (n k : Nat) (l : List Str) : (strA l).all (X.above H n (k + 1)) = true := by
  refine List.all_eq_true.2 fun a ha => ?_
  obtain ⟨s, _, rfl⟩ := List.mem_map.1 ha
  rfl

theorem OutS.snap {L : Nat} {H : Heap} {v : AV} {l : List (W × AV)} (h : OutS L H v l) : X.snap H deep v = some (encWs (l.map (·.1))) := by
  have := h.own.snapK (k := 11) (l' := l.map fun p => encW p.1) (mapM_map' fun p hp => ?_)
  · rw [encWs, List.map_map]; exact this
  · obtain ⟨h1, _, _⟩ := h.els p hp
    have hf := h1.snapK (k := 9) (snap_strA H 8 _)
    rw [X.snap]
    simp only [List.mapM_cons, List.mapM_nil, hf]
    rfl

theorem OutS.above {L : Nat} {H : Heap} {v : AV} {l : List (W × AV)} (h : OutS L H v l) : X.above H L deep v = true := by
  refine h.own.aboveK (k := 11) h.lo (List.all_eq_true.2 fun a ha => ?_)
  obtain ⟨p, hp, rfl⟩ := List.mem_map.1 ha
  obtain ⟨h1, h2, _⟩ := h.els p hp
  have hf := h1.aboveK (k := 9) h2 (above_strA H L 8 _)
  rw [X.above]
  simp only [List.all_cons, List.all_nil, hf, Bool.and_true]
  rfl

/-- In a heap that holds a stream alone. -/
theorem wishes_cut {whos others : List Str} (hw : whos.length ≤ 1000) (hot : others.length ≤ 1000) (hnd : others.Nodup) {zs : List Int} {q : Nat} (hq : q + whos.length * (2 * others.length + 1) < 1000000000) :
    ∃ l q', cutCall (R prog) f_jitmake_Stream_RightWishes [.ptr 0 0 0, encL whos, encL others] [stB zs q] = some (encWs l, [stB zs q']) ∧ RW whos others l ∧ q' ≤ q + whos.length * (2 * others.length + 1) := by
  suffices h : Yl (R prog f_jitmake_Stream_RightWishes [.ptr 0 0 0, encL whos, encL others] [stB zs q]) fun v H' => ∃ l q', H'[0]? = some (stB zs q') ∧ q' ≤ q + whos.length * (2 * others.length + 1) ∧ OutS 1 H' v l ∧ RW whos others (l.map (·.1)) by
    obtain ⟨v, H', h1, l, q', h2, h3, h4, h5⟩ := h
    refine ⟨l.map (·.1), q', ?_, h5, h3⟩
    have ht : H'.take 1 = [stB zs q'] := by
      cases H' with
      | nil => simp at h2
      | cons k H' => simp at h2; simp [h2]
    have hl : 1 ≤ H'.length := (List.getElem?_eq_some_iff.1 h2).1
    simp only [cutCall, h1, obind, List.length_singleton, ht, h4.above, h4.snap, Nat.ble_eq_true_of_le hl, Bool.true_and, Bool.and_true]
    rfl
  refine r_jitmake_Stream_RightWishes _ _ _ _ ?_
  simp only [obind, condK_bool, gB_bool, bin_lss, bin_leq, bin_gtr, bin_geq, bin_eql, bin_neq, str_eql, str_neq, un_not, ext0, ext1, ext2, nilc_ptr, nilc_vptr, fa_ptr, fa_vptr0, load_vptr, len_vslice, len_slice, len_nil, len_str, decide_eq_true_eq, Bool.false_eq_true, if_true, if_false, Bool.not_true, Bool.not_false, Bool.not_eq_true, Bool.not_eq_true', decide_eq_false_iff_not, Bool.true_eq_false, eq_self, Nat.zero_add, Nat.add_zero, load_box, get0, get1, get2, get3, yl_some, len_L]
  refine wish_out hw hot hnd (L := 1) (b := 0) (by omega) whos.length 0 [stB zs q] q .nilslice [] (by omega) rfl (by simp) ⟨.nil _ _, .nil _, by simp⟩ ⟨by simp, by simp⟩ hq fun H' q' v' l' a1 a2 a3 a4 a5 => ?_
  exact yl_some.2 ⟨l', q', a1, a2, a3, a4⟩
end Y
end Go.Proofs.YtkaigfcjejabfaaGreatDoor
