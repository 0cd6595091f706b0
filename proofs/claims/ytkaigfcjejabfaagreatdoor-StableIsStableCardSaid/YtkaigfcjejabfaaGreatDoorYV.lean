/- How Stable goes on until nobody asks any more. No condition. -/
import Derived.Test.YtkaigfcjejabfaaGreatDoorYT
import Derived.Test.YtkaigfcjejabfaaGreatDoorYU
import Derived.Test.YtkaigfcjejabfaaGreatDoorYP
import Derived.Test.YtkaigfcjejabfaaGreatDoorYM0
set_option linter.unusedSimpArgs false
set_option linter.unusedVariables false
namespace Go.Proofs.YtkaigfcjejabfaaGreatDoor
open Go
namespace Y
open X

def prefOf (l : List W) : Pref := fun s => (look s (tabOf l)).getD []
def frOf (l : List W) (i : Nat) : List Str := (l[i]?.map W.fr).getD []
def whoOf (l : List W) (i : Nat) : Str := (l[i]?.map W.who).getD []
def natA (i : Nat) : AV := I (i : Int)

theorem frOf_get {l : List W} {i : Nat} (h : i < l.length) : frOf l i = l[i].fr := by simp [frOf, List.getElem?_eq_getElem h]
theorem whoOf_get {l : List W} {i : Nat} (h : i < l.length) : whoOf l i = l[i].who := by simp [whoOf, List.getElem?_eq_getElem h]

theorem sum_lt {g g' : Nat → Nat} (hle : ∀ j, g' j ≤ g j) {i : Nat} (hi : g' i < g i) : ∀ n, i < n → ((List.range n).map g').sum < ((List.range n).map g).sum := by
  have hall : ∀ n, ((List.range n).map g').sum ≤ ((List.range n).map g).sum := by
    intro n
    induction n with
    | zero => simp
    | succ n ih => rw [List.range_succ]; simp only [List.map_append, List.map_cons, List.map_nil, List.sum_append, List.sum_cons, List.sum_nil]; have := hle n; omega
  intro n
  induction n with
  | zero => intro h; omega
  | succ n ih =>
    intro h
    rw [List.range_succ]
    simp only [List.map_append, List.map_cons, List.map_nil, List.sum_append, List.sum_cons, List.sum_nil]
    by_cases e : i = n
    · subst e; have := hall i; omega
    · have := ih (by omega); have := hle n; omega

def left (l : List W) (asked : List Nat) : Nat := ((List.range l.length).map fun i => (frOf l i).length - asked.getD i 0).sum

theorem left_lt {l : List W} {asked : List Nat} {i a : Nat} (hi : i < l.length) (ha : asked[i]? = some a) (hlt : a < (frOf l i).length) : left l (asked.set i (a + 1)) < left l asked := by
  have hil := (List.getElem?_eq_some_iff.1 ha).1
  refine sum_lt (i := i) (fun j => ?_) ?_ _ hi
  · simp only [List.getD_eq_getElem?_getD, List.getElem?_set]
    split
    · rename_i e; subst e; rw [ha]; simp [hil]; omega
    · omega
  · simp only [List.getD_eq_getElem?_getD, List.getElem?_set, if_pos, hil, ha, Option.getD_some]
    omega

/-- What lies in the heap meanwhile. -/
structure DA (H : Heap) (bm : Nat) (v9 v10 : AV) (hs : Tab Nat) (asked free : List Nat) : Prop where
  hm : H[bm]? = some (.map (tks hs) (tvs natA hs))
  ha : Own H 1 v9 (natI asked)
  hf : Own H 1 v10 (natI free)
  d1 : v9.blockOf ≠ some bm
  d2 : v10.blockOf ≠ some bm
  d3 : ∀ c, v9.blockOf = some c → v10.blockOf ≠ some c

theorem DA.ask {H : Heap} {bm : Nat} {v9 v10 : AV} {hs : Tab Nat} {asked free : List Nat} (h : DA H bm v9 v10 hs asked free) {i : Nat} (hi : i < asked.length) (a : Nat) :
    ∃ p H', indexV H 1 v9 (I (i : Int)) = some p ∧ storeAV H 1 p (I (a : Int)) = some H' ∧ DA H' bm v9 v10 hs (asked.set i a) free := by
  obtain ⟨p, H', h1, h2, h3, h4, h5⟩ := h.ha.storeN hi a
  refine ⟨p, H', h1, h2, (h4.old bm _ h.hm h.d1).1, h3, h.hf.frame h4 fun c hc e => h.d3 c e hc, h.d1, h.d2, h.d3⟩

theorem DA.put {H : Heap} {bm : Nat} {v9 v10 : AV} {hs : Tab Nat} {asked free : List Nat} (h : DA H bm v9 v10 hs asked free) (c : Str) (i : Nat) :
    ∃ H', mapUpdateAV H (.one .str) (.map bm) (.str c) (I (i : Int)) = some H' ∧ DA H' bm v9 v10 (upd c i hs) asked free := by
  refine ⟨_, update_map natA c i h.hm, set_same _ h.hm, h.ha.stay (L := H.length) .set fun d hd => ⟨h.ha.block hd, fun e => h.d1 (e ▸ hd)⟩, h.hf.stay (L := H.length) .set fun d hd => ⟨h.hf.block hd, fun e => h.d2 (e ▸ hd)⟩, h.d1, h.d2, h.d3⟩

theorem DA.last {H : Heap} {bm : Nat} {v9 v10 : AV} {hs : Tab Nat} {asked f : List Nat} {i : Nat} (h : DA H bm v9 v10 hs asked (f ++ [i])) (j : Nat) :
    ∃ p H', indexV H 1 v10 (I (f.length : Int)) = some p ∧ storeAV H 1 p (I (j : Int)) = some H' ∧ DA H' bm v9 v10 hs asked (f ++ [j]) := by
  obtain ⟨p, H', h1, h2, h3, h4, h5⟩ := h.hf.storeN (n := f.length) (by simp) j
  rw [List.set_append_right _ _ (by omega)] at h3
  simp only [Nat.sub_self, List.set_cons_zero] at h3
  refine ⟨p, H', h1, h2, (h4.old bm _ h.hm h.d2).1, h.ha.frame h4 fun c hc => h.d3 c hc, h3, h.d1, h.d2, h.d3⟩

theorem DA.pop {H : Heap} {bm : Nat} {v9 v10 : AV} {hs : Tab Nat} {asked f : List Nat} {i : Nat} (h : DA H bm v9 v10 hs asked (f ++ [i])) :
    ∃ v, sliceSlAV H 1 v10 none (some (I (f.length : Int))) = some v ∧ DA H bm v9 v hs asked f := by
  obtain ⟨v, h1, h2, h3⟩ := h.hf.take (n := f.length) (by simp [natI])
  have : (natI (f ++ [i])).take f.length = natI f := by simp [natI]
  rw [this] at h2
  exact ⟨v, h1, h.hm, h.ha, h2, h.d1, fun e => h.d2 (h3 _ e), fun c hc e => h.d3 c hc (h3 _ e)⟩

theorem natA_get (o : Option Nat) : (o.map natA).getD (I 0) = I ((o.getD 0 : Nat) : Int) := by cases o <;> rfl

theorem likes_iff {l : List Str} {x y : Str} (hy : y ∈ l) : likes l x y = true ↔ Bef l x y := by
  unfold likes Bef
  rw [Bool.and_eq_true, Bool.or_eq_true, decide_eq_true_eq, decide_eq_true_eq, decide_eq_true_eq, ixi_nonneg]
  have := ixi_nonneg.2 hy
  constructor
  · rintro ⟨h1, h2 | h2⟩
    · omega
    · exact ⟨h1, hy, h2⟩
  · rintro ⟨h1, _, h2⟩; exact ⟨h1, .inr h2⟩

theorem prefOf_get {l : List W} (h : OkW l) {i : Nat} (hi : i < l.length) : prefOf l (whoOf l i) = frOf l i := by
  have hk : (tabOf l).Pairwise fun p q => p.1 ≠ q.1 := List.pairwise_map.2 (h.ord.imp fun hab => lt_ne hab)
  have hm : (l[i].who, l[i].fr) ∈ tabOf l := List.mem_map.2 ⟨l[i], List.getElem_mem hi, rfl⟩
  rw [whoOf_get hi, frOf_get hi, prefOf, look_of_mem hk hm]
  rfl

theorem pref_few {l : List W} (h : OkW l) (s : Str) : ((look s (tabOf l)).getD []).length ≤ 100 := by
  cases hl : look s (tabOf l) with
  | none => simp
  | some f =>
    obtain ⟨w, hw, _, rfl⟩ := look_tabOf hl
    exact h.few w hw

theorem hF_of {l : List W} (h : OkW l) : ∀ i, i < l.length → prefOf l (whoOf l i) = frOf l i ∧ (frOf l i).Nodup := by
  intro i hi
  refine ⟨prefOf_get h hi, ?_⟩
  rw [frOf_get hi]
  exact h.nd _ (List.getElem_mem hi)

theorem stable_loop {cars rides : List W} (hc : OkW cars) (hr : OkW rides) {bm : Nat} {v9 : AV} {k2 : AV → AV → Heap → Option (AV × Heap)} {Q : AV → Heap → Prop}
    (hk : ∀ H hs asked, Inv rides.length (frOf rides) (whoOf rides) (prefOf cars) (prefOf rides) hs asked [] → H[bm]? = some (.map (tks hs) (tvs natA hs)) → Yl (k2 (encWs rides) (.map bm) H) Q) (N : Nat) (hNb : N ≤ 100000) :
    ∀ (hs : Tab Nat) (asked free : List Nat) (H : Heap) (v10 : AV), left rides asked + free.length < N → Inv rides.length (frOf rides) (whoOf rides) (prefOf cars) (prefOf rides) hs asked free → DA H bm v9 v10 hs asked free →
    Yl (l_match_Stable_1 (encWs rides) (.vmap (tks (tabOf cars)) (tvs encL (tabOf cars))) (.map bm) v9 v10 H k2) Q := by
  have hrl := hr.len
  have hF := hF_of hr
  induction N with
  | zero => intro hs asked free H v10 hN; omega
  | succ N ih =>
    intro hs asked free H v10 hN hi hd
    refine l_match_Stable_1_s _ _ _ _ _ _ _ ?_
    rw [hd.hf.len]
    simp only [obind, condK_bool, gB_bool, bin_lss, bin_leq, bin_gtr, bin_geq, bin_eql, bin_neq, str_eql, str_neq, un_not, ext0, ext1, ext2, nilc_ptr, nilc_vptr, fa_ptr, fa_vptr0, load_vptr, len_vslice, len_slice, len_nil, len_str, decide_eq_true_eq, Bool.false_eq_true, if_true, if_false, Bool.not_true, Bool.not_false, Bool.not_eq_true, Bool.not_eq_true', decide_eq_false_iff_not, Bool.true_eq_false, eq_self, Nat.zero_add, Nat.add_zero, load_box, get0, get1, get2, get3, yl_some, natI_len]
    rcases List.eq_nil_or_concat free with rfl | ⟨f, i, hfi⟩
    · rw [if_neg (by simp)]
      exact hk H hs asked hi hd.hm
    · rw [List.concat_eq_append] at hfi
      subst hfi
      have hfl : f.length ≤ 100000 := by simp at hN; omega
      have hlen : (f ++ [i]).length = f.length + 1 := by simp
      rw [if_pos (by rw [hlen]; omega), hlen, pred64 _ _ (by omega) (by omega)]
      simp only [obind, condK_bool, gB_bool, bin_lss, bin_leq, bin_gtr, bin_geq, bin_eql, bin_neq, str_eql, str_neq, un_not, ext0, ext1, ext2, nilc_ptr, nilc_vptr, fa_ptr, fa_vptr0, load_vptr, len_vslice, len_slice, len_nil, len_str, decide_eq_true_eq, Bool.false_eq_true, if_true, if_false, Bool.not_true, Bool.not_false, Bool.not_eq_true, Bool.not_eq_true', decide_eq_false_iff_not, Bool.true_eq_false, eq_self, Nat.zero_add, Nat.add_zero, load_box, get0, get1, get2, get3, yl_some, Nat.add_sub_cancel]
      obtain ⟨p, e1, e2⟩ := hd.hf.loadN (n := f.length) (by simp)
      have hgi : (f ++ [i])[f.length]'(by simp) = i := by simp
      rw [hgi] at e2
      have hin : i < rides.length := hi.fn i (by simp)
      have hia : i < asked.length := by rw [hi.la]; exact hin
      obtain ⟨q, e3, e4⟩ := hd.ha.loadN hia
      have hfr := hr.few _ (List.getElem_mem hin)
      simp only [e1, e2, e3, e4, obind, condK_bool, gB_bool, bin_lss, bin_leq, bin_gtr, bin_geq, bin_eql, bin_neq, str_eql, str_neq, un_not, ext0, ext1, ext2, nilc_ptr, nilc_vptr, fa_ptr, fa_vptr0, load_vptr, len_vslice, len_slice, len_nil, len_str, decide_eq_true_eq, Bool.false_eq_true, if_true, if_false, Bool.not_true, Bool.not_false, Bool.not_eq_true, Bool.not_eq_true', decide_eq_false_iff_not, Bool.true_eq_false, eq_self, Nat.zero_add, Nat.add_zero, load_box, get0, get1, get2, get3, yl_some]
      rw [index_W hin]
      have ea : asked[i]? = some asked[i] := List.getElem?_eq_getElem hia
      have hle := hi.le i _ ea
      rw [frOf_get hin] at hle
      have l1 : fieldAddrAV 1 (.vptr [.str rides[i].who, encL rides[i].fr]) = some (.vptr [encL rides[i].fr]) := rfl
      simp only [obind, condK_bool, gB_bool, bin_lss, bin_leq, bin_gtr, bin_geq, bin_eql, bin_neq, str_eql, str_neq, un_not, ext0, ext1, ext2, nilc_ptr, nilc_vptr, fa_ptr, fa_vptr0, load_vptr, len_vslice, len_slice, len_nil, len_str, decide_eq_true_eq, Bool.false_eq_true, if_true, if_false, Bool.not_true, Bool.not_false, Bool.not_eq_true, Bool.not_eq_true', decide_eq_false_iff_not, Bool.true_eq_false, eq_self, Nat.zero_add, Nat.add_zero, load_box, get0, get1, get2, get3, yl_some, l1, len_L]
      by_cases hend : (asked[i] : Int) = rides[i].fr.length
      · rw [if_pos hend]
        obtain ⟨v, g1, g2⟩ := hd.pop
        simp only [g1, obind, condK_bool, gB_bool, bin_lss, bin_leq, bin_gtr, bin_geq, bin_eql, bin_neq, str_eql, str_neq, un_not, ext0, ext1, ext2, nilc_ptr, nilc_vptr, fa_ptr, fa_vptr0, load_vptr, len_vslice, len_slice, len_nil, len_str, decide_eq_true_eq, Bool.false_eq_true, if_true, if_false, Bool.not_true, Bool.not_false, Bool.not_eq_true, Bool.not_eq_true', decide_eq_false_iff_not, Bool.true_eq_false, eq_self, Nat.zero_add, Nat.add_zero, load_box, get0, get1, get2, get3, yl_some]
        refine ih (by omega) hs asked f H v (by rw [hlen] at hN; omega) (hi.pop ?_) g2
        rw [ea, frOf_get hin]
        congr 1; omega
      · rw [if_neg hend]
        have hlt : asked[i] < rides[i].fr.length := by omega
        rw [index_S hlt]
        simp only [obind, condK_bool, gB_bool, bin_lss, bin_leq, bin_gtr, bin_geq, bin_eql, bin_neq, str_eql, str_neq, un_not, ext0, ext1, ext2, nilc_ptr, nilc_vptr, fa_ptr, fa_vptr0, load_vptr, len_vslice, len_slice, len_nil, len_str, decide_eq_true_eq, Bool.false_eq_true, if_true, if_false, Bool.not_true, Bool.not_false, Bool.not_eq_true, Bool.not_eq_true', decide_eq_false_iff_not, Bool.true_eq_false, eq_self, Nat.zero_add, Nat.add_zero, load_box, get0, get1, get2, get3, yl_some]
        rw [succ64 _ _ (by omega)]
        simp only [obind, condK_bool, gB_bool, bin_lss, bin_leq, bin_gtr, bin_geq, bin_eql, bin_neq, str_eql, str_neq, un_not, ext0, ext1, ext2, nilc_ptr, nilc_vptr, fa_ptr, fa_vptr0, load_vptr, len_vslice, len_slice, len_nil, len_str, decide_eq_true_eq, Bool.false_eq_true, if_true, if_false, Bool.not_true, Bool.not_false, Bool.not_eq_true, Bool.not_eq_true', decide_eq_false_iff_not, Bool.true_eq_false, eq_self, Nat.zero_add, Nat.add_zero, load_box, get0, get1, get2, get3, yl_some]
        obtain ⟨q', H1, g1, g2, hd1⟩ := hd.ask hia (asked[i] + 1)
        rw [show q = q' by rw [e3] at g1; exact Option.some.inj g1]
        simp only [g2, obind, condK_bool, gB_bool, bin_lss, bin_leq, bin_gtr, bin_geq, bin_eql, bin_neq, str_eql, str_neq, un_not, ext0, ext1, ext2, nilc_ptr, nilc_vptr, fa_ptr, fa_vptr0, load_vptr, len_vslice, len_slice, len_nil, len_str, decide_eq_true_eq, Bool.false_eq_true, if_true, if_false, Bool.not_true, Bool.not_false, Bool.not_eq_true, Bool.not_eq_true', decide_eq_false_iff_not, Bool.true_eq_false, eq_self, Nat.zero_add, Nat.add_zero, load_box, get0, get1, get2, get3, yl_some]
        rw [lookup_map_ok natA (I 0) _ hd1.hm]
        have hci : (frOf rides i)[asked[i]]? = some rides[i].fr[asked[i]] := by rw [frOf_get hin, List.getElem?_eq_getElem hlt]
        have hll := left_lt hin ea (by rw [frOf_get hin]; exact hlt)
        generalize rides[i].fr[asked[i]] = car at *
        have hpc : prefOf cars car = (look car (tabOf cars)).getD [] := rfl
        have hgd := getD_encL H1 (look car (tabOf cars))
        have hpf := pref_few hc car
        -- nobody's place is changed
        have hlose : (whoOf rides i ∉ prefOf cars car ∨ ∃ j, look car hs = some j ∧ Bef (prefOf cars car) (whoOf rides j) (whoOf rides i)) →
            Yl (l_match_Stable_1 (encWs rides) (.vmap (tks (tabOf cars)) (tvs encL (tabOf cars))) (.map bm) v9 v10 H1 k2) Q := fun h =>
          ih (by omega) hs _ _ H1 v10 (by omega) (hi.lose hF ea hci h) hd1
        have hwho : whoOf rides i = rides[i].who := whoOf_get hin
        simp only [obind, condK_bool, gB_bool, bin_lss, bin_leq, bin_gtr, bin_geq, bin_eql, bin_neq, str_eql, str_neq, un_not, ext0, ext1, ext2, nilc_ptr, nilc_vptr, fa_ptr, fa_vptr0, load_vptr, len_vslice, len_slice, len_nil, len_str, decide_eq_true_eq, Bool.false_eq_true, if_true, if_false, Bool.not_true, Bool.not_false, Bool.not_eq_true, Bool.not_eq_true', decide_eq_false_iff_not, Bool.true_eq_false, eq_self, Nat.zero_add, Nat.add_zero, load_box, get0, get1, get2, get3, yl_some, natA_get]
        cases hlk : look car hs with
        | none =>
          simp only [Option.isSome_none, Option.getD_none, obind, condK_bool, gB_bool, bin_lss, bin_leq, bin_gtr, bin_geq, bin_eql, bin_neq, str_eql, str_neq, un_not, ext0, ext1, ext2, nilc_ptr, nilc_vptr, fa_ptr, fa_vptr0, load_vptr, len_vslice, len_slice, len_nil, len_str, decide_eq_true_eq, Bool.false_eq_true, if_true, if_false, Bool.not_true, Bool.not_false, Bool.not_eq_true, Bool.not_eq_true', decide_eq_false_iff_not, Bool.true_eq_false, eq_self, Nat.zero_add, Nat.add_zero, load_box, get0, get1, get2, get3, yl_some, lookup_vmap]
          rw [index_W hin]
          simp only [obind, condK_bool, gB_bool, bin_lss, bin_leq, bin_gtr, bin_geq, bin_eql, bin_neq, str_eql, str_neq, un_not, ext0, ext1, ext2, nilc_ptr, nilc_vptr, fa_ptr, fa_vptr0, load_vptr, len_vslice, len_slice, len_nil, len_str, decide_eq_true_eq, Bool.false_eq_true, if_true, if_false, Bool.not_true, Bool.not_false, Bool.not_eq_true, Bool.not_eq_true', decide_eq_false_iff_not, Bool.true_eq_false, eq_self, Nat.zero_add, Nat.add_zero, load_box, get0, get1, get2, get3, yl_some]
          rw [contains_ok (l := (look car (tabOf cars)).getD []) (by omega) _ hgd.1 hgd.2]
          simp only [obind, condK_bool, gB_bool, bin_lss, bin_leq, bin_gtr, bin_geq, bin_eql, bin_neq, str_eql, str_neq, un_not, ext0, ext1, ext2, nilc_ptr, nilc_vptr, fa_ptr, fa_vptr0, load_vptr, len_vslice, len_slice, len_nil, len_str, decide_eq_true_eq, Bool.false_eq_true, if_true, if_false, Bool.not_true, Bool.not_false, Bool.not_eq_true, Bool.not_eq_true', decide_eq_false_iff_not, Bool.true_eq_false, eq_self, Nat.zero_add, Nat.add_zero, load_box, get0, get1, get2, get3, yl_some]
          unfold j_match_Stable_1
          simp only [obind, condK_bool, gB_bool, bin_lss, bin_leq, bin_gtr, bin_geq, bin_eql, bin_neq, str_eql, str_neq, un_not, ext0, ext1, ext2, nilc_ptr, nilc_vptr, fa_ptr, fa_vptr0, load_vptr, len_vslice, len_slice, len_nil, len_str, decide_eq_true_eq, Bool.false_eq_true, if_true, if_false, Bool.not_true, Bool.not_false, Bool.not_eq_true, Bool.not_eq_true', decide_eq_false_iff_not, Bool.true_eq_false, eq_self, Nat.zero_add, Nat.add_zero, load_box, get0, get1, get2, get3, yl_some]
          split
          · rename_i hm
            obtain ⟨H2, g3, hd2⟩ := hd1.put car i
            simp only [g3, obind, condK_bool, gB_bool, bin_lss, bin_leq, bin_gtr, bin_geq, bin_eql, bin_neq, str_eql, str_neq, un_not, ext0, ext1, ext2, nilc_ptr, nilc_vptr, fa_ptr, fa_vptr0, load_vptr, len_vslice, len_slice, len_nil, len_str, decide_eq_true_eq, Bool.false_eq_true, if_true, if_false, Bool.not_true, Bool.not_false, Bool.not_eq_true, Bool.not_eq_true', decide_eq_false_iff_not, Bool.true_eq_false, eq_self, Nat.zero_add, Nat.add_zero, load_box, get0, get1, get2, get3, yl_some, hd2.hf.len, natI_len, hlen]
            rw [pred64 _ _ (by omega) (by omega)]
            simp only [obind, condK_bool, gB_bool, bin_lss, bin_leq, bin_gtr, bin_geq, bin_eql, bin_neq, str_eql, str_neq, un_not, ext0, ext1, ext2, nilc_ptr, nilc_vptr, fa_ptr, fa_vptr0, load_vptr, len_vslice, len_slice, len_nil, len_str, decide_eq_true_eq, Bool.false_eq_true, if_true, if_false, Bool.not_true, Bool.not_false, Bool.not_eq_true, Bool.not_eq_true', decide_eq_false_iff_not, Bool.true_eq_false, eq_self, Nat.zero_add, Nat.add_zero, load_box, get0, get1, get2, get3, yl_some, Nat.add_sub_cancel]
            obtain ⟨v, g4, hd3⟩ := hd2.pop
            simp only [g4, obind, condK_bool, gB_bool, bin_lss, bin_leq, bin_gtr, bin_geq, bin_eql, bin_neq, str_eql, str_neq, un_not, ext0, ext1, ext2, nilc_ptr, nilc_vptr, fa_ptr, fa_vptr0, load_vptr, len_vslice, len_slice, len_nil, len_str, decide_eq_true_eq, Bool.false_eq_true, if_true, if_false, Bool.not_true, Bool.not_false, Bool.not_eq_true, Bool.not_eq_true', decide_eq_false_iff_not, Bool.true_eq_false, eq_self, Nat.zero_add, Nat.add_zero, load_box, get0, get1, get2, get3, yl_some]
            have hw := hi.win hF ea hci (by rw [hwho, hpc]; exact hm) (by rw [hlk]; intro o e; cases e)
            rw [hlk] at hw
            simp only [Option.toList_none, List.append_nil] at hw
            exact ih (by omega) _ _ f H2 v (by omega) hw hd3
          · rename_i hm
            exact hlose (.inl (by rw [hwho, hpc]; exact hm))
        | some o =>
          obtain ⟨ho1, ho2, ho3, b, ho4, ho5⟩ := hi.hv car o hlk
          simp only [Option.isSome_some, Option.getD_some, obind, condK_bool, gB_bool, bin_lss, bin_leq, bin_gtr, bin_geq, bin_eql, bin_neq, str_eql, str_neq, un_not, ext0, ext1, ext2, nilc_ptr, nilc_vptr, fa_ptr, fa_vptr0, load_vptr, len_vslice, len_slice, len_nil, len_str, decide_eq_true_eq, Bool.false_eq_true, if_true, if_false, Bool.not_true, Bool.not_false, Bool.not_eq_true, Bool.not_eq_true', decide_eq_false_iff_not, Bool.true_eq_false, eq_self, Nat.zero_add, Nat.add_zero, load_box, get0, get1, get2, get3, yl_some]
          unfold j_match_Stable_1
          simp only [obind, condK_bool, gB_bool, bin_lss, bin_leq, bin_gtr, bin_geq, bin_eql, bin_neq, str_eql, str_neq, un_not, ext0, ext1, ext2, nilc_ptr, nilc_vptr, fa_ptr, fa_vptr0, load_vptr, len_vslice, len_slice, len_nil, len_str, decide_eq_true_eq, Bool.false_eq_true, if_true, if_false, Bool.not_true, Bool.not_false, Bool.not_eq_true, Bool.not_eq_true', decide_eq_false_iff_not, Bool.true_eq_false, eq_self, Nat.zero_add, Nat.add_zero, load_box, get0, get1, get2, get3, yl_some, lookup_vmap]
          rw [index_W hin, index_W ho1]
          simp only [obind, condK_bool, gB_bool, bin_lss, bin_leq, bin_gtr, bin_geq, bin_eql, bin_neq, str_eql, str_neq, un_not, ext0, ext1, ext2, nilc_ptr, nilc_vptr, fa_ptr, fa_vptr0, load_vptr, len_vslice, len_slice, len_nil, len_str, decide_eq_true_eq, Bool.false_eq_true, if_true, if_false, Bool.not_true, Bool.not_false, Bool.not_eq_true, Bool.not_eq_true', decide_eq_false_iff_not, Bool.true_eq_false, eq_self, Nat.zero_add, Nat.add_zero, load_box, get0, get1, get2, get3, yl_some]
          rw [likes_ok (l := (look car (tabOf cars)).getD []) (by omega) _ _ hgd.1 hgd.2]
          simp only [obind, condK_bool, gB_bool, bin_lss, bin_leq, bin_gtr, bin_geq, bin_eql, bin_neq, str_eql, str_neq, un_not, ext0, ext1, ext2, nilc_ptr, nilc_vptr, fa_ptr, fa_vptr0, load_vptr, len_vslice, len_slice, len_nil, len_str, decide_eq_true_eq, Bool.false_eq_true, if_true, if_false, Bool.not_true, Bool.not_false, Bool.not_eq_true, Bool.not_eq_true', decide_eq_false_iff_not, Bool.true_eq_false, eq_self, Nat.zero_add, Nat.add_zero, load_box, get0, get1, get2, get3, yl_some]
          have hoc : rides[o].who ∈ (look car (tabOf cars)).getD [] := by rw [← whoOf_get ho1]; exact ho3
          split
          · rename_i hm
            rw [likes_iff hoc] at hm
            obtain ⟨H2, g3, hd2⟩ := hd1.put car i
            simp only [g3, obind, condK_bool, gB_bool, bin_lss, bin_leq, bin_gtr, bin_geq, bin_eql, bin_neq, str_eql, str_neq, un_not, ext0, ext1, ext2, nilc_ptr, nilc_vptr, fa_ptr, fa_vptr0, load_vptr, len_vslice, len_slice, len_nil, len_str, decide_eq_true_eq, Bool.false_eq_true, if_true, if_false, Bool.not_true, Bool.not_false, Bool.not_eq_true, Bool.not_eq_true', decide_eq_false_iff_not, Bool.true_eq_false, eq_self, Nat.zero_add, Nat.add_zero, load_box, get0, get1, get2, get3, yl_some, hd2.hf.len, natI_len, hlen]
            rw [pred64 _ _ (by omega) (by omega)]
            simp only [obind, condK_bool, gB_bool, bin_lss, bin_leq, bin_gtr, bin_geq, bin_eql, bin_neq, str_eql, str_neq, un_not, ext0, ext1, ext2, nilc_ptr, nilc_vptr, fa_ptr, fa_vptr0, load_vptr, len_vslice, len_slice, len_nil, len_str, decide_eq_true_eq, Bool.false_eq_true, if_true, if_false, Bool.not_true, Bool.not_false, Bool.not_eq_true, Bool.not_eq_true', decide_eq_false_iff_not, Bool.true_eq_false, eq_self, Nat.zero_add, Nat.add_zero, load_box, get0, get1, get2, get3, yl_some, Nat.add_sub_cancel]
            obtain ⟨p', H3, g5, g6, hd3⟩ := hd2.last o
            simp only [g5, g6, obind, condK_bool, gB_bool, bin_lss, bin_leq, bin_gtr, bin_geq, bin_eql, bin_neq, str_eql, str_neq, un_not, ext0, ext1, ext2, nilc_ptr, nilc_vptr, fa_ptr, fa_vptr0, load_vptr, len_vslice, len_slice, len_nil, len_str, decide_eq_true_eq, Bool.false_eq_true, if_true, if_false, Bool.not_true, Bool.not_false, Bool.not_eq_true, Bool.not_eq_true', decide_eq_false_iff_not, Bool.true_eq_false, eq_self, Nat.zero_add, Nat.add_zero, load_box, get0, get1, get2, get3, yl_some]
            have hw := hi.win hF ea hci (by rw [hwho, hpc]; exact hm.1) (by rw [hlk]; intro o' e; cases e; rw [hwho, whoOf_get ho1]; exact hm)
            rw [hlk] at hw
            simp only [Option.toList_some] at hw
            exact ih (by omega) _ _ _ H3 v10 (by simp at hN ⊢; omega) hw hd3
          · rename_i hm
            refine hlose ?_
            by_cases hmem : whoOf rides i ∈ prefOf cars car
            · right
              refine ⟨o, hlk, ho3, hmem, ?_⟩
              rw [Bool.not_eq_true] at hm
              have hne : i ≠ o := fun e => ho2 (by subst e; simp)
              have hwne : whoOf rides i ≠ whoOf rides o := by
                rw [hwho, whoOf_get ho1]
                have := List.pairwise_iff_getElem.1 hr.ord
                rcases Nat.lt_or_gt_of_ne hne with hlt' | hlt'
                · exact lt_ne (this i o hin ho1 hlt')
                · exact (lt_ne (this o i ho1 hin hlt')).symm
              have hnb : ¬ Bef (prefOf cars car) (whoOf rides i) (whoOf rides o) := by
                intro hb
                rw [hwho, whoOf_get ho1, hpc, ← likes_iff hoc] at hb
                rw [hb] at hm; cases hm
              have hni : ixi (whoOf rides i) (prefOf cars car) ≠ ixi (whoOf rides o) (prefOf cars car) := fun e => hwne (ixi_inj hmem e)
              by_cases hlt' : ixi (whoOf rides i) (prefOf cars car) < ixi (whoOf rides o) (prefOf cars car)
              · exact (hnb ⟨hmem, ho3, hlt'⟩).elim
              · omega
            · exact .inl hmem
end Y
end Go.Proofs.YtkaigfcjejabfaaGreatDoor
