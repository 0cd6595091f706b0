/- What Order and RightWishes hand out. No condition. -/
import Derived.Test.YtkaigfcjejabfaaGreatDoorYH
import Derived.Test.YtkaigfcjejabfaaGreatDoorYO
set_option linter.unusedSimpArgs false
set_option linter.unusedVariables false
namespace Go.Proofs.YtkaigfcjejabfaaGreatDoor
open Go
namespace Y
open X

/-- A value that lies from a bound on. -/
def Lo (n : Nat) (v : AV) : Prop := ∀ c, v.blockOf = some c → n ≤ c

theorem Lo.nil (n : Nat) : Lo n .nilslice := by intro c h; cases h
theorem Lo.mono {n m : Nat} {v : AV} (h : Lo n v) (hm : m ≤ n) : Lo m v := fun c hc => Nat.le_trans hm (h c hc)

/-- What lies below a bound, and is not this block, stays. -/
structure Stay (L b : Nat) (H H' : Heap) : Prop where
  len : H.length ≤ H'.length
  old : ∀ c, c < L → c ≠ b → H'[c]? = H[c]?

theorem Stay.refl (L b : Nat) (H : Heap) : Stay L b H H := ⟨Nat.le_refl _, fun _ _ _ => rfl⟩
theorem Stay.trans {L b : Nat} {H H' H'' : Heap} (h : Stay L b H H') (h' : Stay L b H' H'') : Stay L b H H'' :=
  ⟨Nat.le_trans h.len h'.len, fun c h1 h2 => (h'.old c h1 h2).trans (h.old c h1 h2)⟩
theorem Stay.mono {L L' b : Nat} {H H' : Heap} (h : Stay L b H H') (hl : L' ≤ L) : Stay L' b H H' := ⟨h.len, fun c h1 h2 => h.old c (Nat.lt_of_lt_of_le h1 hl) h2⟩
theorem Stay.set {L b : Nat} {H : Heap} {k : Blk} : Stay L b H (H.set b k) := ⟨by simp, fun c _ h => by rw [List.getElem?_set_ne (Ne.symm h)]⟩
theorem Stay.set' {L b c : Nat} {H : Heap} {k : Blk} (hc : L ≤ c) : Stay L b H (H.set c k) := ⟨by simp, fun d h _ => by rw [List.getElem?_set_ne (by omega)]⟩
theorem Stay.app {L b : Nat} {H : Heap} (l : List Blk) (hl : L ≤ H.length) : Stay L b H (H ++ l) := ⟨by simp, fun c h _ => by rw [List.getElem?_append_left (by omega)]⟩

theorem Keeps.lo {H H' : Heap} {v v' : AV} {n : Nat} (h : Keeps H H' v v') (hl : Lo n v) (hn : n ≤ H.length) : Lo n v' ∧ ∀ b, Stay n b H H' := by
  constructor
  · intro c hc
    by_cases hcn : n ≤ c
    · exact hcn
    · exfalso
      have hlt : c < H.length := by omega
      exact (h.old c H[c] (List.getElem?_eq_getElem hlt) (fun e => hcn (hl c e))).2 hc
  · intro b
    refine ⟨h.len, fun c hc _ => ?_⟩
    have hlt : c < H.length := by omega
    rw [(h.old c H[c] (List.getElem?_eq_getElem hlt) (fun e => by have := hl c e; omega)).1, List.getElem?_eq_getElem hlt]

theorem Own.stay {H H' : Heap} {sz b L : Nat} {v : AV} {l : List AV} (h : Own H sz v l) (s : Stay L b H H') (hv : ∀ c, v.blockOf = some c → c < L ∧ c ≠ b) : Own H' sz v l := by
  rcases h with ⟨rfl, rfl⟩ | ⟨c, es, rfl, hb, h1, h2⟩
  · exact .nil _ _
  · obtain ⟨g1, g2⟩ := hv c rfl
    exact .inr ⟨c, es, rfl, by rw [s.old c g1 g2]; exact hb, h1, h2⟩

theorem lit_int (H : Heap) (z n : Int) : litAV 1 [I z] [(0, I n)] false H = some (.vslice [I n], H) := (rfl)
theorem lit_str (H : Heap) (z n : Str) : litAV 1 [.str z] [(0, .str n)] false H = some (.vslice [.str n], H) := (rfl)

def natI (l : List Nat) : List AV := l.map fun (j : Nat) => I (j : Int)

/-! ### an order -/

theorem order_fill {n : Nat} (hn : n ≤ 1000) {b L : Nat} {v0 : AV} {k0 : AV → AV → AV → Heap → Option (AV × Heap)} {Q : AV → Heap → Prop} (m : Nat) : ∀ (i : Nat) (H : Heap) (v5 : AV), m + i = n → Own H 1 v5 (natI (List.range i)) → Lo L v5 → L ≤ H.length →
    (∀ H' v5', Stay L b H H' → H'[b]? = H[b]? → Own H' 1 v5' (natI (List.range n)) → Lo L v5' → Yl (k0 v0 (I n) v5' H') Q) →
    b < L → Yl (l_jitmake_Stream_Order_0 v0 (I n) v5 (I n) (I i) H k0) Q := by
  induction m with
  | zero =>
    intro i H v5 hm ho hl hH hq _
    refine l_jitmake_Stream_Order_0_s _ _ _ _ _ _ _ ?_
    obtain rfl : i = n := by omega
    simp only [obind, condK_bool, gB_bool, bin_lss, bin_leq, bin_gtr, bin_geq, bin_eql, bin_neq, str_eql, str_neq, un_not, ext0, ext1, ext2, nilc_ptr, nilc_vptr, fa_ptr, fa_vptr0, load_vptr, len_vslice, len_slice, len_nil, len_str, decide_eq_true_eq, Bool.false_eq_true, if_true, if_false, Bool.not_true, Bool.not_false, Bool.not_eq_true, Bool.not_eq_true', decide_eq_false_iff_not, Bool.true_eq_false, eq_self, Nat.zero_add, Nat.add_zero, load_box, get0, get1, get2, get3, yl_some]
    rw [if_neg (by omega)]
    exact hq H v5 (.refl _ _ _) rfl ho hl
  | succ m ih =>
    intro i H v5 hm ho hl hH hq hb
    refine l_jitmake_Stream_Order_0_s _ _ _ _ _ _ _ ?_
    simp only [obind, condK_bool, gB_bool, bin_lss, bin_leq, bin_gtr, bin_geq, bin_eql, bin_neq, str_eql, str_neq, un_not, ext0, ext1, ext2, nilc_ptr, nilc_vptr, fa_ptr, fa_vptr0, load_vptr, len_vslice, len_slice, len_nil, len_str, decide_eq_true_eq, Bool.false_eq_true, if_true, if_false, Bool.not_true, Bool.not_false, Bool.not_eq_true, Bool.not_eq_true', decide_eq_false_iff_not, Bool.true_eq_false, eq_self, Nat.zero_add, Nat.add_zero, load_box, get0, get1, get2, get3, yl_some]
    rw [if_pos (by omega), lit_int]
    simp only [obind, condK_bool, gB_bool, bin_lss, bin_leq, bin_gtr, bin_geq, bin_eql, bin_neq, str_eql, str_neq, un_not, ext0, ext1, ext2, nilc_ptr, nilc_vptr, fa_ptr, fa_vptr0, load_vptr, len_vslice, len_slice, len_nil, len_str, decide_eq_true_eq, Bool.false_eq_true, if_true, if_false, Bool.not_true, Bool.not_false, Bool.not_eq_true, Bool.not_eq_true', decide_eq_false_iff_not, Bool.true_eq_false, eq_self, Nat.zero_add, Nat.add_zero, load_box, get0, get1, get2, get3, yl_some]
    obtain ⟨v', H', h1, h2, h3⟩ := append_own (y := .vslice [I i]) (xs := [I i]) (bytes := 8) ho (elems_vslice _ _) rfl rfl (by omega) (by simp [natI]; omega)
    rw [h1]
    simp only [obind, condK_bool, gB_bool, bin_lss, bin_leq, bin_gtr, bin_geq, bin_eql, bin_neq, str_eql, str_neq, un_not, ext0, ext1, ext2, nilc_ptr, nilc_vptr, fa_ptr, fa_vptr0, load_vptr, len_vslice, len_slice, len_nil, len_str, decide_eq_true_eq, Bool.false_eq_true, if_true, if_false, Bool.not_true, Bool.not_false, Bool.not_eq_true, Bool.not_eq_true', decide_eq_false_iff_not, Bool.true_eq_false, eq_self, Nat.zero_add, Nat.add_zero, load_box, get0, get1, get2, get3, yl_some]
    rw [succ64 _ _ (by omega)]
    simp only [obind, condK_bool, gB_bool, bin_lss, bin_leq, bin_gtr, bin_geq, bin_eql, bin_neq, str_eql, str_neq, un_not, ext0, ext1, ext2, nilc_ptr, nilc_vptr, fa_ptr, fa_vptr0, load_vptr, len_vslice, len_slice, len_nil, len_str, decide_eq_true_eq, Bool.false_eq_true, if_true, if_false, Bool.not_true, Bool.not_false, Bool.not_eq_true, Bool.not_eq_true', decide_eq_false_iff_not, Bool.true_eq_false, eq_self, Nat.zero_add, Nat.add_zero, load_box, get0, get1, get2, get3, yl_some]
    obtain ⟨g1, g2⟩ := h3.lo hl hH
    have hr : natI (List.range (i + 1)) = natI (List.range i) ++ [I i] := by simp [natI, List.range_succ]
    have hbb : H'[b]? = H[b]? := (g2 (b + 1)).old b hb (by omega)
    exact ih (i + 1) H' v' (by omega) (by rw [hr]; exact h2) g1 (Nat.le_trans hH h3.len) (fun H'' v'' a b' c d => hq H'' v'' ((g2 b).trans a) (b'.trans hbb) c d) hb

/-- Numbers below a bound, each once. -/
structure Dist (n : Nat) (p : List Nat) : Prop where
  len : p.length = n
  lt : ∀ x ∈ p, x < n
  nd : p.Nodup

theorem Dist.range (n : Nat) : Dist n (List.range n) := ⟨by simp, by simp, List.nodup_range⟩

theorem Dist.swap {n : Nat} {p : List Nat} (h : Dist n p) {i k : Nat} (hi : i < p.length) (hk : k < p.length) : Dist n ((p.set i p[k]).set k p[i]) := by
  refine ⟨by simp [h.len], ?_, ?_⟩
  · intro x hx
    rcases List.mem_or_eq_of_mem_set hx with hx | rfl
    · rcases List.mem_or_eq_of_mem_set hx with hx | rfl
      · exact h.lt _ hx
      · exact h.lt _ (List.getElem_mem hk)
    · exact h.lt _ (List.getElem_mem hi)
  · have hnd := List.pairwise_iff_getElem.1 h.nd
    have hne : ∀ a b (ha : a < p.length) (hb : b < p.length), a ≠ b → p[a] ≠ p[b] := by
      intro a b ha hb hab
      rcases Nat.lt_or_gt_of_ne hab with h1 | h1
      · exact hnd a b ha hb h1
      · exact (hnd b a hb ha h1).symm
    refine List.pairwise_iff_getElem.2 fun a b ha hb hab => ?_
    simp only [List.length_set] at ha hb
    simp only [List.getElem_set]
    by_cases h1 : k = a
    · subst h1
      rw [if_pos rfl, if_neg (by omega)]
      by_cases h2 : i = b
      · subst h2; rw [if_pos rfl]; exact hne _ _ hi hk (by omega)
      · rw [if_neg h2]; exact hne _ _ hi hb h2
    · rw [if_neg h1]
      by_cases h3 : i = a
      · subst h3
        rw [if_pos rfl]
        by_cases h4 : k = b
        · subst h4; rw [if_pos rfl]; exact hne _ _ hk hi (by omega)
        · rw [if_neg h4, if_neg (by omega)]; exact hne _ _ hk hb h4
      · rw [if_neg h3]
        by_cases h4 : k = b
        · subst h4; rw [if_pos rfl]; exact hne _ _ ha hi (Ne.symm h3)
        · rw [if_neg h4]
          by_cases h5 : i = b
          · subst h5; rw [if_pos rfl]; exact hne _ _ ha hk (Ne.symm h1)
          · rw [if_neg h5]; exact hne _ _ ha hb (by omega)

theorem natI_len (p : List Nat) : (natI p).length = p.length := by simp [natI]
theorem natI_get {p : List Nat} {i : Nat} (h : i < p.length) : (natI p)[i]'(by simpa [natI] using h) = I (p[i] : Int) := by simp [natI]
theorem natI_set (p : List Nat) (i x : Nat) : natI (p.set i x) = (natI p).set i (I (x : Int)) := by simp [natI, List.map_set]

/-- Reading and writing numbers of an own slice. -/
theorem Own.loadN {H : Heap} {v : AV} {p : List Nat} (h : Own H 1 v (natI p)) {n : Nat} (hn : n < p.length) : ∃ q, indexV H 1 v (I (n : Int)) = some q ∧ loadAV H none q = some (I (p[n] : Int)) := by
  obtain ⟨q, h1, h2⟩ := h.load1 (n := n) (by simpa [natI] using hn) (by simp [natI, AV.cells])
  exact ⟨q, h1, by rw [h2, natI_get hn]⟩
theorem Own.storeN {H : Heap} {v : AV} {p : List Nat} (h : Own H 1 v (natI p)) {n : Nat} (hn : n < p.length) (x : Nat) : ∃ q H', indexV H 1 v (I (n : Int)) = some q ∧ storeAV H 1 q (I (x : Int)) = some H' ∧ Own H' 1 v (natI (p.set n x)) ∧ Keeps H H' v v ∧ H'.length = H.length := by
  obtain ⟨q, H', h1, h2, h3, h4, h5⟩ := h.store (n := n) (x := I (x : Int)) (by simpa [natI] using hn) rfl rfl (by simp [natI, AV.cells]) (by simp [natI, AV.setCells, AV.cells])
  exact ⟨q, H', h1, h2, by rw [natI_set]; exact h3, h4, h5⟩

theorem order_mix {n : Nat} (hn : n ≤ 1000) {b L : Nat} {zs : List Int} {k2 : AV → Heap → Option (AV × Heap)} {Q : AV → Heap → Prop} {v5 : AV} (hl : Lo L v5) (hb : b < L) (i : Nat) : ∀ (H : Heap) (p : List Nat) (q : Nat), i < n ∨ (i = 0 ∧ n = 0) → Dist n p → Own H 1 v5 (natI p) → L ≤ H.length → H[b]? = some (stB zs q) → q + i < 1000000000 →
    (∀ H' p', Dist n p' → Own H' 1 v5 (natI p') → Stay L b H H' → H'[b]? = some (stB zs (q + i)) → Yl (k2 v5 H') Q) → Yl (l_jitmake_Stream_Order_1 (.ptr b 0 0) v5 (I i) H k2) Q := by
  induction i with
  | zero =>
    intro H p q hi hd ho hH hs hq hk
    refine l_jitmake_Stream_Order_1_s _ _ _ _ _ ?_
    simp only [obind, condK_bool, gB_bool, bin_lss, bin_leq, bin_gtr, bin_geq, bin_eql, bin_neq, str_eql, str_neq, un_not, ext0, ext1, ext2, nilc_ptr, nilc_vptr, fa_ptr, fa_vptr0, load_vptr, len_vslice, len_slice, len_nil, len_str, decide_eq_true_eq, Bool.false_eq_true, if_true, if_false, Bool.not_true, Bool.not_false, Bool.not_eq_true, Bool.not_eq_true', decide_eq_false_iff_not, Bool.true_eq_false, eq_self, Nat.zero_add, Nat.add_zero, load_box, get0, get1, get2, get3, yl_some]
    rw [if_neg (by omega)]
    exact hk H p hd ho (.refl _ _ _) hs
  | succ i ih =>
    intro H p q hi hd ho hH hs hq hk
    refine l_jitmake_Stream_Order_1_s _ _ _ _ _ ?_
    simp only [obind, condK_bool, gB_bool, bin_lss, bin_leq, bin_gtr, bin_geq, bin_eql, bin_neq, str_eql, str_neq, un_not, ext0, ext1, ext2, nilc_ptr, nilc_vptr, fa_ptr, fa_vptr0, load_vptr, len_vslice, len_slice, len_nil, len_str, decide_eq_true_eq, Bool.false_eq_true, if_true, if_false, Bool.not_true, Bool.not_false, Bool.not_eq_true, Bool.not_eq_true', decide_eq_false_iff_not, Bool.true_eq_false, eq_self, Nat.zero_add, Nat.add_zero, load_box, get0, get1, get2, get3, yl_some]
    rw [if_pos (by omega), succ64 _ _ (by omega)]
    simp only [obind, condK_bool, gB_bool, bin_lss, bin_leq, bin_gtr, bin_geq, bin_eql, bin_neq, str_eql, str_neq, un_not, ext0, ext1, ext2, nilc_ptr, nilc_vptr, fa_ptr, fa_vptr0, load_vptr, len_vslice, len_slice, len_nil, len_str, decide_eq_true_eq, Bool.false_eq_true, if_true, if_false, Bool.not_true, Bool.not_false, Bool.not_eq_true, Bool.not_eq_true', decide_eq_false_iff_not, Bool.true_eq_false, eq_self, Nat.zero_add, Nat.add_zero, load_box, get0, get1, get2, get3, yl_some]
    rw [next_ok hs (by omega) (by omega) (by omega)]
    obtain ⟨r1, r2⟩ := nx_range zs q (n := ((i + 1 + 1 : Nat) : Int)) (by omega)
    obtain ⟨k, hk'⟩ := Int.eq_ofNat_of_zero_le r1
    rw [hk']
    have hkl : k < i + 1 + 1 := by omega
    have hlen := hd.len
    have s1 : Stay L b H (H.set b (stB zs (q + 1))) := .set
    have hvb : ∀ c, v5.blockOf = some c → c < H.length ∧ c ≠ b := fun c hc => ⟨ho.block hc, by have := hl c hc; omega⟩
    have o1 : Own (H.set b (stB zs (q + 1))) 1 v5 (natI p) := ho.stay (L := H.length) .set hvb
    obtain ⟨a1, e1, e2⟩ := o1.loadN (n := k) (by omega)
    obtain ⟨a2, e3, e4⟩ := o1.loadN (n := i + 1) (by omega)
    obtain ⟨a3, H1, e5, e6, o2, kp1, len1⟩ := o1.storeN (n := i + 1) (by omega) (p[k]'(by omega))
    obtain ⟨a4, H2, e7, e8, o3, kp2, len2⟩ := o2.storeN (n := k) (by simp; omega) (p[i + 1]'(by omega))
    simp only [obind, condK_bool, gB_bool, bin_lss, bin_leq, bin_gtr, bin_geq, bin_eql, bin_neq, str_eql, str_neq, un_not, ext0, ext1, ext2, nilc_ptr, nilc_vptr, fa_ptr, fa_vptr0, load_vptr, len_vslice, len_slice, len_nil, len_str, decide_eq_true_eq, Bool.false_eq_true, if_true, if_false, Bool.not_true, Bool.not_false, Bool.not_eq_true, Bool.not_eq_true', decide_eq_false_iff_not, Bool.true_eq_false, eq_self, Nat.zero_add, Nat.add_zero, load_box, get0, get1, get2, get3, yl_some, e1, e2, e3, e4]
    rw [show a2 = a3 by rw [e3] at e5; exact Option.some.inj e5]
    simp only [obind, condK_bool, gB_bool, bin_lss, bin_leq, bin_gtr, bin_geq, bin_eql, bin_neq, str_eql, str_neq, un_not, ext0, ext1, ext2, nilc_ptr, nilc_vptr, fa_ptr, fa_vptr0, load_vptr, len_vslice, len_slice, len_nil, len_str, decide_eq_true_eq, Bool.false_eq_true, if_true, if_false, Bool.not_true, Bool.not_false, Bool.not_eq_true, Bool.not_eq_true', decide_eq_false_iff_not, Bool.true_eq_false, eq_self, Nat.zero_add, Nat.add_zero, load_box, get0, get1, get2, get3, yl_some, e6, e7, e8]
    rw [pred64 _ _ (by omega) (by omega)]
    simp only [obind, condK_bool, gB_bool, bin_lss, bin_leq, bin_gtr, bin_geq, bin_eql, bin_neq, str_eql, str_neq, un_not, ext0, ext1, ext2, nilc_ptr, nilc_vptr, fa_ptr, fa_vptr0, load_vptr, len_vslice, len_slice, len_nil, len_str, decide_eq_true_eq, Bool.false_eq_true, if_true, if_false, Bool.not_true, Bool.not_false, Bool.not_eq_true, Bool.not_eq_true', decide_eq_false_iff_not, Bool.true_eq_false, eq_self, Nat.zero_add, Nat.add_zero, load_box, get0, get1, get2, get3, yl_some, Nat.add_sub_cancel]
    have hlb : L ≤ (H.set b (stB zs (q + 1))).length := by simpa using hH
    have t1 := (kp1.lo hl hlb).2
    have t2 := (kp2.lo hl (by omega)).2
    have hs1 : (H.set b (stB zs (q + 1)))[b]? = some (stB zs (q + 1)) := set_same _ hs
    have hs2 : H2[b]? = some (stB zs (q + 1)) := by
      rw [(t2 (b + 1)).old b hb (by omega), (t1 (b + 1)).old b hb (by omega), hs1]
    refine ih H2 _ (q + 1) (by omega) (hd.swap (i := i + 1) (k := k) (by omega) (by omega)) o3 (by omega) hs2 (by omega) fun H' p' d' o' s' b' => ?_
    exact hk H' p' d' o' (((s1.trans (t1 b)).trans (t2 b)).trans s') (by rw [b']; congr 2; omega)

/-- A stream's order of so many numbers. -/
theorem order_ok {n : Nat} (hn : n ≤ 1000) {b : Nat} {H : Heap} {zs : List Int} {q : Nat} (hs : H[b]? = some (stB zs q)) (hq : q + n < 1000000000) :
    ∃ v H' p, R prog f_jitmake_Stream_Order [.ptr b 0 0, I n] H = some (v, H') ∧ Dist n p ∧ Own H' 1 v (natI p) ∧ Lo H.length v ∧ Stay H.length b H H' ∧ H'[b]? = some (stB zs (q + (n - 1))) := by
  have hlt := (List.getElem?_eq_some_iff.1 hs).1
  suffices h : Yl (R prog f_jitmake_Stream_Order [.ptr b 0 0, I n] H) fun v H' => ∃ p, Dist n p ∧ Own H' 1 v (natI p) ∧ Lo H.length v ∧ Stay H.length b H H' ∧ H'[b]? = some (stB zs (q + (n - 1))) by
    obtain ⟨v, H', h1, p, h2⟩ := h
    exact ⟨v, H', p, h1, h2⟩
  refine r_jitmake_Stream_Order _ _ _ ?_
  refine order_fill hn (L := H.length) (b := b) n 0 H .nilslice (by omega) (.nil _ _) (.nil _) (Nat.le_refl _) (fun H' v5 st hb ho hl => ?_) hlt
  have hH := st.len
  by_cases h0 : n = 0
  · subst h0
    rw [sub64 _ _ (by omega) (by omega)]
    simp only [obind, condK_bool, gB_bool, bin_lss, bin_leq, bin_gtr, bin_geq, bin_eql, bin_neq, str_eql, str_neq, un_not, ext0, ext1, ext2, nilc_ptr, nilc_vptr, fa_ptr, fa_vptr0, load_vptr, len_vslice, len_slice, len_nil, len_str, decide_eq_true_eq, Bool.false_eq_true, if_true, if_false, Bool.not_true, Bool.not_false, Bool.not_eq_true, Bool.not_eq_true', decide_eq_false_iff_not, Bool.true_eq_false, eq_self, Nat.zero_add, Nat.add_zero, load_box, get0, get1, get2, get3, yl_some]
    refine l_jitmake_Stream_Order_1_s _ _ _ _ _ ?_
    simp only [obind, condK_bool, gB_bool, bin_lss, bin_leq, bin_gtr, bin_geq, bin_eql, bin_neq, str_eql, str_neq, un_not, ext0, ext1, ext2, nilc_ptr, nilc_vptr, fa_ptr, fa_vptr0, load_vptr, len_vslice, len_slice, len_nil, len_str, decide_eq_true_eq, Bool.false_eq_true, if_true, if_false, Bool.not_true, Bool.not_false, Bool.not_eq_true, Bool.not_eq_true', decide_eq_false_iff_not, Bool.true_eq_false, eq_self, Nat.zero_add, Nat.add_zero, load_box, get0, get1, get2, get3, yl_some]
    rw [if_neg (by omega)]
    exact yl_some.2 ⟨_, .range 0, ho, hl, st, by rw [hb]; exact hs⟩
  · rw [pred64 _ _ (by omega) (by omega)]
    simp only [obind, condK_bool, gB_bool, bin_lss, bin_leq, bin_gtr, bin_geq, bin_eql, bin_neq, str_eql, str_neq, un_not, ext0, ext1, ext2, nilc_ptr, nilc_vptr, fa_ptr, fa_vptr0, load_vptr, len_vslice, len_slice, len_nil, len_str, decide_eq_true_eq, Bool.false_eq_true, if_true, if_false, Bool.not_true, Bool.not_false, Bool.not_eq_true, Bool.not_eq_true', decide_eq_false_iff_not, Bool.true_eq_false, eq_self, Nat.zero_add, Nat.add_zero, load_box, get0, get1, get2, get3, yl_some]
    refine order_mix hn hl hlt (n - 1) H' _ q (by omega) (.range n) ho hH (by rw [hb]; exact hs) (by omega) fun H'' p d o s hb' => ?_
    exact yl_some.2 ⟨p, d, o, hl, st.trans s, hb'⟩
end Y
end Go.Proofs.YtkaigfcjejabfaaGreatDoor
