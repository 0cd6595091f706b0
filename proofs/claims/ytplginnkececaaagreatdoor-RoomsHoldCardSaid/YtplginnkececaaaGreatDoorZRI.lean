/- Slices that a run owns: appending, reading, writing; what stays. Elements of own slices, read and written whole; what a comparing function needs. What stays while a stream is read; calls that change a stream alone. What the small functions of the streams hand out: Pick, Some, Odd, AskedRide. What RightRiders and RightRooms hand out. What RightRooms hands out. What Odd hands out. What SpoiltRide hands out. SpoiltRide. What Asks hands out: a loop over asks that are mostly right. No condition. -/
import Derived.Test.YtplginnkececaaaGreatDoorZRA
import Derived.Test.YtplginnkececaaaGreatDoorZYSO
set_option linter.unusedSimpArgs false
set_option linter.unusedVariables false
namespace Go.Proofs.YtplginnkececaaaGreatDoor
open Go
namespace Y
open X

def Own (H : Heap) (sz : Nat) (v : AV) (l : List AV) : Prop :=
  (v = .nilslice ∧ l = []) ∨ ∃ b es, v = .slice b 0 l.length ∧ H[b]? = some (.arr sz es) ∧ es.take l.length = l ∧ l.length ≤ es.length

structure Keeps (H H' : Heap) (v v' : AV) : Prop where
  len : H.length ≤ H'.length
  old : ∀ c k, H[c]? = some k → v.blockOf ≠ some c → H'[c]? = some k ∧ v'.blockOf ≠ some c

theorem Own.nil (H : Heap) (sz : Nat) : Own H sz .nilslice [] := .inl ⟨rfl, rfl⟩

theorem Own.len {H : Heap} {sz : Nat} {v : AV} {l : List AV} (h : Own H sz v l) : lenX H .slice v = some (.int .i64 l.length) := by
  rcases h with ⟨rfl, rfl⟩ | ⟨b, es, rfl, _⟩
  · exact len_nil _
  · exact len_slice _ _ _ _

theorem Own.frame {H H' : Heap} {sz : Nat} {v u u' : AV} {l : List AV} (h : Own H sz v l) (k : Keeps H H' u u') (ha : ∀ c, v.blockOf = some c → u.blockOf ≠ some c) : Own H' sz v l := by
  rcases h with ⟨rfl, rfl⟩ | ⟨b, es, rfl, hb, h1, h2⟩
  · exact .nil _ _
  · exact .inr ⟨b, es, rfl, (k.old b _ hb (ha b rfl)).1, h1, h2⟩

theorem append_own {H : Heap} {sz bytes : Nat} {v y : AV} {l xs : List AV} (h : Own H sz v l) (hy : elems H y = some xs) (hx : allSz sz xs = true) (h0 : xs.length = 1) (hb : 0 < bytes) (hn : (l.length + xs.length) * bytes ≤ 140737488355328) :
    ∃ v' H', appendX H sz bytes v y = some (v', H') ∧ Own H' sz v' (l ++ xs) ∧ Keeps H H' v v' := by
  unfold appendX
  rw [hy]
  rcases h with ⟨rfl, rfl⟩ | ⟨b, es, rfl, hbk, h1, h2⟩
  · refine ⟨.slice H.length 0 xs.length, H ++ [.arr sz xs], ?_, ?_, ?_⟩
    · simp only [obind, appendAV, hx, Bool.not_true, Bool.false_eq_true, if_false]
      rw [if_neg (by omega), if_pos ⟨by simpa using hn, hb⟩]
    · exact .inr ⟨H.length, xs, by simp, app_get0 _ _ _, by simp, by simp⟩
    · refine ⟨by simp, fun c k hc _ => ⟨app_old _ hc, ?_⟩⟩
      have := (List.getElem?_eq_some_iff.1 hc).1
      simp [AV.blockOf]; omega
  · have hlt := (List.getElem?_eq_some_iff.1 hbk).1
    by_cases he : l.length = es.length
    · refine ⟨.slice H.length 0 (l.length + xs.length), H.set b .dead ++ [.arr sz (es.drop 0 ++ xs)], ?_, ?_, ?_⟩
      · simp only [obind, appendAV, hx, Bool.not_true, Bool.false_eq_true, if_false, hbk, ne_eq, not_true_eq_false]
        rw [if_neg (by omega), if_pos (by omega), if_pos ⟨hn, hb⟩]
      · refine .inr ⟨H.length, es ++ xs, by simp, ?_, ?_, by simp; omega⟩
        · have := app_get0 (H.set b .dead) (.arr sz (es.drop 0 ++ xs)) []
          simp at this ⊢
        · have hes : es = l := by rw [← h1, he, List.take_length]
          rw [hes]; simp [List.take_of_length_le]
      · refine ⟨by simp, fun c k hc hne => ⟨app_old _ (set_other _ (fun e => hne (by simp [AV.blockOf, e])) hc), ?_⟩⟩
        have := (List.getElem?_eq_some_iff.1 hc).1
        simp [AV.blockOf]; omega
    · have hf : l.length + xs.length ≤ es.length := by omega
      refine ⟨.slice b 0 (l.length + xs.length), H.set b (.arr sz (es.take l.length ++ xs ++ es.drop (l.length + xs.length))), ?_, ?_, ?_⟩
      · simp only [obind, appendAV, hx, Bool.not_true, Bool.false_eq_true, if_false, hbk, ne_eq, not_true_eq_false, Nat.zero_add]
        rw [if_neg (by omega), if_neg (by omega), if_pos hf]
      · refine .inr ⟨b, _, by simp, set_same _ hbk, ?_, ?_⟩
        · rw [h1, List.length_append, List.take_append_of_le_length (by simp), List.take_of_length_le (by simp)]
        · simp; omega
      · exact ⟨by simp, fun c k hc hne => ⟨set_other _ (fun e => hne (by simp [AV.blockOf, e])) hc, hne⟩⟩

theorem Own.block {H : Heap} {sz : Nat} {v : AV} {l : List AV} (h : Own H sz v l) {c : Nat} (hc : v.blockOf = some c) : c < H.length := by
  rcases h with ⟨rfl, rfl⟩ | ⟨b, es, rfl, hb, h1, h2⟩
  · cases hc
  · cases hc; exact (List.getElem?_eq_some_iff.1 hb).1

theorem Own.take {H : Heap} {sz : Nat} {v : AV} {l : List AV} (h : Own H sz v l) {n : Nat} (hn : n ≤ l.length) : ∃ v', sliceSlAV H sz v none (some (.int .i64 (n : Int))) = some v' ∧ Own H sz v' (l.take n) ∧ ∀ c, v'.blockOf = some c → v.blockOf = some c := by
  rcases h with ⟨rfl, rfl⟩ | ⟨b, es, rfl, hb, h1, h2⟩
  · have : n = 0 := by simpa using hn
    subst this
    exact ⟨.nilslice, by simp [sliceSlAV, optV, AV.asNat, natArg, sliceAV], .nil _ _, by simp⟩
  · refine ⟨.slice b 0 n, slice_sl_to hb (by omega), .inr ⟨b, es, by simp [Nat.min_eq_left hn], hb, ?_, ?_⟩, fun c hc => hc⟩
    · rw [List.length_take, Nat.min_eq_left hn, ← h1, List.take_take, Nat.min_eq_left hn]
    · rw [List.length_take]; omega

theorem Own.at {H : Heap} {sz : Nat} {v : AV} {l : List AV} (h : Own H sz v l) {n : Nat} (hn : n < l.length) : ∃ b es, indexV H sz v (.int .i64 (n : Int)) = some (.ptr b n 0) ∧ H[b]? = some (.arr sz es) ∧ es[n]? = some l[n] ∧ v = .slice b 0 l.length ∧ es.take l.length = l ∧ l.length ≤ es.length := by
  rcases h with ⟨rfl, rfl⟩ | ⟨b, es, rfl, hb, h1, h2⟩
  · simp at hn
  · refine ⟨b, es, ?_, hb, ?_, rfl, h1, h2⟩
    · rw [index_slice hb hn, Nat.zero_add]
    · have : (es.take l.length)[n]? = some l[n] := by rw [h1, List.getElem?_eq_getElem hn]
      rwa [List.getElem?_take_of_lt hn] at this

theorem Own.load1 {H : Heap} {v : AV} {l : List AV} (h : Own H 1 v l) {n : Nat} (hn : n < l.length) (hc : l[n].cells = [l[n]]) : ∃ p, indexV H 1 v (.int .i64 (n : Int)) = some p ∧ loadAV H none p = some l[n] := by
  obtain ⟨b, es, h1, h2, h3, _⟩ := h.at hn
  exact ⟨_, h1, load_ptr h2 h3 (by rw [hc]; rfl)⟩

theorem Own.loads {H : Heap} {sz : Nat} {v : AV} {l : List AV} (h : Own H sz v l) {n : Nat} (hn : n < l.length) {cs : List AV} (he : l[n] = .agg cs) (hl : cs.length = sz) : ∃ p, indexV H sz v (.int .i64 (n : Int)) = some p ∧ loadAV H (some sz) p = some l[n] := by
  obtain ⟨b, es, h1, h2, h3, _⟩ := h.at hn
  refine ⟨_, h1, load_ptr h2 h3 ?_⟩
  rw [he]; simp [AV.cells, pickAV, ← hl]

theorem Own.store {H : Heap} {sz : Nat} {v x : AV} {l : List AV} (h : Own H sz v l) {n : Nat} (hn : n < l.length) (h1 : x.cells.length = sz) (h2 : x.cells.all AV.storable = true) (h3 : l[n].cells.length = sz)
    (hs : l[n].setCells 0 x.cells = x) : ∃ p H', indexV H sz v (.int .i64 (n : Int)) = some p ∧ storeAV H sz p x = some H' ∧ Own H' sz v (l.set n x) ∧ Keeps H H' v v ∧ H'.length = H.length := by
  obtain ⟨b, es, g1, g2, g3, rfl, g5, g6⟩ := h.at hn
  refine ⟨_, _, g1, store_ptr g2 g3 h1 h2 (by rw [h3]; omega) h3, ?_, ?_, by simp⟩
  · refine .inr ⟨b, es.set n x, by simp, by rw [hs]; exact set_same _ g2, ?_, by simp; omega⟩
    rw [List.length_set, List.take_set, g5]
  · exact ⟨by simp, fun c k hc hne => ⟨set_other _ (fun e => hne (by simp [AV.blockOf, e])) hc, hne⟩⟩

theorem Keeps.trans {H H' H'' : Heap} {u v w : AV} (h : Keeps H H' u v) (h' : Keeps H' H'' v w) : Keeps H H'' u w :=
  ⟨Nat.le_trans h.len h'.len, fun c k hc hne => h'.old c k (h.old c k hc hne).1 (h.old c k hc hne).2⟩
theorem Keeps.refl (H : Heap) (u : AV) : Keeps H H u u := ⟨Nat.le_refl _, fun _ _ h h' => ⟨h, h'⟩⟩

theorem Own.snapK {H : Heap} {sz k : Nat} {v : AV} {l l' : List AV} (h : Own H sz v l) (hs : l.mapM (X.snap H k) = some l') : X.snap H (k + 1) v = some (.vslice l') := by
  rcases h with ⟨rfl, rfl⟩ | ⟨b, es, rfl, hb, h1, h2⟩
  · simp at hs; subst hs; rfl
  · rw [X.snap]
    simp only [hb, List.drop_zero, h1, Nat.zero_add, h2, if_true, hs]
    rfl
theorem Own.cells {H : Heap} {sz : Nat} {v : AV} {l : List AV} (h : Own H sz v l) : v.cells = [v] ∧ v.storable = true := by
  rcases h with ⟨rfl, rfl⟩ | ⟨b, es, rfl, hb, h1, h2⟩ <;> exact ⟨rfl, rfl⟩
theorem Own.aboveK {H : Heap} {sz k n : Nat} {v : AV} {l : List AV} (h : Own H sz v l) (hl : ∀ c, v.blockOf = some c → n ≤ c) (hs : l.all (X.above H n k) = true) : X.above H n (k + 1) v = true := by
  rcases h with ⟨rfl, rfl⟩ | ⟨b, es, rfl, hb, h1, h2⟩
  · rfl
  · rw [X.above]
    simp only [hb, List.drop_zero, h1, hs, Bool.and_true]
    exact Nat.ble_eq_true_of_le (hl b rfl)

theorem Own.snap {H : Heap} {sz : Nat} {v : AV} {l l' : List AV} (h : Own H sz v l) (hs : l.mapM (snap H 11) = some l') : snap H deep v = some (.vslice l') := by
  rcases h with ⟨rfl, rfl⟩ | ⟨b, es, rfl, hb, h1, h2⟩
  · simp at hs; subst hs; rfl
  · unfold deep
    rw [X.snap]
    simp only [hb, List.drop_zero, h1, Nat.zero_add, h2, if_true, hs]
    rfl
end Y
end Go.Proofs.YtplginnkececaaaGreatDoor

set_option linter.unusedSimpArgs false
set_option linter.unusedVariables false
namespace Go.Proofs.YtplginnkececaaaGreatDoor
open Go
namespace Y
open X

structure Lay {α : Type} (sz : Nat) (n : Option Nat) (enc : α → AV) : Prop where
  len : ∀ a, (enc a).cells.length = sz
  sto : ∀ a, (enc a).cells.all AV.storable = true
  pick : ∀ a, pickAV n (enc a).cells 0 = some (enc a)
  set : ∀ a b, (enc a).setCells 0 (enc b).cells = enc b

theorem Lay.agg {α : Type} {sz : Nat} {f : α → List AV} (h1 : ∀ a, (f a).length = sz) (h2 : ∀ a, (f a).all AV.storable = true) : Lay sz (some sz) fun a => .agg (f a) := by
  refine ⟨h1, h2, fun a => ?_, fun a b => ?_⟩
  · simp [AV.cells, pickAV, h1]
    exact List.take_of_length_le (by rw [h1]; exact Nat.le_refl _)
  · simp [AV.cells, AV.setCells, h1]

theorem Lay.one {α : Type} {f : α → AV} (h : ∀ a, (f a).cells = [f a] ∧ (f a).storable = true) : Lay 1 none f := by
  refine ⟨fun a => by rw [(h a).1]; rfl, fun a => by rw [(h a).1]; simp [(h a).2], fun a => by rw [(h a).1]; rfl, fun a b => ?_⟩
  rw [(h b).1]
  have h1 := (h a).1
  have h2 := (h b).2
  have h3 := (h a).2
  cases hf : f a <;> rw [hf] at h3 <;> first | rfl | (simp [AV.storable] at h3)

theorem lay_int : Lay 1 none I := Lay.one fun a => ⟨rfl, rfl⟩
theorem lay_ptr (f : Nat → Nat) : Lay 1 none fun i => AV.ptr (f i) 0 0 := Lay.one fun a => ⟨rfl, rfl⟩

theorem Own.loadG {H : Heap} {sz : Nat} {n : Option Nat} {v : AV} {l : List AV} (h : Own H sz v l) {i : Nat} (hi : i < l.length) (hp : pickAV n l[i].cells 0 = some l[i]) : ∃ p, indexV H sz v (.int .i64 (i : Int)) = some p ∧ loadAV H n p = some l[i] := by
  obtain ⟨b, es, h1, h2, h3, _⟩ := h.at hi
  exact ⟨_, h1, load_ptr h2 h3 hp⟩

theorem Own.loadL {α : Type} {H : Heap} {sz : Nat} {n : Option Nat} {v : AV} {enc : α → AV} {l : List α} (hz : Lay sz n enc) (h : Own H sz v (l.map enc)) {i : Nat} (hi : i < l.length) : ∃ p, indexV H sz v (.int .i64 (i : Int)) = some p ∧ loadAV H n p = some (enc l[i]) := by
  have := h.loadG (n := n) (i := i) (by simpa using hi) (by rw [List.getElem_map]; exact hz.pick _)
  simpa using this

theorem Own.storeL {α : Type} {H : Heap} {sz : Nat} {n : Option Nat} {v : AV} {enc : α → AV} {l : List α} (hz : Lay sz n enc) (h : Own H sz v (l.map enc)) {i : Nat} (hi : i < l.length) (x : α) :
    ∃ p H', indexV H sz v (.int .i64 (i : Int)) = some p ∧ storeAV H sz p (enc x) = some H' ∧ Own H' sz v ((l.set i x).map enc) ∧ Keeps H H' v v ∧ H'.length = H.length := by
  have := h.store (n := i) (x := enc x) (by simpa using hi) (hz.len x) (hz.sto x) (by rw [List.getElem_map]; exact hz.len _) (by rw [List.getElem_map]; exact hz.set _ _)
  rwa [List.map_set]

theorem Own.appendL {α : Type} {H : Heap} {sz bytes : Nat} {n : Option Nat} {v y : AV} {enc : α → AV} {l : List α} (hz : Lay sz n enc) (h : Own H sz v (l.map enc)) (x : α) (hy : elems H y = some [enc x]) (hb : 0 < bytes) (hn : (l.length + 1) * bytes ≤ 140737488355328) :
    ∃ v' H', appendX H sz bytes v y = some (v', H') ∧ Own H' sz v' ((l ++ [x]).map enc) ∧ Keeps H H' v v' := by
  have := append_own h hy (by simp [allSz, hz.len, hz.sto]) rfl hb (by simpa using hn)
  simpa using this

theorem lit_one {H : Heap} {sz : Nat} {z v : AV} (h1 : v.cells.length = sz) (h2 : v.cells.all AV.storable = true) (h3 : noRef deep v = true) : litAV sz [z] [(0, v)] false H = some (.vslice [v], H) := by
  simp only [litAV, fillLit, h1, h2, List.length_singleton, Nat.zero_lt_one, and_self, if_true, List.set_cons_zero, obind, Bool.false_eq_true, if_false, List.all_cons, h3, List.all_nil, Bool.and_self]
theorem lit_own {H : Heap} {z v : AV} (h1 : v.cells.length = 1) (h2 : v.cells.all AV.storable = true) : litAV 1 [z] [(0, v)] true H = some (.slice H.length 0 1, H ++ [.arr 1 [v]]) := by
  simp only [litAV, fillLit, h1, h2, List.length_singleton, Nat.zero_lt_one, and_self, if_true, List.set_cons_zero, obind]
theorem elems_new (H : Heap) (v : AV) : elems (H ++ [.arr 1 [v]]) (.slice H.length 0 1) = some [v] := by
  simp [elems, app_get0]

def Cmp {α : Type} (A : α → Prop) (P : Heap → Prop) (enc : α → AV) (cmp : AV) (c : α → α → Int) : Prop :=
  ∀ a b H (K : AV → Heap → Option (AV × Heap)), A a → A b → P H → callK prog (R prog) cmp [enc a, enc b] H K = K (I (c a b)) H

def Steady (P : Heap → Prop) (v : AV) : Prop := ∀ H H', P H → Keeps H H' v v → H'.length = H.length → P H'

theorem bits_len (n : Nat) (hn : n ≤ 12) (H : Heap) : ∃ k, pureCall prog (R prog) f_math_bits_Len [.int .u64 (n : Int)] H = some k := by
  have : ∀ n : Nat, n ≤ 12 → ∃ k, ((run prog 20 f_math_bits_Len [.int .u64 (n : Int)] []).bind fun r => snap r.2 deep r.1) = some k := by
    intro n hn
    have : n = 0 ∨ n = 1 ∨ n = 2 ∨ n = 3 ∨ n = 4 ∨ n = 5 ∨ n = 6 ∨ n = 7 ∨ n = 8 ∨ n = 9 ∨ n = 10 ∨ n = 11 ∨ n = 12 := by omega
    rcases this with rfl | rfl | rfl | rfl | rfl | rfl | rfl | rfl | rfl | rfl | rfl | rfl | rfl
    · exact ⟨I 0, by kernel_rfl⟩
    · exact ⟨I 1, by kernel_rfl⟩
    · exact ⟨I 2, by kernel_rfl⟩
    · exact ⟨I 2, by kernel_rfl⟩
    · exact ⟨I 3, by kernel_rfl⟩
    · exact ⟨I 3, by kernel_rfl⟩
    · exact ⟨I 3, by kernel_rfl⟩
    · exact ⟨I 3, by kernel_rfl⟩
    · exact ⟨I 4, by kernel_rfl⟩
    · exact ⟨I 4, by kernel_rfl⟩
    · exact ⟨I 4, by kernel_rfl⟩
    · exact ⟨I 4, by kernel_rfl⟩
    · exact ⟨I 4, by kernel_rfl⟩
  obtain ⟨k, hk⟩ := this n hn
  exact ⟨k, pure_fz (by simp [fz_int]) rfl (yl_run hk fun _ _ h => h)⟩

theorem conv_len {n : Nat} (hn : n < 1000000) : convAV .u64 (I n) = some (.int .u64 (n : Int)) := by
  simp only [convAV, AV.asInt, Option.map_some, Option.some.injEq, AV.int.injEq, true_and]
  unfold IntKind.wrap
  simp [IntKind.signed, IntKind.bits]
  omega

theorem swap_at {α : Type} (p : List α) (y x : α) (s : List α) : ((p ++ y :: x :: s).set (p.length + 1) y).set p.length x = p ++ x :: y :: s := by
  simp [List.set_append]
end Y
end Go.Proofs.YtplginnkececaaaGreatDoor

set_option linter.unusedSimpArgs false
set_option linter.unusedVariables false
namespace Go.Proofs.YtplginnkececaaaGreatDoor
open Go
namespace Y
open X

def Lo (n : Nat) (v : AV) : Prop := ∀ c, v.blockOf = some c → n ≤ c

theorem Lo.nil (n : Nat) : Lo n .nilslice := by intro c h; cases h
theorem Lo.mono {n m : Nat} {v : AV} (h : Lo n v) (hm : m ≤ n) : Lo m v := fun c hc => Nat.le_trans hm (h c hc)

structure Stay (L b : Nat) (H H' : Heap) : Prop where
  len : H.length ≤ H'.length
  old : ∀ c, c < L → c ≠ b → H'[c]? = H[c]?

theorem Stay.refl (L b : Nat) (H : Heap) : Stay L b H H := ⟨Nat.le_refl _, fun _ _ _ => rfl⟩
theorem Stay.trans {L b : Nat} {H H' H'' : Heap} (h : Stay L b H H') (h' : Stay L b H' H'') : Stay L b H H'' :=
  ⟨Nat.le_trans h.len h'.len, fun c h1 h2 => (h'.old c h1 h2).trans (h.old c h1 h2)⟩
theorem Stay.mono {L L' b : Nat} {H H' : Heap} (h : Stay L b H H') (hl : L' ≤ L) : Stay L' b H H' := ⟨h.len, fun c h1 h2 => h.old c (Nat.lt_of_lt_of_le h1 hl) h2⟩
theorem Stay.set {L b : Nat} {H : Heap} {k : Blk} : Stay L b H (H.set b k) := ⟨by simp, fun c _ h => by rw [List.getElem?_set_ne (Ne.symm h)]⟩
theorem Stay.set' {L b c : Nat} {H : Heap} {k : Blk} (hc : L ≤ c) : Stay L b H (H.set c k) := ⟨by simp, fun d h _ => by rw [List.getElem?_set_ne (by omega)]⟩
theorem Stay.app {L b : Nat} {H : Heap} (l : List Blk) (hl : L ≤ H.length) : Stay L b H (H ++ l) := ⟨by simp, fun c h _ => by rw [List.getElem?_append_left (by omega)]⟩

theorem Keeps.lo {H H' : Heap} {v v' : AV} {n : Nat} (h : Keeps H H' v v') (hl : Lo n v) (hn : n ≤ H.length) : Lo n v' ∧ ∀ b, Stay n b H H' := by
  constructor
  · intro c hc
    by_cases hcn : n ≤ c
    · exact hcn
    · exfalso
      have hlt : c < H.length := by omega
      exact (h.old c H[c] (List.getElem?_eq_getElem hlt) (fun e => hcn (hl c e))).2 hc
  · intro b
    refine ⟨h.len, fun c hc _ => ?_⟩
    have hlt : c < H.length := by omega
    rw [(h.old c H[c] (List.getElem?_eq_getElem hlt) (fun e => by have := hl c e; omega)).1, List.getElem?_eq_getElem hlt]

theorem Own.stay {H H' : Heap} {sz b L : Nat} {v : AV} {l : List AV} (h : Own H sz v l) (s : Stay L b H H') (hv : ∀ c, v.blockOf = some c → c < L ∧ c ≠ b) : Own H' sz v l := by
  rcases h with ⟨rfl, rfl⟩ | ⟨c, es, rfl, hb, h1, h2⟩
  · exact .nil _ _
  · obtain ⟨g1, g2⟩ := hv c rfl
    exact .inr ⟨c, es, rfl, by rw [s.old c g1 g2]; exact hb, h1, h2⟩

theorem stB_below (zs : List Int) (q n : Nat) : (stB zs q).below n = true := by
  simp [stB, Blk.below, X.below, deep]

theorem cut_of {P : Prog} {f : Nat} {args : List AV} {H : Heap} {b q' : Nat} {zs : List Int} {u : AV} (hb : b < H.length) (ha : args.head?.bind AV.blockOf = some b)
    (h : Yl (R P f args H) fun v H' => Stay H.length b H H' ∧ H'[b]? = some (stB zs q') ∧ snap H' deep v = some u ∧ above H' H.length deep v = true) : cutCall (R P) f args H = some (u, H.set b (stB zs q')) := by
  obtain ⟨v, H', h1, st, hs, hsn, hab⟩ := h
  have hlen := st.len
  have hb' : ∀ c k, c < H.length → H'[c]? = some k → H[c]? = some k ∨ (args.head?.bind AV.blockOf = some c ∧ k.below H.length = true) := by
    intro c k hc hk
    by_cases e : c = b
    · subst e; rw [hs] at hk; cases hk; exact .inr ⟨ha, stB_below _ _ _⟩
    · rw [st.old c hc e] at hk; exact .inl hk
  have ht : H'.take H.length = H.set b (stB zs q') := by
    apply List.ext_getElem?
    intro i
    by_cases hi : i < H.length
    · rw [List.getElem?_take_of_lt hi]
      by_cases e : i = b
      · subst e; rw [hs, List.getElem?_set_self hi]
      · rw [st.old i hi e, List.getElem?_set_ne (Ne.symm e)]
    · rw [List.getElem?_eq_none (by simp; omega), List.getElem?_eq_none (by simp; omega)]
  simp only [cutCall, h1, obind]
  rw [if_pos ⟨hlen, hb', hab⟩, hsn, ht]
  rfl

theorem lit_int (H : Heap) (z n : Int) : litAV 1 [I z] [(0, I n)] false H = some (.vslice [I n], H) := (rfl)
theorem lit_str (H : Heap) (z n : Str) : litAV 1 [.str z] [(0, .str n)] false H = some (.vslice [.str n], H) := (rfl)
end Y
end Go.Proofs.YtplginnkececaaaGreatDoor

set_option linter.unusedSimpArgs false
set_option linter.unusedVariables false
namespace Go.Proofs.YtplginnkececaaaGreatDoor
open Go
namespace Y
open X

theorem hd_ptr (b i o : Nat) (l : List AV) : (AV.ptr b i o :: l).head?.bind AV.blockOf = some b := rfl

theorem Stay.one {b : Nat} {H : Heap} {k : Blk} : Stay H.length b H (H.set b k) := Stay.set

theorem pick_cut {H : Heap} {b p : Nat} {zs : List Int} (l : List Int) (hb : H[b]? = some (stB zs p)) (hp : p < 1000000000) (hl : 0 < l.length) (hl' : l.length < 1000000) :
    ∃ x ∈ l, cutCall (R prog) f_jitmake_Stream_Pick [.ptr b 0 0, .vslice (l.map I)] H = some (I x, H.set b (stB zs (p + 1))) := by
  have hlt : b < H.length := (List.getElem?_eq_some_iff.1 hb).1
  have hr := nx_range zs p (n := (l.length : Int)) (by omega)
  obtain ⟨i, hi⟩ : ∃ i : Nat, nx zs p l.length = (i : Int) := ⟨_, (Int.toNat_of_nonneg hr.1).symm⟩
  have hi' : i < l.length := by omega
  refine ⟨l[i], List.getElem_mem hi', cut_of hlt (hd_ptr ..) ?_⟩
  refine r_jitmake_Stream_Pick _ _ _ ?_
  have he : (l.map I)[i]? = some (I l[i]) := by rw [List.getElem?_map, List.getElem?_eq_getElem hi']; rfl
  simp only [SS, List.length_map, next_ok hb hp (show (-4611686018427387904 : Int) ≤ (l.length : Int) by omega) (show (l.length : Int) < 4611686018427387904 by omega), hi, index_vslice (sz := 1) he rfl, AV.cells]
  exact ⟨Stay.one, List.getElem?_set_self hlt, rfl, rfl⟩

theorem some_cut {H : Heap} {b p : Nat} {zs : List Int} (l : List Str) (hb : H[b]? = some (stB zs p)) (hp : p < 1000000000) (hl : 0 < l.length) (hl' : l.length < 1000000) :
    ∃ x ∈ l, cutCall (R prog) f_jitmake_Stream_Some [.ptr b 0 0, .vslice (l.map .str)] H = some (.str x, H.set b (stB zs (p + 1))) := by
  have hlt : b < H.length := (List.getElem?_eq_some_iff.1 hb).1
  have hr := nx_range zs p (n := (l.length : Int)) (by omega)
  obtain ⟨i, hi⟩ : ∃ i : Nat, nx zs p l.length = (i : Int) := ⟨_, (Int.toNat_of_nonneg hr.1).symm⟩
  have hi' : i < l.length := by omega
  refine ⟨l[i], List.getElem_mem hi', cut_of hlt (hd_ptr ..) ?_⟩
  refine r_jitmake_Stream_Some _ _ _ ?_
  have he : (l.map AV.str)[i]? = some (.str l[i]) := by rw [List.getElem?_map, List.getElem?_eq_getElem hi']; rfl
  simp only [SS, List.length_map, next_ok hb hp (show (-4611686018427387904 : Int) ≤ (l.length : Int) by omega) (show (l.length : Int) < 4611686018427387904 by omega), hi, index_vslice (sz := 1) he rfl, AV.cells]
  exact ⟨Stay.one, List.getElem?_set_self hlt, rfl, rfl⟩

theorem step {α : Type} {x : Option α} {r : α} {K : α → Option (AV × Heap)} {Q : AV → Heap → Prop} (h : x = some r) (h2 : Yl (K r) Q) : Yl (x.bind K) Q := by rw [h]; exact h2

def idsR : List Str := [[114, 97], [114, 98], [114, 99], [114, 100], [114, 101], [114, 102]]
def whoR : List Str := [[97, 110, 110], [97, 110, 110], [98, 111, 98], [99, 105, 100]]
def frmR : List Str := [[104, 111, 109, 101], [119, 111, 114, 107]]
def toR : List Str := [[99, 108, 117, 98], [115, 104, 111, 112]]

structure Asked (t : Int) (r : Ride) : Prop where
  id : r.id ∈ idsR
  rider : r.rider ∈ whoR
  frm : r.frm ∈ frmR
  to : r.to ∈ toR
  ready : r.ready - t ∈ ([0, 5, 10, 30, 50] : List Int)
  due : r.due - r.ready ∈ ([1, 10, 20, 40] : List Int)
  seats : r.seats ∈ ([1, 1, 2, 3] : List Int)
  wheels : r.wheels ∈ ([0, 0, 0, 1] : List Int)

theorem set_set_same {H : Heap} {b : Nat} {x : Blk} (y : Blk) : (H.set b x).set b y = H.set b y := by simp

theorem asked_cut {H : Heap} {b p : Nat} {zs : List Int} {t : Int} (hb : H[b]? = some (stB zs p)) (hp : p < 1000000) (h0 : 0 ≤ t) (h1 : t < 1000000000000) :
    ∃ r : Ride, Asked t r ∧ cutCall (R prog) f_jitmake_Stream_AskedRide [.ptr b 0 0, I t] H = some (encRide r, H.set b (stB zs (p + 8))) := by
  have hlt : b < H.length := (List.getElem?_eq_some_iff.1 hb).1
  have nxt : ∀ (q : Nat) (H : Heap), b < H.length → (H.set b (stB zs q))[b]? = some (stB zs q) := fun q H h => List.getElem?_set_self h
  generalize hH1 : H ++ [.arr 8 [.agg [.str [], .str [], .str [], .str [], I 0, I 0, I 0, I 0]]] = H1
  have hb1 : H1[b]? = some (stB zs p) := by rw [← hH1, List.getElem?_append_left hlt]; exact hb
  have hl1 : b < H1.length := by rw [← hH1]; simp; omega
  obtain ⟨x1, m1, e1⟩ := some_cut idsR hb1 (by omega) (by decide) (by decide)
  obtain ⟨x2, m2, e2⟩ := some_cut whoR (nxt (p + 1) H1 hl1) (by omega) (by decide) (by decide)
  rw [set_set_same] at e2
  obtain ⟨x3, m3, e3⟩ := some_cut frmR (nxt (p + 1 + 1) H1 hl1) (by omega) (by decide) (by decide)
  rw [set_set_same] at e3
  obtain ⟨x4, m4, e4⟩ := some_cut toR (nxt (p + 1 + 1 + 1) H1 hl1) (by omega) (by decide) (by decide)
  rw [set_set_same] at e4
  obtain ⟨x5, m5, e5⟩ := pick_cut [0, 5, 10, 30, 50] (nxt (p + 1 + 1 + 1 + 1) H1 hl1) (by omega) (by decide) (by decide)
  rw [set_set_same] at e5
  obtain ⟨x6, m6, e6⟩ := pick_cut [1, 1, 2, 3] (nxt (p + 1 + 1 + 1 + 1 + 1) H1 hl1) (by omega) (by decide) (by decide)
  rw [set_set_same] at e6
  obtain ⟨x7, m7, e7⟩ := pick_cut [0, 0, 0, 1] (nxt (p + 1 + 1 + 1 + 1 + 1 + 1) H1 hl1) (by omega) (by decide) (by decide)
  rw [set_set_same] at e7
  have r5 : 0 ≤ x5 ∧ x5 ≤ 50 := by simp at m5; omega
  have hl8 : b < (H1.set b (stB zs (p + 1 + 1 + 1 + 1 + 1 + 1 + 1))).length := by simpa using hl1
  obtain ⟨x8, m8, e8⟩ := pick_cut (H := H1.set b (stB zs (p + 1 + 1 + 1 + 1 + 1 + 1 + 1)) ++ [.arr 8 [.agg [.str x1, .str x2, .str x3, .str x4, I (t + x5), I 0, I x6, I x7]]]) [1, 10, 20, 40] (by rw [List.getElem?_append_left hl8]; exact nxt _ H1 hl1) (by omega) (by decide) (by decide)
  have r8 : 1 ≤ x8 ∧ x8 ≤ 40 := by simp at m8; omega
  refine ⟨⟨x1, x2, x3, x4, t + x5, t + x5 + x8, x6, x7⟩, ?_, cut_of hlt rfl ?_⟩
  · refine ⟨m1, m2, m3, m4, ?_, ?_, m6, m7⟩
    · simpa [show t + x5 - t = x5 by omega] using m5
    · simpa [show t + x5 + x8 - (t + x5) = x8 by omega] using m8
  refine r_jitmake_Stream_AskedRide _ _ _ ?_
  refine step (box_ok (by rfl) (by rfl)) ?_
  simp only [hH1]
  refine step (r := (.vslice (idsR.map .str), H1)) rfl ?_
  refine step e1 ?_
  refine step (r := (.vslice (whoR.map .str), H1.set b (stB zs (p + 1)))) rfl ?_
  refine step e2 ?_
  refine step (r := (.vslice (frmR.map .str), H1.set b (stB zs (p + 1 + 1)))) rfl ?_
  refine step e3 ?_
  refine step (r := (.vslice (toR.map .str), H1.set b (stB zs (p + 1 + 1 + 1)))) rfl ?_
  refine step e4 ?_
  refine step (r := (.vslice (([0, 5, 10, 30, 50] : List Int).map I), H1.set b (stB zs (p + 1 + 1 + 1 + 1)))) rfl ?_
  refine step e5 ?_
  rw [add64 _ _ (by omega) (by omega)]
  simp only [SS]
  refine step (r := (.vslice (([1, 1, 2, 3] : List Int).map I), H1.set b (stB zs (p + 1 + 1 + 1 + 1 + 1)))) rfl ?_
  refine step e6 ?_
  refine step (r := (.vslice (([0, 0, 0, 1] : List Int).map I), H1.set b (stB zs (p + 1 + 1 + 1 + 1 + 1 + 1)))) rfl ?_
  refine step e7 ?_
  refine step (r := .agg [.str x1, .str x2, .str x3, .str x4, I (t + x5), I 0, I x6, I x7]) rfl ?_
  refine step (box_ok (by rfl) (by rfl)) ?_
  dsimp only
  refine step (store_box (by rfl) (by rfl) (by rfl)) ?_
  refine step (r := .ptr (H1.set b (stB zs (p + 1 + 1 + 1 + 1 + 1 + 1 + 1))).length 0 4) rfl ?_
  refine step ((load_box _ _ _ _ _).trans rfl) ?_
  refine step (r := (.vslice (([1, 10, 20, 40] : List Int).map I), _)) rfl ?_
  refine step e8 ?_
  rw [List.set_append_left _ _ hl8, set_set_same]
  simp only [List.length_set]
  have hL : H1.length = H.length + 1 := by rw [← hH1]; simp
  generalize hK : H1.set b (stB zs (p + 1 + 1 + 1 + 1 + 1 + 1 + 1 + 1)) ++ [Blk.arr 8 [AV.agg [AV.str x1, AV.str x2, AV.str x3, AV.str x4, I (t + x5), I 0, I x6, I x7]]] = K
  have kb : K[b]? = some (stB zs (p + 8)) := by rw [← hK, List.getElem?_append_left (by simpa using hl1)]; exact nxt _ H1 hl1
  have k1 : K[H1.length]? = some (.arr 8 [AV.agg [AV.str x1, AV.str x2, AV.str x3, AV.str x4, I (t + x5), I 0, I x6, I x7]]) := by rw [← hK, List.getElem?_append_right (by simp)]; simp
  have k0 : K[H.length]? = some (.arr 8 [.agg [.str [], .str [], .str [], .str [], I 0, I 0, I 0, I 0]]) := by
    rw [← hK, List.getElem?_append_left (by simp; omega), List.getElem?_set_ne (by omega), ← hH1]; simp
  have ko : ∀ c, c < H.length → c ≠ b → K[c]? = H[c]? := by
    intro c hc hcb
    rw [← hK, List.getElem?_append_left (by simp; omega), List.getElem?_set_ne (Ne.symm hcb), ← hH1, List.getElem?_append_left hc]
  have kl : K.length = H.length + 2 := by rw [← hK]; simp; omega
  refine step (add64 _ _ (by omega) (by omega)) ?_
  refine step (r := .ptr H1.length 0 5) rfl ?_
  refine step (store_ptr (x := I (t + x5 + x8)) k1 rfl rfl rfl (by simp [AV.cells]) rfl) ?_
  have kd : ¬ H1.length = b := by omega
  have kd' : (chkK [(AV.ptr H1.length 0 4, AV.ptr b 0 0)] : Option (AV × Heap) → Option (AV × Heap)) = fun x => x := by
    funext x; have : Nat.beq H1.length b = false := by cases h : Nat.beq H1.length b; rfl; exact absurd (Nat.eq_of_beq_eq_true h) kd
    simp [chkK, X.differ, AV.blockOf, this]
  rw [kd']
  generalize hK2 : K.set H1.length _ = K2
  have q1 : K2[H1.length]? = some (.arr 8 [AV.agg [AV.str x1, AV.str x2, AV.str x3, AV.str x4, I (t + x5), I (t + x5 + x8), I x6, I x7]]) := by
    rw [← hK2]; exact List.getElem?_set_self (by omega)
  have q0 : K2[H.length]? = some (.arr 8 [.agg [.str [], .str [], .str [], .str [], I 0, I 0, I 0, I 0]]) := by rw [← hK2, List.getElem?_set_ne (by omega)]; exact k0
  have ql : K2.length = H.length + 2 := by rw [← hK2]; simpa using kl
  have qb : K2[b]? = some (stB zs (p + 8)) := by rw [← hK2, List.getElem?_set_ne (by omega)]; exact kb
  have qo : ∀ c, c < H.length → c ≠ b → K2[c]? = H[c]? := by
    intro c hc hcb; rw [← hK2, List.getElem?_set_ne (by omega)]; exact ko c hc hcb
  refine step (load_ptr (v := .agg [AV.str x1, AV.str x2, AV.str x3, AV.str x4, I (t + x5), I (t + x5 + x8), I x6, I x7]) q1 rfl rfl) ?_
  refine step (store_ptr (x := .agg [AV.str x1, AV.str x2, AV.str x3, AV.str x4, I (t + x5), I (t + x5 + x8), I x6, I x7]) q0 rfl rfl rfl (by simp [AV.cells]) rfl) ?_
  refine step (load_ptr (v := .agg [AV.str x1, AV.str x2, AV.str x3, AV.str x4, I (t + x5), I (t + x5 + x8), I x6, I x7]) (List.getElem?_set_self (by omega)) rfl rfl) ?_
  refine yl_some.2 ⟨⟨by simp; omega, fun c hc hcb => ?_⟩, ?_, rfl, rfl⟩
  · rw [List.getElem?_set_ne (by omega)]; exact qo c hc hcb
  · rw [List.getElem?_set_ne (by omega)]; exact qb
end Y
end Go.Proofs.YtplginnkececaaaGreatDoor

set_option linter.unusedSimpArgs false
set_option linter.unusedVariables false
namespace Go.Proofs.YtplginnkececaaaGreatDoor
open Go
namespace Y
open X

def ridersOf (a b c : Int) : List Rider := [⟨[97, 110, 110], a, b⟩, ⟨[98, 111, 98], 9, 20⟩, ⟨[99, 105, 100], c, 5⟩]

theorem riders_cut {H : Heap} {b p : Nat} {zs : List Int} (hb : H[b]? = some (stB zs p)) (hp : p < 1000000) :
    ∃ (a c d : Int) (n : Nat), a ∈ ([1, 2, 3, 9] : List Int) ∧ c ∈ ([2, 4, 9] : List Int) ∧ d ∈ ([0, 1, 5] : List Int) ∧ (n = 2 ∨ n = 3) ∧
      cutCall (R prog) f_jitmake_Stream_RightRiders [.ptr b 0 0] H = some (.vslice (((ridersOf a c d).take n).map encRider), H.set b (stB zs (p + 4))) := by
  have hlt : b < H.length := (List.getElem?_eq_some_iff.1 hb).1
  have nxt : ∀ (q : Nat), (H.set b (stB zs q))[b]? = some (stB zs q) := fun q => List.getElem?_set_self hlt
  obtain ⟨x1, m1, e1⟩ := pick_cut [1, 2, 3, 9] hb (by omega) (by decide) (by decide)
  obtain ⟨x2, m2, e2⟩ := pick_cut [2, 4, 9] (nxt (p + 1)) (by omega) (by decide) (by decide)
  rw [set_set_same] at e2
  obtain ⟨x3, m3, e3⟩ := pick_cut [0, 1, 5] (nxt (p + 1 + 1)) (by omega) (by decide) (by decide)
  rw [set_set_same] at e3
  obtain ⟨x4, m4, e4⟩ := pick_cut [2, 3, 3, 3] (nxt (p + 1 + 1 + 1)) (by omega) (by decide) (by decide)
  rw [set_set_same] at e4
  obtain ⟨n, rfl, hn⟩ : ∃ n : Nat, x4 = (n : Int) ∧ (n = 2 ∨ n = 3) := by
    simp at m4
    rcases m4 with h | h
    · exact ⟨2, h, .inl rfl⟩
    · exact ⟨3, h, .inr rfl⟩
  refine ⟨x1, x2, x3, n, m1, m2, m3, hn, cut_of hlt rfl ?_⟩
  refine r_jitmake_Stream_RightRiders _ _ ?_
  refine step (r := (.vslice (([1, 2, 3, 9] : List Int).map I), H)) rfl ?_
  refine step e1 ?_
  refine step (r := (.vslice (([2, 4, 9] : List Int).map I), H.set b (stB zs (p + 1)))) rfl ?_
  refine step e2 ?_
  refine step (r := .agg [.str [97, 110, 110], I x1, I x2]) rfl ?_
  refine step (r := .agg [.str [98, 111, 98], I 9, I 20]) rfl ?_
  refine step (r := (.vslice (([0, 1, 5] : List Int).map I), H.set b (stB zs (p + 1 + 1)))) rfl ?_
  refine step e3 ?_
  refine step (r := .agg [.str [99, 105, 100], I x3, I 5]) rfl ?_
  refine step (r := (.vslice ((ridersOf x1 x2 x3).map encRider), H.set b (stB zs (p + 1 + 1 + 1)))) rfl ?_
  refine step (r := (.vslice (([2, 3, 3, 3] : List Int).map I), H.set b (stB zs (p + 1 + 1 + 1)))) rfl ?_
  refine step e4 ?_
  refine step (slice_vs_to (by simp [ridersOf]; omega)) ?_
  refine yl_some.2 ⟨Stay.one, nxt _, ?_, ?_⟩
  · rcases hn with rfl | rfl <;> rfl
  · rcases hn with rfl | rfl <;> rfl
end Y
end Go.Proofs.YtplginnkececaaaGreatDoor

set_option linter.unusedSimpArgs false
set_option linter.unusedVariables false
namespace Go.Proofs.YtplginnkececaaaGreatDoor
open Go
namespace Y
open X

theorem Own.setb {H : Heap} {sz b L : Nat} {v : AV} {l : List AV} {k : Blk} (h : Own H sz v l) (hl : Lo L v) (hb : b < L) : Own (H.set b k) sz v l := by
  rcases h with ⟨rfl, rfl⟩ | ⟨c, es, rfl, hbk, h1, h2⟩
  · exact .nil _ _
  · have := hl c rfl
    exact .inr ⟨c, es, rfl, by rw [List.getElem?_set_ne (by omega)]; exact hbk, h1, h2⟩

theorem range_num {H : Heap} {b p : Nat} {zs : List Int} {lo hi : Int} (hb : H[b]? = some (stB zs p)) (hp : p < 1000000000) (h1 : -1000000000000 ≤ lo) (h2 : lo ≤ hi) (h3 : hi ≤ 1000000000000) :
    ∃ x, lo ≤ x ∧ x ≤ hi ∧ R prog f_jitmake_Stream_Range [.ptr b 0 0, I lo, I hi] H = some (I x, H.set b (stB zs (p + 1))) := by
  have hr := nx_range zs p (n := hi - lo + 1) (by omega)
  refine ⟨lo + nx zs p (hi - lo + 1), by omega, by omega, ?_⟩
  suffices h : Yl (R prog f_jitmake_Stream_Range [.ptr b 0 0, I lo, I hi] H) fun v H' => v = I (lo + nx zs p (hi - lo + 1)) ∧ H' = H.set b (stB zs (p + 1)) by
    obtain ⟨v, H', h1, rfl, rfl⟩ := h; exact h1
  refine r_jitmake_Stream_Range _ _ _ _ ?_
  simp only [SS]
  rw [if_neg (by omega), sub64 _ _ (by omega) (by omega)]
  simp only [SS]
  rw [add64 _ _ (by omega) (by omega)]
  simp only [SS, next_ok hb hp (show (-4611686018427387904 : Int) ≤ hi - lo + 1 by omega) (show hi - lo + 1 < 4611686018427387904 by omega)]
  refine step (add64 _ _ (by omega) (by omega)) ?_
  exact yl_some.2 ⟨rfl, rfl⟩

structure RoomsTo (f : Int) (l : List Room) : Prop where
  pw : l.Pairwise fun a b => a.to ≤ b.frm
  all : ∀ r ∈ l, 0 ≤ r.frm ∧ r.frm + 20 ≤ r.to ∧ r.to ≤ f ∧ 0 ≤ r.seats ∧ r.seats ≤ 5

theorem RoomsTo.more {f t g s : Int} {l : List Room} (h : RoomsTo f l) (h0 : 0 ≤ f) (h1 : f + 20 ≤ t) (h2 : t ≤ g) (h3 : 0 ≤ s) (h4 : s ≤ 5) : RoomsTo g (l ++ [⟨f, t, s⟩]) := by
  refine ⟨List.pairwise_append.2 ⟨h.pw, by simp, fun a ha b hb => ?_⟩, fun r hr => ?_⟩
  · simp at hb; subst hb; exact (h.all a ha).2.2.1
  · rcases List.mem_append.1 hr with hr | hr
    · have := h.all r hr; omega
    · simp at hr; subst hr; exact ⟨h0, h1, h2, h3, h4⟩

theorem rooms_loop {b L N : Nat} {zs : List Int} {Q : AV → Heap → Prop} {k0 : AV → Heap → Option (AV × Heap)} (hbL : b < L) (hN : N ≤ 3) (m : Nat) : ∀ (i p : Nat) (H : Heap) (v3 : AV) (l : List Room) (f : Int), m + i = N → H[b]? = some (stB zs p) → p < 1000000 + 3 * i → Own H 3 v3 (l.map encRoom) → Lo L v3 → L ≤ H.length → l.length = i → RoomsTo f l → 0 ≤ f → f ≤ 10 + 110 * i →
    (∀ H' v3' l' p', Stay L b H H' → H'[b]? = some (stB zs p') → Own H' 3 v3' (l'.map encRoom) → Lo L v3' → RoomsTo 1000 l' → l'.length = N → p' ≤ p + 3 * m → Yl (k0 v3' H') Q) →
    Yl (l_jitmake_Stream_RightRooms_0 (.ptr b 0 0) v3 (I f) (I N) (I i) H k0) Q := by
  induction m with
  | zero =>
    intro i p H v3 l f hm hb hp ho hl hH hi hr h0 hf hq
    refine l_jitmake_Stream_RightRooms_0_s _ _ _ _ _ _ _ ?_
    obtain rfl : i = N := by omega
    simp only [SS]
    rw [if_neg (by omega)]
    exact hq H v3 l p (.refl _ _ _) hb ho hl ⟨hr.pw, fun r h => by have := hr.all r h; omega⟩ hi (by omega)
  | succ m ih =>
    intro i p H v3 l f hm hb hp ho hl hH hi hr h0 hf hq
    refine l_jitmake_Stream_RightRooms_0_s _ _ _ _ _ _ _ ?_
    simp only [SS]
    rw [if_pos (by omega)]
    have hlt : b < H.length := by omega
    have nxt : ∀ (q : Nat), (H.set b (stB zs q))[b]? = some (stB zs q) := fun q => List.getElem?_set_self hlt
    obtain ⟨x1, m1, e1⟩ := pick_cut [20, 40, 100] hb (by omega) (by decide) (by decide)
    obtain ⟨x2, m2, e2⟩ := pick_cut [0, 1, 2, 3, 5] (nxt (p + 1)) (by omega) (by decide) (by decide)
    rw [set_set_same] at e2
    have r1 : 20 ≤ x1 ∧ x1 ≤ 100 := by simp at m1; omega
    have r2 : 0 ≤ x2 ∧ x2 ≤ 5 := by simp at m2; omega
    refine step (r := (.vslice (([20, 40, 100] : List Int).map I), H)) rfl ?_
    refine step e1 ?_
    refine step (add64 _ _ (by omega) (by omega)) ?_
    refine step (r := .agg [I f, I (f + x1)]) rfl ?_
    refine step (r := (.vslice (([0, 1, 2, 3, 5] : List Int).map I), H.set b (stB zs (p + 1)))) rfl ?_
    refine step e2 ?_
    refine step (r := encRoom ⟨f, f + x1, x2⟩) rfl ?_
    refine step (r := (.vslice [encRoom ⟨f, f + x1, x2⟩], H.set b (stB zs (p + 1 + 1)))) rfl ?_
    obtain ⟨v', H', g1, g2, g3⟩ := append_own (y := .vslice [encRoom ⟨f, f + x1, x2⟩]) (xs := [encRoom ⟨f, f + x1, x2⟩]) (bytes := 24) (ho.setb (k := stB zs (p + 1 + 1)) hl hbL) (elems_vslice _ _) rfl rfl (by omega) (by simp; omega)
    refine step g1 ?_
    obtain ⟨k1, k2⟩ := g3.lo hl (by simpa using hH)
    have hb' : H'[b]? = some (stB zs (p + 1 + 1)) := by rw [(k2 (b + 1)).old b hbL (by omega)]; exact nxt _
    obtain ⟨x3, m3, e3⟩ := pick_cut [0, 0, 10] hb' (by omega) (by decide) (by decide)
    have r3 : 0 ≤ x3 ∧ x3 ≤ 10 := by simp at m3; omega
    refine step (r := (.vslice (([0, 0, 10] : List Int).map I), H')) rfl ?_
    refine step e3 ?_
    refine step (add64 _ _ (by omega) (by omega)) ?_
    refine step (succ64 _ _ (by omega)) ?_
    have hlen : L ≤ H'.length := Nat.le_trans hH (by have := g3.len; simpa using this)
    have hl' : b < H'.length := by omega
    refine ih (i + 1) (p + 1 + 1 + 1) (H'.set b (stB zs (p + 1 + 1 + 1))) v' (l ++ [⟨f, f + x1, x2⟩]) (f + x1 + x3) (by omega) (List.getElem?_set_self hl') (by omega) (by simpa using g2.setb k1 hbL) k1 (by simpa using hlen) (by simp; omega) (hr.more h0 (by omega) (by omega) (by omega) (by omega)) (by omega) (by omega) ?_
    intro H'' v'' l'' p'' s1 s2 s3 s4 s5 s6 s7
    exact hq H'' v'' l'' p'' (((Stay.set (k := stB zs (p + 1 + 1))).trans (k2 b)).trans (Stay.set.trans s1)) s2 s3 s4 s5 s6 (by omega)

theorem mapM_room (H : Heap) (k : Nat) (hk : 2 ≤ k) : ∀ l : List Room, (l.map encRoom).mapM (snap H k) = some (l.map encRoom)
  | [] => rfl
  | r :: l => by
    obtain ⟨k, rfl⟩ := Nat.exists_eq_add_of_le hk
    rw [List.map_cons, List.mapM_cons, mapM_room H (2 + k) (by omega) l, show 2 + k = k + 1 + 1 by omega]
    simp [snap, encRoom]

theorem rooms_cut {H : Heap} {b p : Nat} {zs : List Int} (hb : H[b]? = some (stB zs p)) (hp : p < 900000) :
    ∃ (l : List Room) (q : Nat), RoomsTo 1000 l ∧ l.length ≤ 3 ∧ q ≤ p + 11 ∧ cutCall (R prog) f_jitmake_Stream_RightRooms [.ptr b 0 0] H = some (.vslice (l.map encRoom), H.set b (stB zs q)) := by
  have hlt : b < H.length := (List.getElem?_eq_some_iff.1 hb).1
  have nxt : ∀ (q : Nat), (H.set b (stB zs q))[b]? = some (stB zs q) := fun q => List.getElem?_set_self hlt
  obtain ⟨x1, m1, e1⟩ := pick_cut [0, 0, 10] hb (by omega) (by decide) (by decide)
  obtain ⟨x2, g1, g2, e2⟩ := range_num (lo := 0) (hi := 3) (nxt (p + 1)) (by omega) (by omega) (by omega) (by omega)
  rw [set_set_same] at e2
  have r1 : 0 ≤ x1 ∧ x1 ≤ 10 := by simp at m1; omega
  obtain ⟨N, rfl⟩ : ∃ N : Nat, x2 = (N : Int) := ⟨_, (Int.toNat_of_nonneg g1).symm⟩
  suffices h : Yl (R prog f_jitmake_Stream_RightRooms [.ptr b 0 0] H) fun v H' => ∃ (l : List Room) (q : Nat), RoomsTo 1000 l ∧ l.length ≤ 3 ∧ q ≤ p + 11 ∧ Stay H.length b H H' ∧ H'[b]? = some (stB zs q) ∧ Own H' 3 v (l.map encRoom) ∧ Lo H.length v by
    obtain ⟨v, H', h1, l, q, a1, a2, a3, a4, a5, a6, a7⟩ := h
    refine ⟨l, q, a1, a2, a3, cut_of hlt rfl ⟨v, H', h1, a4, a5, a6.snap (mapM_room _ _ (by omega) l), ?_⟩⟩
    refine a6.aboveK a7 (List.all_eq_true.2 fun u hu => ?_)
    obtain ⟨r, _, rfl⟩ := List.mem_map.1 hu
    rfl
  refine r_jitmake_Stream_RightRooms _ _ ?_
  refine step (r := (.vslice (([0, 0, 10] : List Int).map I), H)) rfl ?_
  refine step e1 ?_
  refine step e2 ?_
  refine rooms_loop (L := H.length) (N := N) hlt (by omega) N 0 (p + 1 + 1) _ _ [] x1 (by omega) (nxt _) (by omega) (.nil _ _) (.nil _) (by simp) rfl ⟨by simp, by simp⟩ (by omega) (by omega) ?_
  intro H' v3' l' p' s1 s2 s3 s4 s5 s6 s7
  exact yl_some.2 ⟨l', p', s5, by omega, by omega, Stay.set.trans s1, s2, s3, s4⟩
end Y
end Go.Proofs.YtplginnkececaaaGreatDoor

set_option linter.unusedSimpArgs false
set_option linter.unusedVariables false
namespace Go.Proofs.YtplginnkececaaaGreatDoor
open Go
namespace Y
open X

theorem odd_cut {H : Heap} {b p : Nat} {zs : List Int} {lo hi : Int} (hb : H[b]? = some (stB zs p)) (hp : p < 1000000) (h1 : 0 ≤ lo) (h2 : lo ≤ hi) (h3 : hi ≤ 1000000) :
    ∃ (x : Int) (q : Nat), -1099511627776 ≤ x ∧ x ≤ 1099511627776 ∧ q ≤ p + 2 ∧ cutCall (R prog) f_jitmake_Stream_Odd [.ptr b 0 0, I lo, I hi] H = some (I x, H.set b (stB zs q)) := by
  have hlt : b < H.length := (List.getElem?_eq_some_iff.1 hb).1
  have nxt : ∀ (q : Nat), (H.set b (stB zs q))[b]? = some (stB zs q) := fun q => List.getElem?_set_self hlt
  have e0 := flip_ok (n := 12) hb (by omega) (by omega) (by omega)
  obtain ⟨x1, m1, e1⟩ := pick_cut [lo - 1, hi + 1, lo, hi, -1099511627776, 1099511627776] (nxt (p + 1)) (by omega) (by simp) (by simp)
  rw [set_set_same] at e1
  obtain ⟨x2, g1, g2, e2⟩ := range_num (lo := lo) (hi := hi) (nxt (p + 1)) (by omega) (by omega) (by omega) (by omega)
  rw [set_set_same] at e2
  by_cases hf : nx zs p 12 = 0
  · refine ⟨x1, p + 2, by simp at m1; omega, by simp at m1; omega, by omega, cut_of hlt rfl ?_⟩
    refine r_jitmake_Stream_Odd _ _ _ _ ?_
    refine step e0 ?_
    simp only [hf, decide_true, condK_bool, if_true]
    refine step (sub64 _ _ (by omega) (by omega)) ?_
    refine step (add64 _ _ (by omega) (by omega)) ?_
    refine step (r := (.vslice (([lo - 1, hi + 1, lo, hi, -1099511627776, 1099511627776] : List Int).map I), H.set b (stB zs (p + 1)))) rfl ?_
    refine step e1 ?_
    exact yl_some.2 ⟨Stay.one, nxt _, rfl, rfl⟩
  · refine ⟨x2, p + 2, by omega, by omega, by omega, cut_of hlt rfl ?_⟩
    refine r_jitmake_Stream_Odd _ _ _ _ ?_
    refine step e0 ?_
    simp only [hf, decide_false, condK_bool, if_false, Bool.false_eq_true]
    refine step e2 ?_
    exact yl_some.2 ⟨Stay.one, nxt _, rfl, rfl⟩
end Y
end Go.Proofs.YtplginnkececaaaGreatDoor

set_option linter.unusedSimpArgs false
set_option linter.unusedVariables false
namespace Go.Proofs.YtplginnkececaaaGreatDoor
open Go
namespace Y
open X

structure Sane (r : Ride) : Prop where
  id : r.id ∈ idsR ∨ r.id = [] ∨ r.id = [65]
  rider : r.rider ∈ whoR ∨ r.rider = [] ∨ r.rider = [66]
  frm : r.frm ∈ [[], [104, 111, 109, 101], [119, 111, 114, 107], [99, 108, 117, 98]]
  to : r.to ∈ [[], [99, 108, 117, 98], [115, 104, 111, 112], [65]]
  ready : -1099511627776 ≤ r.ready ∧ r.ready ≤ 1099511627776
  due : -1099511627776 ≤ r.due ∧ r.due ≤ 1099511627776
  seats : -1 ≤ r.seats ∧ r.seats ≤ 61
  wheels : -1099511627776 ≤ r.wheels ∧ r.wheels ≤ 1099511627776

def boxR (r : Ride) : Blk := .arr 8 [encRide r]
def ride0 : Ride := ⟨[], [], [], [], 0, 0, 0, 0⟩

theorem spoilt_end {H H2 : Heap} {b q : Nat} {zs : List Int} {r : Ride} (hlt : b < H.length) (hl : H2.length = H.length + 2) (hb : H2[b]? = some (stB zs q)) (hr : H2[H.length]? = some (boxR r)) (h0 : H2[H.length + 1]? = some (boxR ride0)) (ho : ∀ c, c < H.length → c ≠ b → H2[c]? = H[c]?) :
    Yl (j_jitmake_Stream_SpoiltRide_1 (.ptr H.length 0 0) (.ptr (H.length + 1) 0 0) H2) fun v H' => Stay H.length b H H' ∧ H'[b]? = some (stB zs q) ∧ snap H' deep v = some (encRide r) ∧ above H' H.length deep v = true := by
  unfold j_jitmake_Stream_SpoiltRide_1
  refine step (load_ptr (v := encRide r) hr rfl rfl) ?_
  refine step (store_ptr (x := encRide r) h0 rfl rfl rfl (by simp [AV.cells, encRide, boxR, ride0, Ride.cells]) rfl) ?_
  refine step (load_ptr (v := encRide r) (List.getElem?_set_self (by omega)) rfl rfl) ?_
  refine yl_some.2 ⟨⟨by simp; omega, fun c hc hcb => ?_⟩, ?_, rfl, rfl⟩
  · rw [List.getElem?_set_ne (by omega)]; exact ho c hc hcb
  · rw [List.getElem?_set_ne (by omega)]; exact hb

structure Sp (H : Heap) (b : Nat) (zs : List Int) (q : Nat) (r : Ride) (H2 : Heap) : Prop where
  lt : b < H.length
  len : H2.length = H.length + 2
  st : H2[b]? = some (stB zs q)
  rd : H2[H.length]? = some (boxR r)
  zero : H2[H.length + 1]? = some (boxR ride0)
  old : ∀ c, c < H.length → c ≠ b → H2[c]? = H[c]?

theorem Sp.stream {H : Heap} {b q : Nat} {zs : List Int} {r : Ride} {H2 : Heap} (h : Sp H b zs q r H2) (q' : Nat) : Sp H b zs q' r (H2.set b (stB zs q')) := by
  have := h.lt; have := h.len
  refine ⟨h.lt, by simpa using h.len, List.getElem?_set_self (by omega), ?_, ?_, fun c hc hcb => ?_⟩
  · rw [List.getElem?_set_ne (by omega)]; exact h.rd
  · rw [List.getElem?_set_ne (by omega)]; exact h.zero
  · rw [List.getElem?_set_ne (Ne.symm hcb)]; exact h.old c hc hcb

theorem Sp.ride {H : Heap} {b q : Nat} {zs : List Int} {r : Ride} {H2 : Heap} (h : Sp H b zs q r H2) (r' : Ride) : Sp H b zs q r' (H2.set H.length (boxR r')) := by
  have := h.lt; have := h.len
  refine ⟨h.lt, by simpa using h.len, ?_, List.getElem?_set_self (by omega), ?_, fun c hc hcb => ?_⟩
  · rw [List.getElem?_set_ne (by omega)]; exact h.st
  · rw [List.getElem?_set_ne (by omega)]; exact h.zero
  · rw [List.getElem?_set_ne (by omega)]; exact h.old c hc hcb

theorem Sp.end' {H : Heap} {b q : Nat} {zs : List Int} {r : Ride} {H2 : Heap} (h : Sp H b zs q r H2) :
    Yl (j_jitmake_Stream_SpoiltRide_1 (.ptr H.length 0 0) (.ptr (H.length + 1) 0 0) H2) fun v H' => Stay H.length b H H' ∧ H'[b]? = some (stB zs q) ∧ snap H' deep v = some (encRide r) ∧ above H' H.length deep v = true :=
  spoilt_end h.lt h.len h.st h.rd h.zero h.old

theorem Sp.start {H : Heap} {b q : Nat} {zs : List Int} (r : Ride) (hb : H[b]? = some (stB zs q)) : Sp H b zs q r (H ++ [boxR r] ++ [boxR ride0]) := by
  have hlt : b < H.length := (List.getElem?_eq_some_iff.1 hb).1
  refine ⟨hlt, by simp, ?_, ?_, ?_, fun c hc hcb => ?_⟩
  · rw [List.append_assoc, List.getElem?_append_left hlt]; exact hb
  · simp
  · rw [List.getElem?_append_right (by simp)]; simp
  · rw [List.append_assoc, List.getElem?_append_left hc]
end Y
end Go.Proofs.YtplginnkececaaaGreatDoor

set_option linter.unusedSimpArgs false
set_option linter.unusedVariables false
namespace Go.Proofs.YtplginnkececaaaGreatDoor
open Go
namespace Y
open X

theorem Sp.put {H : Heap} {b q : Nat} {zs : List Int} {r : Ride} {H2 : Heap} (h : Sp H b zs q r H2) (r' : Ride) (k : Nat) (v : AV) (hk : k + 1 ≤ 8) (hv : v.cells.length = 1) (hs : v.cells.all AV.storable = true) (he : (encRide r).setCells k v.cells = encRide r') :
    storeAV H2 1 (.ptr H.length 0 k) v = some (H2.set H.length (boxR r')) := by
  have h1 : H2[H.length]? = some (.arr 8 [encRide r]) := h.rd
  have h2 : [encRide r][0]? = some (encRide r) := rfl
  have := store_ptr (n := 1) (x := v) (o := k) h1 h2 hv hs (by simpa [AV.cells, encRide, Ride.cells] using hk) rfl
  rw [this, he]; rfl

theorem Sp.load {H : Heap} {b q : Nat} {zs : List Int} {r : Ride} {H2 : Heap} (h : Sp H b zs q r H2) (k : Nat) (v : AV) (hv : pickAV none (encRide r).cells k = some v) : loadAV H2 none (.ptr H.length 0 k) = some v := load_ptr h.rd rfl hv

theorem lit3_str (H : Heap) (a b c : Str) : litAV 1 [.str [], .str [], .str []] [(0, .str a), (1, .str b), (2, .str c)] false H = some (.vslice ([a, b, c].map .str), H) := (rfl)
theorem lit2_str (H : Heap) (a b : Str) : litAV 1 [.str [], .str []] [(0, .str a), (1, .str b)] false H = some (.vslice ([a, b].map .str), H) := (rfl)
theorem lit4_int (H : Heap) (a b c d : Int) : litAV 1 [I 0, I 0, I 0, I 0] [(0, I a), (1, I b), (2, I c), (3, I d)] false H = some (.vslice ([a, b, c, d].map I), H) := (rfl)
theorem lit3_int (H : Heap) (a b c : Int) : litAV 1 [I 0, I 0, I 0] [(0, I a), (1, I b), (2, I c)] false H = some (.vslice ([a, b, c].map I), H) := (rfl)

theorem chk_ok {α : Type} {b i o c j p : Nat} (h : b ≠ c) (K : Option α) : chkK [(.ptr b i o, .ptr c j p)] K = K := by
  have : Nat.beq b c = false := by
    cases hb : Nat.beq b c with
    | false => rfl
    | true => exact absurd (Nat.eq_of_beq_eq_true hb) h
  unfold chkK
  rw [if_pos]
  simp only [List.all_cons, List.all_nil, Bool.and_true]
  show (!Nat.beq b c) = true
  rw [this]; rfl

theorem spoilt_cut {H : Heap} {b p : Nat} {zs : List Int} {r : Ride} (hb : H[b]? = some (stB zs p)) (hp : p < 100000) (hs : Sane r) :
    ∃ (r' : Ride) (q : Nat), Sane r' ∧ q ≤ p + 3 ∧ cutCall (R prog) f_jitmake_Stream_SpoiltRide [.ptr b 0 0, encRide r] H = some (encRide r', H.set b (stB zs q)) := by
  have hlt : b < H.length := (List.getElem?_eq_some_iff.1 hb).1
  suffices h : ∃ (r' : Ride) (q : Nat), Sane r' ∧ q ≤ p + 3 ∧ Yl (R prog f_jitmake_Stream_SpoiltRide [.ptr b 0 0, encRide r] H) fun v H' => Stay H.length b H H' ∧ H'[b]? = some (stB zs q) ∧ snap H' deep v = some (encRide r') ∧ above H' H.length deep v = true by
    obtain ⟨r', q, h1, h2, h3⟩ := h
    exact ⟨r', q, h1, h2, cut_of hlt rfl h3⟩
  have s0 := Sp.start r hb
  have e0 := next_ok (n := 6) s0.st (by omega) (by omega) (by omega)
  have s1 := s0.stream (p + 1)
  have hx := nx_range zs p (n := 6) (by omega)
  generalize nx zs p 6 = x at e0 hx
  generalize hH2 : (H ++ [boxR r] ++ [boxR ride0]).set b (stB zs (p + 1)) = H2 at e0 s1
  have k1 : boxAV 8 (encRide r) H = some (.ptr H.length 0 0, H ++ [boxR r]) := box_ok (by rfl) (by rfl)
  have k2 : boxAV 8 (.agg [.str [], .str [], .str [], .str [], .int .i64 0, .int .i64 0, .int .i64 0, .int .i64 0]) (H ++ [boxR r]) = some (.ptr (H.length + 1) 0 0, H ++ [boxR r] ++ [boxR ride0]) := by
    have := box_ok (H := H ++ [boxR r]) (sz := 8) (v := encRide ride0) rfl rfl
    rw [List.length_append] at this; exact this
  have hne : H.length ≠ b := by omega
  have hx' : x = 0 ∨ x = 1 ∨ x = 2 ∨ x = 3 ∨ x = 4 ∨ x = 5 := by omega
  rcases hx' with rfl | rfl | rfl | rfl | rfl | rfl
  · obtain ⟨x1, m1, e1⟩ := some_cut [r.id, [], [65]] s1.st (by omega) (by simp) (by simp)
    obtain ⟨x2, m2, e2⟩ := some_cut [r.rider, [66], []] (s1.stream (p + 1 + 1)).st (by omega) (by simp) (by simp)
    have s3 := (s1.stream (p + 1 + 1)).stream (p + 1 + 1 + 1)
    have s4 := s3.ride { r with id := x1 }
    have s5 := s4.ride { r with id := x1, rider := x2 }
    refine ⟨{ r with id := x1, rider := x2 }, p + 3, ?_, by omega, ?_⟩
    · simp at m1 m2
      refine ⟨?_, ?_, hs.frm, hs.to, hs.ready, hs.due, hs.seats, hs.wheels⟩
      · rcases m1 with rfl | rfl | rfl
        · exact hs.id
        · simp
        · simp
      · rcases m2 with rfl | rfl | rfl
        · exact hs.rider
        · simp
        · simp
    refine r_jitmake_Stream_SpoiltRide _ _ _ ?_
    simp only [SS, k1, k2, e0, s1.load 0 (.str r.id) rfl, s1.load 1 (.str r.rider) rfl, lit3_str, e1, e2, s3.put { r with id := x1 } 0 (.str x1) (by omega) rfl rfl rfl, s4.put { r with id := x1, rider := x2 } 1 (.str x2) (by omega) rfl rfl rfl, chk_ok hne]
    exact s5.end'
  · obtain ⟨x1, m1, e1⟩ := some_cut [[104, 111, 109, 101], [], [99, 108, 117, 98]] s1.st (by omega) (by simp) (by simp)
    obtain ⟨x2, m2, e2⟩ := some_cut [[99, 108, 117, 98], [65]] (s1.stream (p + 1 + 1)).st (by omega) (by simp) (by simp)
    have s3 := (s1.stream (p + 1 + 1)).stream (p + 1 + 1 + 1)
    have s4 := s3.ride { r with frm := x1 }
    have s5 := s4.ride { r with frm := x1, to := x2 }
    refine ⟨{ r with frm := x1, to := x2 }, p + 3, ?_, by omega, ?_⟩
    · simp at m1 m2
      refine ⟨hs.id, hs.rider, ?_, ?_, hs.ready, hs.due, hs.seats, hs.wheels⟩
      · rcases m1 with rfl | rfl | rfl <;> simp
      · rcases m2 with rfl | rfl <;> simp
    refine r_jitmake_Stream_SpoiltRide _ _ _ ?_
    simp only [SS, k1, k2, e0, lit3_str, lit2_str, e1, e2, s3.put { r with frm := x1 } 2 (.str x1) (by omega) rfl rfl rfl, s4.put { r with frm := x1, to := x2 } 3 (.str x2) (by omega) rfl rfl rfl]
    exact s5.end'
  · obtain ⟨x1, q, m1, m2, m3, e1⟩ := odd_cut (lo := 0) (hi := 100) s1.st (by omega) (by omega) (by omega) (by omega)
    have s3 := s1.stream q
    have s4 := s3.ride { r with ready := x1 }
    refine ⟨{ r with ready := x1 }, q, ⟨hs.id, hs.rider, hs.frm, hs.to, ⟨m1, m2⟩, hs.due, hs.seats, hs.wheels⟩, by omega, ?_⟩
    refine r_jitmake_Stream_SpoiltRide _ _ _ ?_
    simp only [SS, k1, k2, e0, e1, s3.put { r with ready := x1 } 4 (I x1) (by omega) rfl rfl rfl]
    exact s4.end'
  · obtain ⟨x1, q, m1, m2, m3, e1⟩ := odd_cut (lo := 0) (hi := 200) s1.st (by omega) (by omega) (by omega) (by omega)
    have s3 := s1.stream q
    have s4 := s3.ride { r with due := x1 }
    refine ⟨{ r with due := x1 }, q, ⟨hs.id, hs.rider, hs.frm, hs.to, hs.ready, ⟨m1, m2⟩, hs.seats, hs.wheels⟩, by omega, ?_⟩
    refine r_jitmake_Stream_SpoiltRide _ _ _ ?_
    simp only [SS, k1, k2, e0, e1, s3.put { r with due := x1 } 5 (I x1) (by omega) rfl rfl rfl]
    exact s4.end'
  · obtain ⟨x1, m1, e1⟩ := pick_cut [0, 60, 61, -1] s1.st (by omega) (by simp) (by simp)
    obtain ⟨x2, m2, e2⟩ := pick_cut [0, 0, 61] (s1.stream (p + 1 + 1)).st (by omega) (by simp) (by simp)
    have s3 := (s1.stream (p + 1 + 1)).stream (p + 1 + 1 + 1)
    have s4 := s3.ride { r with seats := x1 }
    have s5 := s4.ride { r with seats := x1, wheels := x2 }
    refine ⟨{ r with seats := x1, wheels := x2 }, p + 3, ?_, by omega, ?_⟩
    · simp at m1 m2
      exact ⟨hs.id, hs.rider, hs.frm, hs.to, hs.ready, hs.due, by simp only; omega, by simp only; omega⟩
    refine r_jitmake_Stream_SpoiltRide _ _ _ ?_
    simp only [SS, k1, k2, e0, lit4_int, lit3_int, e1, e2, s3.put { r with seats := x1 } 6 (I x1) (by omega) rfl rfl rfl, s4.put { r with seats := x1, wheels := x2 } 7 (I x2) (by omega) rfl rfl rfl]
    exact s5.end'
  · obtain ⟨x1, q, m1, m2, m3, e1⟩ := odd_cut (lo := 0) (hi := 60) s1.st (by omega) (by omega) (by omega) (by omega)
    have s3 := s1.stream q
    have s4 := s3.ride { r with wheels := x1 }
    refine ⟨{ r with wheels := x1 }, q, ⟨hs.id, hs.rider, hs.frm, hs.to, hs.ready, hs.due, hs.seats, ⟨m1, m2⟩⟩, by omega, ?_⟩
    refine r_jitmake_Stream_SpoiltRide _ _ _ ?_
    simp only [SS, k1, k2, e0, e1, s3.put { r with wheels := x1 } 7 (I x1) (by omega) rfl rfl rfl]
    exact s4.end'
end Y
end Go.Proofs.YtplginnkececaaaGreatDoor

set_option linter.unusedSimpArgs false
set_option linter.unusedVariables false
namespace Go.Proofs.YtplginnkececaaaGreatDoor
open Go
namespace Y
open X

structure SaneA (a : Ask) : Prop where
  ride : Sane a.ride
  at' : -1099511627776 ≤ a.at' ∧ a.at' ≤ 1099511627776
  kind : -1099511627776 ≤ a.kind ∧ a.kind ≤ 1099511627776

theorem Sane.fit {r : Ride} (h : Sane r) : Fit r := by
  have i1 : ∀ s ∈ idsR, s.length < 1000000 := by decide
  have i2 : ∀ s ∈ whoR, s.length < 1000000 := by decide
  have i3 : ∀ s ∈ ([[], [104, 111, 109, 101], [119, 111, 114, 107], [99, 108, 117, 98]] : List Str), s.length < 1000000 := by decide
  have i4 : ∀ s ∈ ([[], [99, 108, 117, 98], [115, 104, 111, 112], [65]] : List Str), s.length < 1000000 := by decide
  refine ⟨?_, ?_, i3 _ h.frm, i4 _ h.to, h.ready, h.due, by have := h.seats; omega, h.wheels⟩
  · rcases h.id with h | h | h
    · exact i1 _ h
    · rw [h]; decide
    · rw [h]; decide
  · rcases h.rider with h | h | h
    · exact i2 _ h
    · rw [h]; decide
    · rw [h]; decide

theorem SaneA.fit {a : Ask} (h : SaneA a) : FitA a := ⟨h.ride.fit, h.at', h.kind⟩

theorem Asked.sane {t : Int} {r : Ride} (h : Asked t r) (h0 : 0 ≤ t) (h1 : t < 1000000000) : Sane r := by
  have a1 := h.ready
  have a2 := h.due
  have a3 := h.seats
  have a4 := h.wheels
  simp at a1 a2 a3 a4
  refine ⟨.inl h.id, .inl h.rider, ?_, ?_, by omega, by omega, by omega, by omega⟩
  · have := h.frm; simp [frmR] at this; rcases this with e | e <;> rw [e] <;> simp
  · have := h.to; simp [toR] at this; rcases this with e | e <;> rw [e] <;> simp

theorem Own.setc {H : Heap} {sz c : Nat} {v : AV} {l : List AV} {k : Blk} (h : Own H sz v l) (hc : v.blockOf ≠ some c) : Own (H.set c k) sz v l := by
  rcases h with ⟨rfl, rfl⟩ | ⟨b, es, rfl, hb, h1, h2⟩
  · exact .nil _ _
  · exact .inr ⟨b, es, rfl, set_other _ (fun e => hc (by simp [AV.blockOf, e])) hb, h1, h2⟩

theorem Own.app {H : Heap} {sz : Nat} {v : AV} {l : List AV} (h : Own H sz v l) (m : List Blk) : Own (H ++ m) sz v l := by
  rcases h with ⟨rfl, rfl⟩ | ⟨b, es, rfl, hb, h1, h2⟩
  · exact .nil _ _
  · exact .inr ⟨b, es, rfl, app_old _ hb, h1, h2⟩

theorem lay_ask : Lay 10 (some 10) encAsk := Lay.agg (f := fun a : Ask => [.int .i64 a.at', .int .i64 a.kind] ++ a.ride.cells) (fun _ => rfl) (fun _ => rfl)

structure Ak (L b : Nat) (zs : List Int) (v : AV) (l : List Ask) (H0 : Heap) (c q : Nat) (a : Ask) (H : Heap) : Prop where
  st : Stay L b H0 H
  str : H[b]? = some (stB zs q)
  own : Own H 10 v (l.map encAsk)
  lo : Lo L v
  bl : b < L
  cl : L ≤ c
  cv : v.blockOf ≠ some c
  box : H[c]? = some (.arr 10 [encAsk a])
  len : L ≤ H.length

section
variable {L b c q : Nat} {zs : List Int} {v : AV} {l : List Ask} {H0 H : Heap} {a : Ask}

theorem Ak.stream (h : Ak L b zs v l H0 c q a H) (q' : Nat) : Ak L b zs v l H0 c q' a (H.set b (stB zs q')) := by
  have := h.bl; have := h.cl
  refine ⟨h.st.trans Stay.set, set_same _ h.str, h.own.setc ?_, h.lo, h.bl, h.cl, h.cv, set_other _ (by omega) h.box, by simpa using h.len⟩
  intro e
  have := h.lo b e
  omega

theorem Ak.new (h : Ak L b zs v l H0 c q a H) (a' : Ask) : Ak L b zs v l H0 c q a' (H.set c (.arr 10 [encAsk a'])) := by
  have := h.bl; have := h.cl
  exact ⟨h.st.trans (Stay.set' h.cl), set_other _ (by omega) h.str, h.own.setc h.cv, h.lo, h.bl, h.cl, h.cv, set_same _ h.box, by simpa using h.len⟩

theorem Ak.app (h : Ak L b zs v l H0 c q a H) (m : List Blk) : Ak L b zs v l H0 c q a (H ++ m) :=
  ⟨h.st.trans (Stay.app _ h.len), app_old _ h.str, h.own.app _, h.lo, h.bl, h.cl, h.cv, app_old _ h.box, by simp; have := h.len; omega⟩

theorem Ak.put (h : Ak L b zs v l H0 c q a H) (a' : Ask) (k n : Nat) (x : AV) (hk : k + n ≤ 10) (hv : x.cells.length = n) (hs : x.cells.all AV.storable = true) (he : (encAsk a).setCells k x.cells = encAsk a') :
    storeAV H n (.ptr c 0 k) x = some (H.set c (.arr 10 [encAsk a'])) := by
  have h2 : [encAsk a][0]? = some (encAsk a) := rfl
  have := store_ptr (x := x) (o := k) h.box h2 hv hs (by simpa [AV.cells, encAsk, Ride.cells] using hk) rfl
  rw [this, he]; rfl

theorem asks_j3 (h : Ak L b zs v l H0 c q a H) (ha : SaneA a) (hq : q < 100000) {t : Int} {i N : Nat} (hi : i < 1000) (hl : l.length < 1000) {k0 : AV → AV → Heap → Option (AV × Heap)} {Q : AV → Heap → Prop}
    (K : ∀ H' v' a' q', Stay L b H0 H' → H'[b]? = some (stB zs q') → Own H' 10 v' ((l ++ [a']).map encAsk) → Lo L v' → SaneA a' → q' ≤ q + 5 → L ≤ H'.length → Yl (l_jitmake_Stream_Asks_0 (.ptr b 0 0) v' (I t) (I N) (I ((i + 1 : Nat) : Int)) H' k0) Q) :
    Yl (j_jitmake_Stream_Asks_3 (.ptr b 0 0) v (I t) (.ptr c 0 0) (I N) (I i) H k0) Q := by
  have fin : ∀ (H2 : Heap) (a2 : Ask) (q2 : Nat), Ak L b zs v l H0 c q2 a2 H2 → SaneA a2 → q2 ≤ q + 5 → Yl (
      (loadAV H2 (some 10) (.ptr c 0 0)).bind fun v81 =>
      (litAV 10 [(.agg [(.int .i64 0), (.int .i64 0), (.str []), (.str []), (.str []), (.str []), (.int .i64 0), (.int .i64 0), (.int .i64 0), (.int .i64 0)])] [(0, v81)] false H2).bind fun r13 =>
      (appendX r13.2 10 112 v r13.1).bind fun r14 =>
      (binAV r14.2 .add (.one .int) (I i) (.int .i64 1)).bind fun v84 =>
      l_jitmake_Stream_Asks_0 (.ptr b 0 0) r14.1 (I t) (I N) v84 r14.2 k0) Q := by
    intro H2 a2 q2 h2 s2 hq2
    obtain ⟨v', H', e1, e2, e3⟩ := h2.own.appendL (bytes := 112) lay_ask a2 (y := .vslice [encAsk a2]) rfl (by omega) (by omega)
    rw [ask_all h2.box]
    simp only [SS]
    rw [lit_one (sz := 10) (v := encAsk a2) rfl rfl rfl]
    simp only [SS, e1]
    rw [succ64 _ _ (by omega)]
    simp only [SS]
    obtain ⟨k1, k2⟩ := e3.lo h2.lo h2.len
    have hbl := h2.bl
    exact K H' v' a2 q2 (h2.st.trans (k2 b)) (by rw [(k2 (b + 1)).old b hbl (by omega)]; exact h2.str) e2 k1 s2 hq2 (Nat.le_trans h2.len e3.len)
  unfold j_jitmake_Stream_Asks_3
  have e0 := flip_ok (n := 100) h.str (by omega) (by omega) (by omega)
  have h1 := h.stream (q + 1)
  rw [e0]
  simp only [SS]
  by_cases hf : nx zs q 100 = 0
  · rw [if_pos hf]
    obtain ⟨x1, q1, m1, m2, m3, e1⟩ := odd_cut (lo := 0) (hi := 100) h1.str (by omega) (by omega) (by omega) (by omega)
    have h2 := h1.stream q1
    obtain ⟨x2, q2, n1, n2, n3, e2⟩ := odd_cut (lo := 1) (hi := 4) h2.str (by omega) (by omega) (by omega) (by omega)
    have h3 := h2.stream q2
    have h4 := h3.new ⟨x1, a.kind, a.ride⟩
    have h5 := h4.new ⟨x1, x2, a.ride⟩
    simp only [e1, e2, h3.put ⟨x1, a.kind, a.ride⟩ 0 1 (I x1) (by omega) rfl rfl rfl, h4.put ⟨x1, x2, a.ride⟩ 1 1 (I x2) (by omega) rfl rfl rfl, SS]
    have := fin _ _ _ h5 ⟨ha.ride, ⟨m1, m2⟩, ⟨n1, n2⟩⟩ (by omega)
    simpa only [obind] using this
  · rw [if_neg hf]
    exact fin _ _ _ h1 ha (by omega)

theorem asks_j2 (h : Ak L b zs v l H0 c q a H) (ha : SaneA a) (hq : q < 90000) {t : Int} {i N : Nat} (hi : i < 1000) (hl : l.length < 1000) {k0 : AV → AV → Heap → Option (AV × Heap)} {Q : AV → Heap → Prop}
    (K : ∀ H' v' a' q', Stay L b H0 H' → H'[b]? = some (stB zs q') → Own H' 10 v' ((l ++ [a']).map encAsk) → Lo L v' → SaneA a' → q' ≤ q + 9 → L ≤ H'.length → Yl (l_jitmake_Stream_Asks_0 (.ptr b 0 0) v' (I t) (I N) (I ((i + 1 : Nat) : Int)) H' k0) Q) :
    Yl (j_jitmake_Stream_Asks_2 (.ptr b 0 0) v (I t) (.ptr c 0 0) (I N) (I i) H k0) Q := by
  unfold j_jitmake_Stream_Asks_2
  have e0 := flip_ok (n := 60) h.str (by omega) (by omega) (by omega)
  have h1 := h.stream (q + 1)
  rw [e0]
  simp only [SS]
  by_cases hf : nx zs q 60 = 0
  · rw [if_pos hf]
    obtain ⟨r', q1, s1, m1, e1⟩ := spoilt_cut h1.str (by omega) ha.ride
    have h2 := h1.stream q1
    have h3 := h2.new ⟨a.at', a.kind, r'⟩
    simp only [ask_ride h1.box, e1, h2.put ⟨a.at', a.kind, r'⟩ 2 8 (encRide r') (by omega) rfl rfl rfl, SS]
    exact asks_j3 h3 ⟨s1, ha.at', ha.kind⟩ (by omega) hi hl fun H' v' a' q' k1 k2 k3 k4 k5 k6 k7 => K H' v' a' q' k1 k2 k3 k4 k5 (by omega) k7
  · rw [if_neg hf]
    exact asks_j3 h1 ha (by omega) hi hl fun H' v' a' q' k1 k2 k3 k4 k5 k6 k7 => K H' v' a' q' k1 k2 k3 k4 k5 (by omega) k7

theorem asks_j1 (h : Ak L b zs v l H0 c q a H) (ha : SaneA a) (hq : q < 90000) {t : Int} {i N : Nat} (hi : i < 1000) (hl : l.length < 1000) {k0 : AV → AV → Heap → Option (AV × Heap)} {Q : AV → Heap → Prop}
    (K : ∀ H' v' a' q', Stay L b H0 H' → H'[b]? = some (stB zs q') → Own H' 10 v' ((l ++ [a']).map encAsk) → Lo L v' → SaneA a' → q' ≤ q + 9 → L ≤ H'.length → Yl (l_jitmake_Stream_Asks_0 (.ptr b 0 0) v' (I t) (I N) (I ((i + 1 : Nat) : Int)) H' k0) Q) :
    Yl (j_jitmake_Stream_Asks_1 (.ptr b 0 0) v (I t) (.ptr c 0 0) (I N) (I i) H k0) Q := by
  unfold j_jitmake_Stream_Asks_1
  simp only [ask_kind h.box, SS]
  by_cases hk : 2 < a.kind
  · rw [if_pos hk]
    have h1 := h.new ⟨a.at', a.kind, ⟨a.ride.id, a.ride.rider, [], [], 0, 0, 0, 0⟩⟩
    simp only [ask_id h.box, ask_rider h.box, build_who, h.put ⟨a.at', a.kind, ⟨a.ride.id, a.ride.rider, [], [], 0, 0, 0, 0⟩⟩ 2 8 (encRide ⟨a.ride.id, a.ride.rider, [], [], 0, 0, 0, 0⟩) (by omega) rfl rfl rfl, SS]
    exact asks_j2 h1 ⟨⟨ha.ride.id, ha.ride.rider, by simp, by simp, by simp only; omega, by simp only; omega, by simp only; omega, by simp only; omega⟩, ha.at', ha.kind⟩ hq hi hl K
  · rw [if_neg hk]
    exact asks_j2 h ha hq hi hl K

theorem asks_j4 (h : Ak L b zs v l H0 c q a H) (ha : SaneA a) (hs : ∀ x ∈ l, SaneA x) (hq : q < 80000) {w : Bool} (hw : w = true → l ≠ []) {t : Int} {i N : Nat} (hi : i < 1000) (hl : l.length < 1000) {k0 : AV → AV → Heap → Option (AV × Heap)} {Q : AV → Heap → Prop}
    (K : ∀ H' v' a' q', Stay L b H0 H' → H'[b]? = some (stB zs q') → Own H' 10 v' ((l ++ [a']).map encAsk) → Lo L v' → SaneA a' → q' ≤ q + 10 → L ≤ H'.length → Yl (l_jitmake_Stream_Asks_0 (.ptr b 0 0) v' (I t) (I N) (I ((i + 1 : Nat) : Int)) H' k0) Q) :
    Yl (j_jitmake_Stream_Asks_4 (.ptr b 0 0) v (I t) (.ptr c 0 0) (I N) (I i) (.bool w) H k0) Q := by
  unfold j_jitmake_Stream_Asks_4
  cases w with
  | false =>
    simp only [SS]
    exact asks_j1 h ha (by omega) hi hl fun H' v' a' q' k1 k2 k3 k4 k5 k6 k7 => K H' v' a' q' k1 k2 k3 k4 k5 (by omega) k7
  | true =>
    have hne := hw rfl
    have hpos : 0 < l.length := List.length_pos_iff.2 hne
    have hlen : lenX H .slice v = some (I l.length) := by rw [h.own.len]; simp
    have e0 := next_ok (n := (l.length : Int)) h.str (by omega) (by omega) (by omega)
    have h1 := h.stream (q + 1)
    have hr := nx_range zs q (n := (l.length : Int)) (by omega)
    obtain ⟨j, hj⟩ : ∃ j : Nat, nx zs q l.length = (j : Int) := ⟨_, (Int.toNat_of_nonneg hr.1).symm⟩
    have hjl : j < l.length := by omega
    obtain ⟨b', es, g1, g2, g3, _⟩ := h1.own.at (n := j) (by simpa using hjl)
    have g3' : es[j]? = some (encAsk l[j]) := by rw [g3]; simp
    have so := (hs _ (List.getElem_mem hjl)).ride
    generalize l[j] = o at g3' so
    have lo : loadAV (H.set b (stB zs (q + 1))) (some 8) (.ptr b' j 2) = some (encRide o.ride) := load_ptr g2 g3' rfl
    have h2 := h1.app [.arr 8 [encRide o.ride]]
    have h3 := h2.new ⟨a.at', a.kind, ⟨o.ride.id, a.ride.rider, a.ride.frm, a.ride.to, a.ride.ready, a.ride.due, a.ride.seats, a.ride.wheels⟩⟩
    have h4 := h3.new ⟨a.at', a.kind, ⟨o.ride.id, o.ride.rider, a.ride.frm, a.ride.to, a.ride.ready, a.ride.due, a.ride.seats, a.ride.wheels⟩⟩
    have hcl : c < (H.set b (stB zs (q + 1))).length := (List.getElem?_eq_some_iff.1 h1.box).1
    have bx0 : boxAV 8 (.agg [(.str []), (.str []), (.str []), (.str []), (.int .i64 0), (.int .i64 0), (.int .i64 0), (.int .i64 0)]) (H.set b (stB zs (q + 1))) = some (.ptr (H.set b (stB zs (q + 1))).length 0 0, H.set b (stB zs (q + 1)) ++ [.arr 8 [encRide ride0]]) := box_ride _ ride0
    have px : storeAV (H.set b (stB zs (q + 1)) ++ [.arr 8 [encRide ride0]]) 8 (.ptr (H.set b (stB zs (q + 1))).length 0 0) (encRide o.ride) = some (H.set b (stB zs (q + 1)) ++ [.arr 8 [encRide o.ride]]) := store_box rfl rfl rfl
    simp only [hlen, e0, hj, g1, lo, bx0, px, ride_id (last_get _ _), ride_rider (last_get _ _), SS]
    simp only [h2.put ⟨a.at', a.kind, ⟨o.ride.id, a.ride.rider, a.ride.frm, a.ride.to, a.ride.ready, a.ride.due, a.ride.seats, a.ride.wheels⟩⟩ 2 1 (.str o.ride.id) (by omega) rfl rfl rfl, h3.put ⟨a.at', a.kind, ⟨o.ride.id, o.ride.rider, a.ride.frm, a.ride.to, a.ride.ready, a.ride.due, a.ride.seats, a.ride.wheels⟩⟩ 3 1 (.str o.ride.rider) (by omega) rfl rfl rfl, SS]
    rw [chk_ok (by omega)]
    exact asks_j1 h4 ⟨⟨so.id, so.rider, ha.ride.frm, ha.ride.to, ha.ride.ready, ha.ride.due, ha.ride.seats, ha.ride.wheels⟩, ha.at', ha.kind⟩ (by omega) hi hl fun H' v' a' q' k1 k2 k3 k4 k5 k6 k7 => K H' v' a' q' k1 k2 k3 k4 k5 (by omega) k7
end
end Y
end Go.Proofs.YtplginnkececaaaGreatDoor
