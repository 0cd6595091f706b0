/- Rules for the engine's operations on known values. Maps with strings as keys; how strings are ordered. Rides, asks, riders and rooms: how they are laid, and what is wrong with them. No condition. -/
import Derived.Test.YtplginnkececaaaGreatDoorZYB
import GoSem.Extern.BytealgCompare
set_option linter.unusedSimpArgs false
set_option linter.unusedVariables false
namespace Go.Proofs.YtplginnkececaaaGreatDoor
open Go
namespace X

theorem yl_some {v : AV} {H : Heap} {Q : AV → Heap → Prop} : Yl (some (v, H)) Q ↔ Q v H := by
  constructor
  · rintro ⟨v', H', h, hq⟩; cases h; exact hq
  · exact fun h => ⟨v, H, rfl, h⟩
theorem yl_none {Q : AV → Heap → Prop} : Yl none Q ↔ False := by
  constructor
  · rintro ⟨v', H', h, hq⟩; cases h
  · exact False.elim
theorem Yl.mono {x : Option (AV × Heap)} {Q Q' : AV → Heap → Prop} (h : Yl x Q) (hq : ∀ v H, Q v H → Q' v H) : Yl x Q' := by
  obtain ⟨v, H, h1, h2⟩ := h; exact ⟨v, H, h1, hq _ _ h2⟩
theorem Yl.bind {x : Option (AV × Heap)} {f : AV × Heap → Option (AV × Heap)} {Q Q' : AV → Heap → Prop} (h : Yl x Q') (hf : ∀ v H, Q' v H → Yl (f (v, H)) Q) : Yl (x.bind f) Q := by
  obtain ⟨v, H, h1, h2⟩ := h; rw [h1]; exact hf _ _ h2

theorem obind {α β : Type} (a : α) (f : α → Option β) : (some a).bind f = f a := (rfl)
theorem condK_bool {α : Type} (b : Bool) (A B : Option α) : condK (.bool b) A B = if b = true then A else B := (rfl)
theorem gB_bool {α : Type} (b : Bool) (A B : Option α) : gB (.bool b) A B = if b = true then A else B := by cases b <;> rfl

section ints
variable (H : Heap) (ek : EK) (k : IntKind) (a b : Int)
theorem bin_lss : binAV H .lss ek (.int k a) (.int k b) = some (.bool (decide (a < b))) := by simp [binAV, intBin]
theorem bin_leq : binAV H .leq ek (.int k a) (.int k b) = some (.bool (decide (a ≤ b))) := by simp [binAV, intBin]
theorem bin_gtr : binAV H .gtr ek (.int k a) (.int k b) = some (.bool (decide (b < a))) := by simp [binAV, intBin]
theorem bin_geq : binAV H .geq ek (.int k a) (.int k b) = some (.bool (decide (b ≤ a))) := by simp [binAV, intBin]
theorem bin_eql : binAV H .eql ek (.int k a) (.int k b) = some (.bool (decide (a = b))) := by
  simp only [binAV, intBin, if_true, Option.some.injEq, AV.bool.injEq]; exact rfl
theorem bin_neq : binAV H .neq ek (.int k a) (.int k b) = some (.bool (decide (a ≠ b))) := by
  simp only [binAV, intBin, if_true, Option.some.injEq, AV.bool.injEq, bne]
  cases hd : decide (a = b) <;> simp_all
theorem bin_add : binAV H .add ek (.int k a) (.int k b) = some (.int k (k.wrap (a + b))) := by simp [binAV, intBin]
theorem bin_sub : binAV H .sub ek (.int k a) (.int k b) = some (.int k (k.wrap (a - b))) := by simp [binAV, intBin]
theorem bin_mul : binAV H .mul ek (.int k a) (.int k b) = some (.int k (k.wrap (a * b))) := by simp [binAV, intBin]
theorem bin_rem (h : b ≠ 0) : binAV H .rem ek (.int k a) (.int k b) = some (.int k (a.tmod b)) := by simp [binAV, intBin, h]
theorem bin_quo (h : b ≠ 0) : binAV H .quo ek (.int k a) (.int k b) = some (.int k (k.wrap (a.tdiv b))) := by simp [binAV, intBin, h]
end ints

theorem wrap64 {n : Int} (h1 : -9223372036854775808 ≤ n) (h2 : n < 9223372036854775808) : IntKind.wrap .i64 n = n := by
  unfold IntKind.wrap
  simp [IntKind.signed, IntKind.bits]
  omega

theorem add64 (H : Heap) (ek : EK) {a b : Int} (h1 : -9223372036854775808 ≤ a + b) (h2 : a + b < 9223372036854775808) : binAV H .add ek (.int .i64 a) (.int .i64 b) = some (.int .i64 (a + b)) := by
  rw [bin_add, wrap64 h1 h2]
theorem sub64 (H : Heap) (ek : EK) {a b : Int} (h1 : -9223372036854775808 ≤ a - b) (h2 : a - b < 9223372036854775808) : binAV H .sub ek (.int .i64 a) (.int .i64 b) = some (.int .i64 (a - b)) := by
  rw [bin_sub, wrap64 h1 h2]
theorem mul64 (H : Heap) (ek : EK) {a b : Int} (h1 : -9223372036854775808 ≤ a * b) (h2 : a * b < 9223372036854775808) : binAV H .mul ek (.int .i64 a) (.int .i64 b) = some (.int .i64 (a * b)) := by
  rw [bin_mul, wrap64 h1 h2]

section strs
variable (H : Heap) (ek : EK) (s t : List UInt8)
theorem str_eql : binAV H .eql ek (.str s) (.str t) = some (.bool (decide (s = t))) := by
  simp only [binAV, strBin, Option.some.injEq, AV.bool.injEq]
  cases hd : decide (s = t) <;> simp_all
theorem str_neq : binAV H .neq ek (.str s) (.str t) = some (.bool (decide (s ≠ t))) := by
  simp only [binAV, strBin, Option.some.injEq, AV.bool.injEq]
  cases hd : decide (s = t) <;> simp_all
theorem str_lss : binAV H .lss ek (.str s) (.str t) = some (.bool (Op.bytesLess s t)) := by simp [binAV, strBin]
theorem str_leq : binAV H .leq ek (.str s) (.str t) = some (.bool (Op.bytesLess s t || s == t)) := by simp [binAV, strBin]
theorem str_gtr : binAV H .gtr ek (.str s) (.str t) = some (.bool (!(Op.bytesLess s t || s == t))) := by simp [binAV, strBin]
theorem str_geq : binAV H .geq ek (.str s) (.str t) = some (.bool (!Op.bytesLess s t)) := by simp [binAV, strBin]
end strs

theorem un_not (b : Bool) : unAV .not (.bool b) = some (.bool !b) := (rfl)
theorem ext0 (a : AV) (l : List AV) : extractAV (.tuple (a :: l)) 0 = some a := (rfl)
theorem ext1 (a b : AV) (l : List AV) : extractAV (.tuple (a :: b :: l)) 1 = some b := (rfl)
theorem ext2 (a b c : AV) (l : List AV) : extractAV (.tuple (a :: b :: c :: l)) 2 = some c := (rfl)
theorem nilc_ptr (b i o : Nat) : nilCheckAV (.ptr b i o) = some (.ptr b i o) := (rfl)
theorem nilc_vptr (cs : List AV) : nilCheckAV (.vptr cs) = some (.vptr cs) := (rfl)
theorem fa_ptr (off b i o : Nat) : fieldAddrAV off (.ptr b i o) = some (.ptr b i (o + off)) := (rfl)
theorem fa_vptr0 (cs : List AV) : fieldAddrAV 0 (.vptr cs) = some (.vptr cs) := by simp [fieldAddrAV]
theorem fa_vptr {off : Nat} {cs : List AV} (h : off ≤ cs.length) : fieldAddrAV off (.vptr cs) = some (.vptr (cs.drop off)) := by simp [fieldAddrAV, h]
theorem load_vptr (H : Heap) (c : AV) (cs : List AV) : loadAV H none (.vptr (c :: cs)) = some c := (rfl)
theorem load_vptrs (H : Heap) {n : Nat} {cs : List AV} (h : n ≤ cs.length) : loadAV H (some n) (.vptr cs) = some (.agg (cs.take n)) := by simp [loadAV, pickAV, h]
theorem load_ptr {H : Heap} {n : Option Nat} {b i o sz : Nat} {es : List AV} {e v : AV} (hb : H[b]? = some (.arr sz es)) (hi : es[i]? = some e) (hp : pickAV n e.cells o = some v) : loadAV H n (.ptr b i o) = some v := by
  simp [loadAV, hb, hi, hp]
theorem store_ptr {H : Heap} {n b i o sz : Nat} {es : List AV} {e x : AV} (hb : H[b]? = some (.arr sz es)) (hi : es[i]? = some e) (h1 : x.cells.length = n) (h2 : x.cells.all AV.storable = true) (h3 : o + n ≤ e.cells.length) (h4 : e.cells.length = sz) :
    storeAV H n (.ptr b i o) x = some (H.set b (.arr sz (es.set i (e.setCells o x.cells)))) := by
  simp [storeAV, hb, hi, h1, h2, h4]; omega

theorem len_vslice (H : Heap) (es : List AV) : lenX H .slice (.vslice es) = some (.int .i64 es.length) := (rfl)
theorem len_slice (H : Heap) (b o n : Nat) : lenX H .slice (.slice b o n) = some (.int .i64 n) := (rfl)
theorem len_nil (H : Heap) : lenX H .slice .nilslice = some (.int .i64 0) := (rfl)
theorem len_str (H : Heap) (s : List UInt8) : lenX H (.one .str) (.str s) = some (.int .i64 s.length) := (rfl)

theorem idx_nat {n len : Nat} (h : n < len) : idx (n : Int) len = some n := by simp [idx]; omega
theorem index_vslice {H : Heap} {sz : Nat} {es : List AV} {k : IntKind} {n : Nat} {e : AV} (h : es[n]? = some e) (hc : e.cells.length = sz) : indexV H sz (.vslice es) (.int k (n : Int)) = some (.vptr e.cells) := by
  have hn : n < es.length := (List.getElem?_eq_some_iff.1 h).1
  simp [indexV, AV.asInt, indexAddrAV, idx_nat hn, h, hc]
theorem index_slice {H : Heap} {sz b o len n : Nat} {es : List AV} {k : IntKind} (hb : H[b]? = some (.arr sz es)) (h : n < len) : indexV H sz (.slice b o len) (.int k (n : Int)) = some (.ptr b (o + n) 0) := by
  simp [indexV, AV.asInt, indexAddrAV, idx_nat h, hb]
theorem index_str {s : List UInt8} {k : IntKind} {n : Nat} {c : UInt8} (h : s[n]? = some c) : indexStrAV (.str s) (.int k (n : Int)) = some (.int .u8 c.toNat) := by
  have hn : n < s.length := (List.getElem?_eq_some_iff.1 h).1
  simp [indexStrAV, AV.asInt, idx_nat hn, h]
theorem app_get {α : Type} (H l : List α) (k : Nat) : (H ++ l)[H.length + k]? = l[k]? := by rw [List.getElem?_append_right (by omega)]; congr 1; omega
theorem app_get0 {α : Type} (H : List α) (x : α) (l : List α) : (H ++ x :: l)[H.length]? = some x := by rw [List.getElem?_append_right (by omega)]; simp
theorem app_set0 {α : Type} (H : List α) (x y : α) (l : List α) : (H ++ x :: l).set H.length y = H ++ y :: l := by rw [List.set_append_right _ _ (by omega)]; simp
theorem app_old {α : Type} {H : List α} {b : Nat} {x : α} (l : List α) (h : H[b]? = some x) : (H ++ l)[b]? = some x := by
  rw [List.getElem?_append_left (List.getElem?_eq_some_iff.1 h).1]; exact h
theorem set_other {α : Type} {H : List α} {b c : Nat} {x : α} (y : α) (hne : b ≠ c) (h : H[b]? = some x) : (H.set c y)[b]? = some x := by
  rw [List.getElem?_set_ne (Ne.symm hne)]; exact h
theorem set_same {α : Type} {H : List α} {b : Nat} {x : α} (y : α) (h : H[b]? = some x) : (H.set b y)[b]? = some y := by
  rw [List.getElem?_set_self (List.getElem?_eq_some_iff.1 h).1]

theorem slice_vs_to {H : Heap} {sz : Nat} {es : List AV} {k : IntKind} {n : Nat} (h : n ≤ es.length) : sliceSlAV H sz (.vslice es) none (some (.int k (n : Int))) = some (.vslice (es.take n)) := by
  simp [sliceSlAV, optV, AV.asNat, natArg, sliceAV, h]
theorem slice_vs_from {H : Heap} {sz : Nat} {es : List AV} {k : IntKind} {n : Nat} (h : n ≤ es.length) (hs : ∀ e ∈ es, e.cells.length = sz) : sliceSlAV H sz (.vslice es) (some (.int k (n : Int))) none = some (.vslice (es.drop n)) := by
  have : (es.all fun e => e.cells.length == sz) = true := List.all_eq_true.2 fun e he => by simp [hs e he]
  simp [sliceSlAV, optV, AV.asNat, natArg, sliceAV, h]
  exact fun _ => hs
theorem slice_sl_to {H : Heap} {sz b o len : Nat} {es : List AV} {k : IntKind} {n : Nat} (hb : H[b]? = some (.arr sz es)) (h : o + n ≤ es.length) : sliceSlAV H sz (.slice b o len) none (some (.int k (n : Int))) = some (.slice b o n) := by
  simp [sliceSlAV, optV, AV.asNat, natArg, sliceAV, hb, h]
theorem box_ok {H : Heap} {sz : Nat} {v : AV} (h1 : v.cells.length = sz) (h2 : v.cells.all AV.storable = true) : boxAV sz v H = some (.ptr H.length 0 0, H ++ [.arr sz [v]]) := by simp [boxAV, h1]; simpa using h2
theorem store_box {H : Heap} {sz : Nat} {zs cs : List AV} {l : List Blk} (h0 : zs.length = sz) (h1 : cs.length = sz) (h2 : cs.all AV.storable = true) : storeAV (H ++ .arr sz [.agg zs] :: l) sz (.ptr H.length 0 0) (.agg cs) = some (H ++ .arr sz [.agg cs] :: l) := by
  rw [store_ptr (x := .agg cs) (app_get0 H _ l) (i := 0) (e := .agg zs) rfl h1 h2 (by simp [AV.cells, h0]) h0, app_set0]
  simp [AV.setCells, AV.cells, h0, h1]
theorem load_box (H : Heap) (sz : Nat) (cs : List AV) (l : List Blk) (o : Nat) : loadAV (H ++ .arr sz [.agg cs] :: l) none (.ptr H.length 0 o) = cs[o]? := by
  simp [loadAV, pickAV, AV.cells, app_get0]
theorem load_box1 (H : Heap) (sz : Nat) (v : AV) (l : List Blk) (h : v.cells = [v]) : loadAV (H ++ .arr sz [v] :: l) none (.ptr H.length 0 0) = some v := by
  simp [loadAV, pickAV, h, app_get0]
theorem load_boxs (H : Heap) (sz n : Nat) (cs : List AV) (l : List Blk) (h : n = cs.length) : loadAV (H ++ .arr sz [.agg cs] :: l) (some n) (.ptr H.length 0 0) = some (.agg cs) := by
  subst h; simp [loadAV, pickAV, AV.cells, app_get0]
theorem pred64 (H : Heap) (ek : EK) {n : Nat} (h1 : 1 ≤ n) (h : n < 1000000000000) : binAV H .sub ek (.int .i64 (n : Int)) (.int .i64 1) = some (.int .i64 ((n - 1 : Nat) : Int)) := by
  rw [sub64 _ _ (by omega) (by omega), show ((n : Int) - 1) = ((n - 1 : Nat) : Int) by omega]
theorem get0 {α : Type} (a : α) (l : List α) : (a :: l)[0]? = some a := (rfl)
theorem get1 {α : Type} (a b : α) (l : List α) : (a :: b :: l)[1]? = some b := (rfl)
theorem get2 {α : Type} (a b c : α) (l : List α) : (a :: b :: c :: l)[2]? = some c := (rfl)
theorem get3 {α : Type} (a b c d : α) (l : List α) : (a :: b :: c :: d :: l)[3]? = some d := (rfl)
theorem mapM_id {α : Type} {f : α → Option α} : ∀ {l : List α}, (∀ a ∈ l, f a = some a) → l.mapM f = some l
  | [], _ => rfl
  | a :: l, h => by
    rw [List.mapM_cons, h a (by simp), mapM_id fun b hb => h b (by simp [hb])]
    rfl
theorem elems_vslice (H : Heap) (es : List AV) : elems H (.vslice es) = some es := (rfl)


def Fz (v : AV) : Prop := (∀ H, snap H deep v = some v) ∧ noRef deep v = true

theorem fz_int (k : IntKind) (n : Int) : Fz (.int k n) := ⟨fun _ => rfl, rfl⟩
theorem fz_str (s : List UInt8) : Fz (.str s) := ⟨fun _ => rfl, rfl⟩
theorem fz_bool (b : Bool) : Fz (.bool b) := ⟨fun _ => rfl, rfl⟩
theorem fz_vslice (es : List AV) : Fz (.vslice es) := ⟨fun _ => rfl, rfl⟩
theorem fz_vptr (es : List AV) : Fz (.vptr es) := ⟨fun _ => rfl, rfl⟩
theorem fz_vmap (ks vs : List AV) : Fz (.vmap ks vs) := ⟨fun _ => rfl, rfl⟩

theorem mapM_fz {H : Heap} : ∀ {args : List AV}, (∀ a ∈ args, Fz a) → args.mapM (snap H deep) = some args
  | [], _ => rfl
  | a :: l, h => by
    rw [List.mapM_cons, (h a (by simp)).1 H, mapM_fz fun b hb => h b (by simp [hb])]
    rfl

theorem pure_fz {X : Prog} {f : Nat} {args : List AV} {H : Heap} {v : AV} (hf : ∀ a ∈ args, Fz a) (hp : X.prim f args = none) (hy : Yl (R X f args []) fun v' H' => snap H' deep v' = some v) :
    pureCall X (R X) f args H = some v := by
  obtain ⟨v', H', h1, h2⟩ := hy
  have hn : args.all (noRef deep) = true := List.all_eq_true.2 fun a ha => (hf a ha).2
  simp only [pureCall, mapM_fz hf, Option.bind_some, hp, h1, hn, Bool.true_or, if_true, h2]

theorem pure_snap {X : Prog} {f : Nat} {args bs : List AV} {H : Heap} {v : AV} (hs : args.mapM (snap H deep) = some bs) (hp : X.prim f bs = none) (hy : Yl (R X f bs []) fun v' H' => snap H' deep v' = some v ∧ ownOnly H' deep v' = true) :
    pureCall X (R X) f args H = some v := by
  obtain ⟨v', H', h1, h2, h3⟩ := hy
  simp only [pureCall, hs, Option.bind_some, hp, h1, h3, Bool.or_true, if_true, h2]

theorem pure_sn {X : Prog} {f : Nat} {args bs : List AV} {H : Heap} {v : AV} (hs : args.mapM (snap H deep) = some bs) (hn : args.all (noRef deep) = true) (hp : X.prim f bs = none) (hy : Yl (R X f bs []) fun v' H' => snap H' deep v' = some v) :
    pureCall X (R X) f args H = some v := by
  obtain ⟨v', H', h1, h2⟩ := hy
  simp only [pureCall, hs, Option.bind_some, hp, h1, hn, Bool.true_or, if_true, h2]

theorem callK_pure {α : Type} {X : Prog} {C : Oracle} {f : Nat} {cap args : List AV} {H : Heap} {K : AV → Heap → Option α} (hm : X.mode f = .pure) :
    callK X C (.func (.func f) cap) args H K = (pureCall X C f (args ++ cap) H).bind fun v => K v H := by simp only [callK, hm]

theorem pure_prim {X : Prog} {f : Nat} {args : List AV} {H : Heap} {v : AV} (hf : ∀ a ∈ args, Fz a) (hp : X.prim f args = some v) : pureCall X (R X) f args H = some v := by
  have hn : args.all (noRef deep) = true := List.all_eq_true.2 fun a ha => (hf a ha).2
  simp only [pureCall, mapM_fz hf, Option.bind_some, hp, hn, if_true]

theorem yl_run {X : Prog} {k f : Nat} {args : List AV} {H : Heap} {v : AV} {Q : AV → Heap → Prop} (h : ((run X k f args H).bind fun r => snap r.2 deep r.1) = some v) (hq : ∀ v' H', snap H' deep v' = some v → Q v' H') : Yl (R X f args H) Q := by
  rw [Option.bind_eq_some_iff] at h
  obtain ⟨r, h1, h2⟩ := h
  exact ⟨r.1, r.2, R_some.2 ⟨k, h1⟩, hq _ _ h2⟩

theorem SS : (type_of% @obind) ∧ (type_of% @condK_bool) ∧ (type_of% @gB_bool) ∧ (type_of% @bin_lss) ∧ (type_of% @bin_leq) ∧ (type_of% @bin_gtr) ∧ (type_of% @bin_geq) ∧ (type_of% @bin_eql) ∧ (type_of% @bin_neq) ∧ (type_of% @str_eql) ∧ (type_of% @str_neq) ∧ (type_of% @un_not) ∧ (type_of% @ext0) ∧ (type_of% @ext1) ∧ (type_of% @ext2) ∧ (type_of% @nilc_ptr) ∧ (type_of% @nilc_vptr) ∧ (type_of% @fa_ptr) ∧ (type_of% @fa_vptr0) ∧ (type_of% @load_vptr) ∧ (type_of% @len_vslice) ∧ (type_of% @len_slice) ∧ (type_of% @len_nil) ∧ (type_of% @len_str) ∧ (type_of% @load_box) ∧ (type_of% @get0) ∧ (type_of% @get1) ∧ (type_of% @get2) ∧ (type_of% @get3) ∧ (type_of% @yl_some) ∧ (type_of% @decide_eq_true_eq) ∧ (type_of% @Bool.false_eq_true) ∧ (type_of% @Bool.not_true) ∧ (type_of% @Bool.not_false) ∧ (type_of% @Bool.not_eq_true) ∧ (type_of% @Bool.not_eq_true') ∧ (type_of% @decide_eq_false_iff_not) ∧ (type_of% @Bool.true_eq_false) ∧ (type_of% @Nat.zero_add) ∧ (type_of% @Nat.add_zero) ∧ (type_of% @if_true.{1}) ∧ (type_of% @if_false.{1}) ∧ (type_of% @eq_self.{1}) :=
  ⟨@obind, @condK_bool, @gB_bool, @bin_lss, @bin_leq, @bin_gtr, @bin_geq, @bin_eql, @bin_neq, @str_eql, @str_neq, @un_not, @ext0, @ext1, @ext2, @nilc_ptr, @nilc_vptr, @fa_ptr, @fa_vptr0, @load_vptr, @len_vslice, @len_slice, @len_nil, @len_str, @load_box, @get0, @get1, @get2, @get3, @yl_some, @decide_eq_true_eq, @Bool.false_eq_true, @Bool.not_true, @Bool.not_false, @Bool.not_eq_true, @Bool.not_eq_true', @decide_eq_false_iff_not, @Bool.true_eq_false, @Nat.zero_add, @Nat.add_zero, @if_true.{1}, @if_false.{1}, @eq_self.{1}⟩
end X
end Go.Proofs.YtplginnkececaaaGreatDoor

set_option linter.unusedSimpArgs false
set_option linter.unusedVariables false
namespace Go.Proofs.YtplginnkececaaaGreatDoor
open Go
namespace Y
open X

abbrev Str := List UInt8
abbrev Tab (α : Type) := List (Str × α)

def look {α : Type} (s : Str) : Tab α → Option α
  | [] => none
  | (t, v) :: m => if s = t then some v else look s m

def upd {α : Type} (s : Str) (x : α) : Tab α → Tab α
  | [] => [(s, x)]
  | (t, v) :: m => if s = t then (s, x) :: m else (t, v) :: upd s x m

theorem look_upd {α : Type} (s t : Str) (x : α) (m : Tab α) : look t (upd s x m) = if t = s then some x else look t m := by
  induction m with
  | nil => rfl
  | cons p m ih =>
    obtain ⟨u, v⟩ := p
    simp only [upd]
    by_cases h : s = u
    · subst h
      simp only [if_true, look]
      split <;> rfl
    · simp only [h, if_false, look, ih]
      by_cases hu : t = u
      · subst hu; simp [Ne.symm h]
      · simp [hu]

def tks {α : Type} (m : Tab α) : List AV := m.map fun p => .str p.1
def tvs {α : Type} (f : α → AV) (m : Tab α) : List AV := m.map fun p => f p.2

theorem eqKey_str (s t : Str) : eqKey (.one .str) (.str s) (.str t) = some (decide (s = t)) := by
  simp only [eqKey, eqCell, Option.some.injEq]
  cases hd : decide (s = t) <;> simp_all

theorem find_str {α : Type} (f : α → AV) (s : Str) (m : Tab α) : find (.one .str) (.str s) (tks m) (tvs f m) = some ((look s m).map f) := by
  induction m with
  | nil => rfl
  | cons p m ih =>
    obtain ⟨t, v⟩ := p
    simp only [tks, tvs, List.map_cons, find, eqKey_str]
    by_cases h : s = t
    · simp [h, look]
    · simp only [h, decide_false, look, if_false]; exact ih

theorem setKey_str {α : Type} (f : α → AV) (s : Str) (x : α) (m : Tab α) : setKey (.one .str) (.str s) (f x) (tks m) (tvs f m) = some (tks (upd s x m), tvs f (upd s x m)) := by
  induction m with
  | nil => rfl
  | cons p m ih =>
    obtain ⟨t, v⟩ := p
    simp only [tks, tvs, List.map_cons, setKey, eqKey_str, upd]
    by_cases h : s = t
    · simp [h]
    · simp only [h, decide_false, if_false]
      have := ih
      simp only [tks, tvs] at this
      simp [this]

theorem lookup_vmap {α : Type} (H : Heap) (f : α → AV) (zero : AV) (s : Str) (m : Tab α) : lookupAV H (.one .str) zero false (.vmap (tks m) (tvs f m)) (.str s) = some (((look s m).map f).getD zero) := by
  simp [lookupAV, keyOk, find_str]
theorem lookup_map {α : Type} {H : Heap} {b : Nat} (f : α → AV) (zero : AV) (s : Str) {m : Tab α} (hb : H[b]? = some (.map (tks m) (tvs f m))) : lookupAV H (.one .str) zero false (.map b) (.str s) = some (((look s m).map f).getD zero) := by
  simp [lookupAV, keyOk, find_str, hb]
theorem lookup_vmap_ok {α : Type} (H : Heap) (f : α → AV) (zero : AV) (s : Str) (m : Tab α) : lookupAV H (.one .str) zero true (.vmap (tks m) (tvs f m)) (.str s) = some (.tuple [((look s m).map f).getD zero, .bool (look s m).isSome]) := by
  simp [lookupAV, keyOk, find_str]
theorem lookup_map_ok {α : Type} {H : Heap} {b : Nat} (f : α → AV) (zero : AV) (s : Str) {m : Tab α} (hb : H[b]? = some (.map (tks m) (tvs f m))) : lookupAV H (.one .str) zero true (.map b) (.str s) = some (.tuple [((look s m).map f).getD zero, .bool (look s m).isSome]) := by
  simp [lookupAV, keyOk, find_str, hb]
theorem update_map {α : Type} {H : Heap} {b : Nat} (f : α → AV) (s : Str) (x : α) {m : Tab α} (hb : H[b]? = some (.map (tks m) (tvs f m))) : mapUpdateAV H (.one .str) (.map b) (.str s) (f x) = some (H.set b (.map (tks (upd s x m)) (tvs f (upd s x m)))) := by
  simp [mapUpdateAV, hb, keyOk, setKey_str]
theorem newMap_ok (H : Heap) : newMapAV H = some (.map H.length, H ++ [.map [] []]) := (rfl)


abbrev lt (s t : Str) : Bool := Op.bytesLess s t

def cmpS (s t : Str) : Int := if lt s t then -1 else if s = t then 0 else 1

theorem lt_irrefl : ∀ s : Str, lt s s = false
  | [] => rfl
  | a :: s => by simp [lt, Op.bytesLess, lt_irrefl s]

theorem lt_trans : ∀ {s t u : Str}, lt s t = true → lt t u = true → lt s u = true
  | [], t, [], h, h' => by cases t <;> simp [Op.bytesLess] at h h'
  | [], _, _ :: _, _, _ => rfl
  | a :: s, [], u, h, _ => by simp [Op.bytesLess] at h
  | a :: s, b :: t, [], _, h' => by simp [Op.bytesLess] at h'
  | a :: s, b :: t, c :: u, h, h' => by
    simp only [lt, Op.bytesLess, Bool.or_eq_true, decide_eq_true_eq, Bool.and_eq_true, beq_iff_eq] at h h' ⊢
    rcases h with h | ⟨rfl, h⟩
    · rcases h' with h' | ⟨rfl, h'⟩
      · exact .inl (UInt8.lt_trans h h')
      · exact .inl h
    · rcases h' with h' | ⟨rfl, h'⟩
      · exact .inl h'
      · exact .inr ⟨rfl, lt_trans h h'⟩

theorem lt_total : ∀ (s t : Str), lt s t = true ∨ s = t ∨ lt t s = true
  | [], [] => .inr (.inl rfl)
  | [], _ :: _ => .inl rfl
  | _ :: _, [] => .inr (.inr rfl)
  | a :: s, b :: t => by
    simp only [lt, Op.bytesLess, Bool.or_eq_true, decide_eq_true_eq, Bool.and_eq_true, beq_iff_eq, List.cons.injEq]
    rcases UInt8.lt_or_lt_of_ne (a := a) (b := b) |> fun h => (Classical.em (a = b)).symm.imp h id with (h | h) | rfl
    · exact .inl (.inl h)
    · exact .inr (.inr (.inl h))
    · rcases lt_total s t with h | rfl | h
      · exact .inl (.inr ⟨rfl, h⟩)
      · exact .inr (.inl ⟨rfl, rfl⟩)
      · exact .inr (.inr (.inr ⟨rfl, h⟩))

theorem lt_asymm {s t : Str} (h : lt s t = true) : lt t s = false := by
  cases h' : lt t s with
  | false => rfl
  | true => have := lt_trans h h'; rw [lt_irrefl] at this; cases this

theorem lt_ne {s t : Str} (h : lt s t = true) : s ≠ t := by
  rintro rfl; rw [lt_irrefl] at h; cases h

theorem cmpS_neg {s t : Str} : cmpS s t < 0 ↔ lt s t = true := by
  unfold cmpS; split
  · simp_all
  · split <;> simp_all

theorem cmp_cons (a b : UInt8) (s t : Str) : Extern.BytealgCompare.cmp ⟨(a :: s).toArray⟩ ⟨(b :: t).toArray⟩ = if a < b then -1 else if a = b then Extern.BytealgCompare.cmp ⟨s.toArray⟩ ⟨t.toArray⟩ else 1 := by
  have get : ∀ (l : List UInt8) (i : Nat), (ByteArray.mk l.toArray)[i]! = l.getD i 0 := by
    intro l i
    by_cases h : i < l.length
    · rw [getElem!_pos (ByteArray.mk l.toArray) i (by simpa [ByteArray.size] using h)]
      rw [List.getD_eq_getElem?_getD, List.getElem?_eq_getElem h]
      rfl
    · rw [getElem!_neg (ByteArray.mk l.toArray) i (by simpa [ByteArray.size] using h)]
      rw [List.getD_eq_getElem?_getD, List.getElem?_eq_none (by omega)]
      rfl
  have sz : ∀ l : List UInt8, (ByteArray.mk l.toArray).size = l.length := fun l => by simp [ByteArray.size]
  unfold Extern.BytealgCompare.cmp
  simp only [sz, get, List.length_cons]
  rw [show min (s.length + 1) (t.length + 1) = min s.length t.length + 1 by omega, List.range_succ_eq_map, List.find?_cons]
  simp only [List.getD_cons_zero]
  by_cases hab : a = b
  · subst hab
    simp only [bne_self_eq_false, List.find?_map, UInt8.lt_irrefl, if_false, if_true]
    have : ((fun i => (a :: s).getD i 0 != (a :: t).getD i 0) ∘ Nat.succ) = fun i => s.getD i 0 != t.getD i 0 := by
      funext i; simp
    rw [this]
    cases List.find? (fun i => s.getD i 0 != t.getD i 0) (List.range (min s.length t.length)) with
    | none => simp
    | some i => simp
  · have : (a != b) = true := by simpa using hab
    simp only [this, hab, if_false, List.getD_cons_zero]

theorem bsz (l : List UInt8) : (ByteArray.mk l.toArray).size = l.length := by simp [ByteArray.size]

theorem cmp_eq : ∀ (s t : Str), Extern.BytealgCompare.cmp ⟨s.toArray⟩ ⟨t.toArray⟩ = cmpS s t
  | [], [] => rfl
  | [], b :: t => by
    have : Extern.BytealgCompare.cmp ⟨([] : List UInt8).toArray⟩ ⟨(b :: t).toArray⟩ = -1 := by
      unfold Extern.BytealgCompare.cmp
      simp only [bsz, List.length_nil, List.length_cons, Nat.zero_min, List.range_zero, List.find?_nil]
      rw [if_pos (by omega)]
    rw [this]; rfl
  | a :: s, [] => by
    have : Extern.BytealgCompare.cmp ⟨(a :: s).toArray⟩ ⟨([] : List UInt8).toArray⟩ = 1 := by
      unfold Extern.BytealgCompare.cmp
      simp only [bsz, List.length_nil, List.length_cons, Nat.min_zero, List.range_zero, List.find?_nil]
      rw [if_neg (by omega), if_pos (by omega)]
    rw [this]; simp [cmpS, Op.bytesLess]
  | a :: s, b :: t => by
    rw [cmp_cons, cmp_eq s t]
    unfold cmpS
    simp only [Op.bytesLess, Bool.or_eq_true, decide_eq_true_eq, Bool.and_eq_true, beq_iff_eq, List.cons.injEq]
    by_cases h : a < b
    · simp [h]
    · by_cases hab : a = b
      · subst hab; simp [UInt8.lt_irrefl]
      · simp [h, hab]
end Y
end Go.Proofs.YtplginnkececaaaGreatDoor

set_option linter.unusedSimpArgs false
set_option linter.unusedVariables false
namespace Go.Proofs.YtplginnkececaaaGreatDoor
open Go
namespace Y
open X

structure Ride where
  id : Str
  rider : Str
  frm : Str
  to : Str
  ready : Int
  due : Int
  seats : Int
  wheels : Int
  deriving DecidableEq

structure Ask where
  at' : Int
  kind : Int
  ride : Ride
  deriving DecidableEq

structure Standing where
  ride : Ride
  state : Int
  since : Int
  deriving DecidableEq

structure Rider where
  key : Str
  opn : Int
  seats : Int
  deriving DecidableEq

structure Room where
  frm : Int
  to : Int
  seats : Int
  deriving DecidableEq

def Ride.cells (r : Ride) : List AV := [.str r.id, .str r.rider, .str r.frm, .str r.to, .int .i64 r.ready, .int .i64 r.due, .int .i64 r.seats, .int .i64 r.wheels]
def encRide (r : Ride) : AV := .agg r.cells
def encAsk (a : Ask) : AV := .agg ([.int .i64 a.at', .int .i64 a.kind] ++ a.ride.cells)
def encSt (s : Standing) : AV := .agg (s.ride.cells ++ [.int .i64 s.state, .int .i64 s.since])
def encRider (r : Rider) : AV := .agg [.str r.key, .int .i64 r.opn, .int .i64 r.seats]
def encRoom (r : Room) : AV := .agg [.int .i64 r.frm, .int .i64 r.to, .int .i64 r.seats]

def keyByte (c : UInt8) : Bool := (decide (97 ≤ c.toNat) && decide (c.toNat ≤ 122)) || (decide (48 ≤ c.toNat) && decide (c.toNat ≤ 57)) || decide (c.toNat = 45) || decide (c.toNat = 95)

def isKey (s : Str) : Bool :=
  match s with
  | [] => false
  | c :: _ => decide (s.length ≤ 40) && (decide (97 ≤ c.toNat) && decide (c.toNat ≤ 122)) && s.all keyByte

def out (n low high : Int) : Bool := decide (n < low) || decide (high < n)
def endT : Int := 345686400000
def moment (n : Int) : Bool := !out n 0 (endT - 1)

def Small (n : Int) : Prop := -1125899906842624 ≤ n ∧ n ≤ 1125899906842624

def rideFault (r : Ride) : Int :=
  if !(isKey r.id && isKey r.rider && isKey r.frm && isKey r.to) then 5
  else if r.frm = r.to then 6
  else if !moment r.ready || out r.due (r.ready + 1) endT || out r.seats 0 60 || out r.wheels 0 60 then 1
  else if r.seats + r.wheels = 0 then 3 else 0

def onlyWho (r : Ride) : Ride := ⟨r.id, r.rider, [], [], 0, 0, 0, 0⟩

def askFault (a : Ask) : Int :=
  if !moment a.at' then 1
  else if out a.kind 1 4 then 4
  else if a.kind = 1 ∨ a.kind = 2 then rideFault a.ride
  else if !(isKey a.ride.id && isKey a.ride.rider) then 5
  else if a.ride ≠ onlyWho a.ride then 3 else 0

def cmpI (a b : Int) : Int := if a < b then -1 else if b < a then 1 else 0

def byAsk (a b : Ask) : Int := if cmpI a.at' b.at' ≠ 0 then cmpI a.at' b.at' else if cmpS a.ride.id b.ride.id ≠ 0 then cmpS a.ride.id b.ride.id else cmpI a.kind b.kind

def asksGo : Option Ask → List Ask → Int
  | _, [] => 0
  | p, a :: l => if askFault a ≠ 0 then askFault a else if (match p with | some q => decide (byAsk a q ≤ 0) | none => false) then 7 else asksGo (some a) l

def asksFault (l : List Ask) : Int := if 2000 < l.length then 2 else asksGo none l

def ridersGo : Option Rider → List Rider → Int
  | _, [] => 0
  | p, r :: l =>
    if !isKey r.key then 5
    else if (match p with | some q => !lt q.key r.key | none => false) then 7
    else if out r.opn 0 1000 || out r.seats 0 120 then 1
    else ridersGo (some r) l

def ridersFault (l : List Rider) : Int := if 500 < l.length then 2 else ridersGo none l

def roomsGo : Option Room → List Room → Int
  | _, [] => 0
  | p, r :: l =>
    if out r.frm 0 endT || decide (r.to ≤ r.frm) || decide (endT < r.to) || out r.seats 0 1000000 then 1
    else if (match p with | some q => decide (r.frm < q.to) | none => false) then 7
    else roomsGo (some r) l

def roomsFault (l : List Room) : Int := if 200 < l.length then 2 else roomsGo none l
end Y
end Go.Proofs.YtplginnkececaaaGreatDoor
