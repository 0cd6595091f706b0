/- Rules for the engine's operations on known values. No condition. -/
import Derived.Test.YtkaigfcjejabfaaGreatDoorXN
set_option linter.unusedSimpArgs false
set_option linter.unusedVariables false
namespace Go.Proofs.YtkaigfcjejabfaaGreatDoor
open Go
namespace X

theorem yl_some {v : AV} {H : Heap} {Q : AV → Heap → Prop} : Yl (some (v, H)) Q ↔ Q v H := by
  constructor
  · rintro ⟨v', H', h, hq⟩; cases h; exact hq
  · exact fun h => ⟨v, H, rfl, h⟩
theorem yl_none {Q : AV → Heap → Prop} : Yl none Q ↔ False := by
  constructor
  · rintro ⟨v', H', h, hq⟩; cases h
  · exact False.elim
theorem Yl.mono {x : Option (AV × Heap)} {Q Q' : AV → Heap → Prop} (h : Yl x Q) (hq : ∀ v H, Q v H → Q' v H) : Yl x Q' := by
  obtain ⟨v, H, h1, h2⟩ := h; exact ⟨v, H, h1, hq _ _ h2⟩
theorem Yl.bind {x : Option (AV × Heap)} {f : AV × Heap → Option (AV × Heap)} {Q Q' : AV → Heap → Prop} (h : Yl x Q') (hf : ∀ v H, Q' v H → Yl (f (v, H)) Q) : Yl (x.bind f) Q := by
  obtain ⟨v, H, h1, h2⟩ := h; rw [h1]; exact hf _ _ h2

theorem obind {α β : Type} (a : α) (f : α → Option β) : (some a).bind f = f a := (rfl)
theorem condK_bool {α : Type} (b : Bool) (A B : Option α) : condK (.bool b) A B = if b = true then A else B := (rfl)
theorem gB_bool {α : Type} (b : Bool) (A B : Option α) : gB (.bool b) A B = if b = true then A else B := by cases b <;> rfl

section ints
variable (H : Heap) (ek : EK) (k : IntKind) (a b : Int)
theorem bin_lss : binAV H .lss ek (.int k a) (.int k b) = some (.bool (decide (a < b))) := by simp [binAV, intBin]
theorem bin_leq : binAV H .leq ek (.int k a) (.int k b) = some (.bool (decide (a ≤ b))) := by simp [binAV, intBin]
theorem bin_gtr : binAV H .gtr ek (.int k a) (.int k b) = some (.bool (decide (b < a))) := by simp [binAV, intBin]
theorem bin_geq : binAV H .geq ek (.int k a) (.int k b) = some (.bool (decide (b ≤ a))) := by simp [binAV, intBin]
theorem bin_eql : binAV H .eql ek (.int k a) (.int k b) = some (.bool (decide (a = b))) := by
  simp only [binAV, intBin, if_true, Option.some.injEq, AV.bool.injEq]; exact rfl
theorem bin_neq : binAV H .neq ek (.int k a) (.int k b) = some (.bool (decide (a ≠ b))) := by
  simp only [binAV, intBin, if_true, Option.some.injEq, AV.bool.injEq, bne]
  cases hd : decide (a = b) <;> simp_all
theorem bin_add : binAV H .add ek (.int k a) (.int k b) = some (.int k (k.wrap (a + b))) := by simp [binAV, intBin]
theorem bin_sub : binAV H .sub ek (.int k a) (.int k b) = some (.int k (k.wrap (a - b))) := by simp [binAV, intBin]
theorem bin_mul : binAV H .mul ek (.int k a) (.int k b) = some (.int k (k.wrap (a * b))) := by simp [binAV, intBin]
theorem bin_rem (h : b ≠ 0) : binAV H .rem ek (.int k a) (.int k b) = some (.int k (a.tmod b)) := by simp [binAV, intBin, h]
theorem bin_quo (h : b ≠ 0) : binAV H .quo ek (.int k a) (.int k b) = some (.int k (k.wrap (a.tdiv b))) := by simp [binAV, intBin, h]
end ints

/-- A number of a machine's length stays as it is. -/
theorem wrap64 {n : Int} (h1 : -9223372036854775808 ≤ n) (h2 : n < 9223372036854775808) : IntKind.wrap .i64 n = n := by
  unfold IntKind.wrap
  simp [IntKind.signed, IntKind.bits]
  omega

theorem add64 (H : Heap) (ek : EK) {a b : Int} (h1 : -9223372036854775808 ≤ a + b) (h2 : a + b < 9223372036854775808) : binAV H .add ek (.int .i64 a) (.int .i64 b) = some (.int .i64 (a + b)) := by
  rw [bin_add, wrap64 h1 h2]
theorem sub64 (H : Heap) (ek : EK) {a b : Int} (h1 : -9223372036854775808 ≤ a - b) (h2 : a - b < 9223372036854775808) : binAV H .sub ek (.int .i64 a) (.int .i64 b) = some (.int .i64 (a - b)) := by
  rw [bin_sub, wrap64 h1 h2]
theorem mul64 (H : Heap) (ek : EK) {a b : Int} (h1 : -9223372036854775808 ≤ a * b) (h2 : a * b < 9223372036854775808) : binAV H .mul ek (.int .i64 a) (.int .i64 b) = some (.int .i64 (a * b)) := by
  rw [bin_mul, wrap64 h1 h2]

section strs
variable (H : Heap) (ek : EK) (s t : List UInt8)
theorem str_eql : binAV H .eql ek (.str s) (.str t) = some (.bool (decide (s = t))) := by
  simp only [binAV, strBin, Option.some.injEq, AV.bool.injEq]
  cases hd : decide (s = t) <;> simp_all
theorem str_neq : binAV H .neq ek (.str s) (.str t) = some (.bool (decide (s ≠ t))) := by
  simp only [binAV, strBin, Option.some.injEq, AV.bool.injEq]
  cases hd : decide (s = t) <;> simp_all
theorem str_lss : binAV H .lss ek (.str s) (.str t) = some (.bool (Op.bytesLess s t)) := by simp [binAV, strBin]
theorem str_leq : binAV H .leq ek (.str s) (.str t) = some (.bool (Op.bytesLess s t || s == t)) := by simp [binAV, strBin]
theorem str_gtr : binAV H .gtr ek (.str s) (.str t) = some (.bool (!(Op.bytesLess s t || s == t))) := by simp [binAV, strBin]
theorem str_geq : binAV H .geq ek (.str s) (.str t) = some (.bool (!Op.bytesLess s t)) := by simp [binAV, strBin]
end strs

theorem un_not (b : Bool) : unAV .not (.bool b) = some (.bool !b) := (rfl)
theorem ext0 (a : AV) (l : List AV) : extractAV (.tuple (a :: l)) 0 = some a := (rfl)
theorem ext1 (a b : AV) (l : List AV) : extractAV (.tuple (a :: b :: l)) 1 = some b := (rfl)
theorem ext2 (a b c : AV) (l : List AV) : extractAV (.tuple (a :: b :: c :: l)) 2 = some c := (rfl)
theorem nilc_ptr (b i o : Nat) : nilCheckAV (.ptr b i o) = some (.ptr b i o) := (rfl)
theorem nilc_vptr (cs : List AV) : nilCheckAV (.vptr cs) = some (.vptr cs) := (rfl)
theorem fa_ptr (off b i o : Nat) : fieldAddrAV off (.ptr b i o) = some (.ptr b i (o + off)) := (rfl)
theorem fa_vptr0 (cs : List AV) : fieldAddrAV 0 (.vptr cs) = some (.vptr cs) := by simp [fieldAddrAV]
theorem fa_vptr {off : Nat} {cs : List AV} (h : off ≤ cs.length) : fieldAddrAV off (.vptr cs) = some (.vptr (cs.drop off)) := by simp [fieldAddrAV, h]
theorem load_vptr (H : Heap) (c : AV) (cs : List AV) : loadAV H none (.vptr (c :: cs)) = some c := (rfl)
theorem load_vptrs (H : Heap) {n : Nat} {cs : List AV} (h : n ≤ cs.length) : loadAV H (some n) (.vptr cs) = some (.agg (cs.take n)) := by simp [loadAV, pickAV, h]
theorem load_ptr {H : Heap} {n : Option Nat} {b i o sz : Nat} {es : List AV} {e v : AV} (hb : H[b]? = some (.arr sz es)) (hi : es[i]? = some e) (hp : pickAV n e.cells o = some v) : loadAV H n (.ptr b i o) = some v := by
  simp [loadAV, hb, hi, hp]
theorem store_ptr {H : Heap} {n b i o sz : Nat} {es : List AV} {e x : AV} (hb : H[b]? = some (.arr sz es)) (hi : es[i]? = some e) (h1 : x.cells.length = n) (h2 : x.cells.all AV.storable = true) (h3 : o + n ≤ e.cells.length) (h4 : e.cells.length = sz) :
    storeAV H n (.ptr b i o) x = some (H.set b (.arr sz (es.set i (e.setCells o x.cells)))) := by
  simp [storeAV, hb, hi, h1, h2, h4]; omega

theorem len_vslice (H : Heap) (es : List AV) : lenX H .slice (.vslice es) = some (.int .i64 es.length) := (rfl)
theorem len_slice (H : Heap) (b o n : Nat) : lenX H .slice (.slice b o n) = some (.int .i64 n) := (rfl)
theorem len_nil (H : Heap) : lenX H .slice .nilslice = some (.int .i64 0) := (rfl)
theorem len_str (H : Heap) (s : List UInt8) : lenX H (.one .str) (.str s) = some (.int .i64 s.length) := (rfl)

theorem idx_nat {n len : Nat} (h : n < len) : idx (n : Int) len = some n := by simp [idx]; omega
theorem index_vslice {H : Heap} {sz : Nat} {es : List AV} {k : IntKind} {n : Nat} {e : AV} (h : es[n]? = some e) (hc : e.cells.length = sz) : indexV H sz (.vslice es) (.int k (n : Int)) = some (.vptr e.cells) := by
  have hn : n < es.length := (List.getElem?_eq_some_iff.1 h).1
  simp [indexV, AV.asInt, indexAddrAV, idx_nat hn, h, hc]
theorem index_slice {H : Heap} {sz b o len n : Nat} {es : List AV} {k : IntKind} (hb : H[b]? = some (.arr sz es)) (h : n < len) : indexV H sz (.slice b o len) (.int k (n : Int)) = some (.ptr b (o + n) 0) := by
  simp [indexV, AV.asInt, indexAddrAV, idx_nat h, hb]
theorem index_str {s : List UInt8} {k : IntKind} {n : Nat} {c : UInt8} (h : s[n]? = some c) : indexStrAV (.str s) (.int k (n : Int)) = some (.int .u8 c.toNat) := by
  have hn : n < s.length := (List.getElem?_eq_some_iff.1 h).1
  simp [indexStrAV, AV.asInt, idx_nat hn, h]
theorem app_get {α : Type} (H l : List α) (k : Nat) : (H ++ l)[H.length + k]? = l[k]? := by rw [List.getElem?_append_right (by omega)]; congr 1; omega
theorem app_get0 {α : Type} (H : List α) (x : α) (l : List α) : (H ++ x :: l)[H.length]? = some x := by rw [List.getElem?_append_right (by omega)]; simp
theorem app_set0 {α : Type} (H : List α) (x y : α) (l : List α) : (H ++ x :: l).set H.length y = H ++ y :: l := by rw [List.set_append_right _ _ (by omega)]; simp
theorem app_old {α : Type} {H : List α} {b : Nat} {x : α} (l : List α) (h : H[b]? = some x) : (H ++ l)[b]? = some x := by
  rw [List.getElem?_append_left (List.getElem?_eq_some_iff.1 h).1]; exact h
theorem set_other {α : Type} {H : List α} {b c : Nat} {x : α} (y : α) (hne : b ≠ c) (h : H[b]? = some x) : (H.set c y)[b]? = some x := by
  rw [List.getElem?_set_ne (Ne.symm hne)]; exact h
theorem set_same {α : Type} {H : List α} {b : Nat} {x : α} (y : α) (h : H[b]? = some x) : (H.set b y)[b]? = some y := by
  rw [List.getElem?_set_self (List.getElem?_eq_some_iff.1 h).1]

theorem slice_vs_to {H : Heap} {sz : Nat} {es : List AV} {k : IntKind} {n : Nat} (h : n ≤ es.length) : sliceSlAV H sz (.vslice es) none (some (.int k (n : Int))) = some (.vslice (es.take n)) := by
  simp [sliceSlAV, optV, AV.asNat, natArg, sliceAV, h]
theorem slice_vs_from {H : Heap} {sz : Nat} {es : List AV} {k : IntKind} {n : Nat} (h : n ≤ es.length) (hs : ∀ e ∈ es, e.cells.length = sz) : sliceSlAV H sz (.vslice es) (some (.int k (n : Int))) none = some (.vslice (es.drop n)) := by
  have : (es.all fun e => e.cells.length == sz) = true := List.all_eq_true.2 fun e he => by simp [hs e he]
  simp [sliceSlAV, optV, AV.asNat, natArg, sliceAV, h]
  exact fun _ => hs
theorem slice_sl_to {H : Heap} {sz b o len : Nat} {es : List AV} {k : IntKind} {n : Nat} (hb : H[b]? = some (.arr sz es)) (h : o + n ≤ es.length) : sliceSlAV H sz (.slice b o len) none (some (.int k (n : Int))) = some (.slice b o n) := by
  simp [sliceSlAV, optV, AV.asNat, natArg, sliceAV, hb, h]
theorem box_ok {H : Heap} {sz : Nat} {v : AV} (h1 : v.cells.length = sz) (h2 : v.cells.all AV.storable = true) : boxAV sz v H = some (.ptr H.length 0 0, H ++ [.arr sz [v]]) := by simp [boxAV, h1]; simpa using h2
theorem store_box {H : Heap} {sz : Nat} {zs cs : List AV} {l : List Blk} (h0 : zs.length = sz) (h1 : cs.length = sz) (h2 : cs.all AV.storable = true) : storeAV (H ++ .arr sz [.agg zs] :: l) sz (.ptr H.length 0 0) (.agg cs) = some (H ++ .arr sz [.agg cs] :: l) := by
  rw [store_ptr (x := .agg cs) (app_get0 H _ l) (i := 0) (e := .agg zs) rfl h1 h2 (by simp [AV.cells, h0]) h0, app_set0]
  simp [AV.setCells, AV.cells, h0, h1]
theorem load_box (H : Heap) (sz : Nat) (cs : List AV) (l : List Blk) (o : Nat) : loadAV (H ++ .arr sz [.agg cs] :: l) none (.ptr H.length 0 o) = cs[o]? := by
  simp [loadAV, pickAV, AV.cells, app_get0]
theorem load_box1 (H : Heap) (sz : Nat) (v : AV) (l : List Blk) (h : v.cells = [v]) : loadAV (H ++ .arr sz [v] :: l) none (.ptr H.length 0 0) = some v := by
  simp [loadAV, pickAV, h, app_get0]
theorem load_boxs (H : Heap) (sz n : Nat) (cs : List AV) (l : List Blk) (h : n = cs.length) : loadAV (H ++ .arr sz [.agg cs] :: l) (some n) (.ptr H.length 0 0) = some (.agg cs) := by
  subst h; simp [loadAV, pickAV, AV.cells, app_get0]
theorem pred64 (H : Heap) (ek : EK) {n : Nat} (h1 : 1 ≤ n) (h : n < 1000000000000) : binAV H .sub ek (.int .i64 (n : Int)) (.int .i64 1) = some (.int .i64 ((n - 1 : Nat) : Int)) := by
  rw [sub64 _ _ (by omega) (by omega), show ((n : Int) - 1) = ((n - 1 : Nat) : Int) by omega]
theorem get0 {α : Type} (a : α) (l : List α) : (a :: l)[0]? = some a := (rfl)
theorem get1 {α : Type} (a b : α) (l : List α) : (a :: b :: l)[1]? = some b := (rfl)
theorem get2 {α : Type} (a b c : α) (l : List α) : (a :: b :: c :: l)[2]? = some c := (rfl)
theorem get3 {α : Type} (a b c d : α) (l : List α) : (a :: b :: c :: d :: l)[3]? = some d := (rfl)
theorem mapM_id {α : Type} {f : α → Option α} : ∀ {l : List α}, (∀ a ∈ l, f a = some a) → l.mapM f = some l
  | [], _ => rfl
  | a :: l, h => by
    rw [List.mapM_cons, h a (by simp), mapM_id fun b hb => h b (by simp [hb])]
    rfl
theorem elems_vslice (H : Heap) (es : List AV) : elems H (.vslice es) = some es := (rfl)

/-! ### calls -/

/-- What a call may hand over as it is: nothing in it lies in the heap. -/
def Fz (v : AV) : Prop := (∀ H, snap H deep v = some v) ∧ noRef deep v = true

theorem fz_int (k : IntKind) (n : Int) : Fz (.int k n) := ⟨fun _ => rfl, rfl⟩
theorem fz_str (s : List UInt8) : Fz (.str s) := ⟨fun _ => rfl, rfl⟩
theorem fz_bool (b : Bool) : Fz (.bool b) := ⟨fun _ => rfl, rfl⟩
theorem fz_vslice (es : List AV) : Fz (.vslice es) := ⟨fun _ => rfl, rfl⟩
theorem fz_vptr (es : List AV) : Fz (.vptr es) := ⟨fun _ => rfl, rfl⟩
theorem fz_vmap (ks vs : List AV) : Fz (.vmap ks vs) := ⟨fun _ => rfl, rfl⟩

theorem mapM_fz {H : Heap} : ∀ {args : List AV}, (∀ a ∈ args, Fz a) → args.mapM (snap H deep) = some args
  | [], _ => rfl
  | a :: l, h => by
    rw [List.mapM_cons, (h a (by simp)).1 H, mapM_fz fun b hb => h b (by simp [hb])]
    rfl

theorem pure_fz {X : Prog} {f : Nat} {args : List AV} {H : Heap} {v : AV} (hf : ∀ a ∈ args, Fz a) (hp : X.prim f args = none) (hy : Yl (R X f args []) fun v' H' => snap H' deep v' = some v) :
    pureCall X (R X) f args H = some v := by
  obtain ⟨v', H', h1, h2⟩ := hy
  have hn : args.all (noRef deep) = true := List.all_eq_true.2 fun a ha => (hf a ha).2
  simp only [pureCall, mapM_fz hf, Option.bind_some, hp, h1, hn, Bool.true_or, if_true, h2]

theorem pure_snap {X : Prog} {f : Nat} {args bs : List AV} {H : Heap} {v : AV} (hs : args.mapM (snap H deep) = some bs) (hp : X.prim f bs = none) (hy : Yl (R X f bs []) fun v' H' => snap H' deep v' = some v ∧ ownOnly H' deep v' = true) :
    pureCall X (R X) f args H = some v := by
  obtain ⟨v', H', h1, h2, h3⟩ := hy
  simp only [pureCall, hs, Option.bind_some, hp, h1, h3, Bool.or_true, if_true, h2]

theorem pure_sn {X : Prog} {f : Nat} {args bs : List AV} {H : Heap} {v : AV} (hs : args.mapM (snap H deep) = some bs) (hn : args.all (noRef deep) = true) (hp : X.prim f bs = none) (hy : Yl (R X f bs []) fun v' H' => snap H' deep v' = some v) :
    pureCall X (R X) f args H = some v := by
  obtain ⟨v', H', h1, h2⟩ := hy
  simp only [pureCall, hs, Option.bind_some, hp, h1, hn, Bool.true_or, if_true, h2]

theorem callK_pure {α : Type} {X : Prog} {C : Oracle} {f : Nat} {cap args : List AV} {H : Heap} {K : AV → Heap → Option α} (hm : X.mode f = .pure) :
    callK X C (.func (.func f) cap) args H K = (pureCall X C f (args ++ cap) H).bind fun v => K v H := by simp only [callK, hm]

theorem pure_prim {X : Prog} {f : Nat} {args : List AV} {H : Heap} {v : AV} (hf : ∀ a ∈ args, Fz a) (hp : X.prim f args = some v) : pureCall X (R X) f args H = some v := by
  have hn : args.all (noRef deep) = true := List.all_eq_true.2 fun a ha => (hf a ha).2
  simp only [pureCall, mapM_fz hf, Option.bind_some, hp, hn, if_true]

/-- A closed call, by running it. -/
theorem yl_run {X : Prog} {k f : Nat} {args : List AV} {H : Heap} {v : AV} {Q : AV → Heap → Prop} (h : ((run X k f args H).bind fun r => snap r.2 deep r.1) = some v) (hq : ∀ v' H', snap H' deep v' = some v → Q v' H') : Yl (R X f args H) Q := by
  rw [Option.bind_eq_some_iff] at h
  obtain ⟨r, h1, h2⟩ := h
  exact ⟨r.1, r.2, R_some.2 ⟨k, h1⟩, hq _ _ h2⟩
end X
end Go.Proofs.YtkaigfcjejabfaaGreatDoor
