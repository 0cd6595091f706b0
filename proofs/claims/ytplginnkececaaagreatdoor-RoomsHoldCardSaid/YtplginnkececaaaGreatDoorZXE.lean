/- The engine's operations are sound, one by one: those that leave the heap alone. The engine's operations are sound, one by one: those that read memory. The engine's operations are sound, one by one: comparisons, lengths, maps that are looked into. No condition. -/
import Derived.Test.YtplginnkececaaaGreatDoorZXC
import Derived.Laws.MakeOwn
import Derived.Laws.Concat
import Derived.Laws.Cover1
import Derived.Laws.Slices
import Derived.Laws.StructEq
import Derived.MapKept
import Derived.WideKeyRuns
set_option linter.unusedSimpArgs false
set_option linter.unusedVariables false
namespace Go.Proofs.YtplginnkececaaaGreatDoor
open Go
namespace X

def OpOK (P : Program) (op : Op) (o : Oper) (a : Act) (w : World) (R : Value → World → Prop) : Prop :=
  ∀ next Q, (∀ x w', R x w' → next (a.put o.dst x) w') → Oper.wp P { o with op := op } a w next Q

theorem OpOK.value {P : Program} {op : Op} {o : Oper} {a : Act} {w w' : World} {R : Value → World → Prop} {x : Value}
    (h : (execOp a.eval { o with op := op }).run P w = .ok (.value x) w') (r : R x w') : OpOK P op o a w R := by
  intro next Q hn
  unfold Oper.wp
  rw [h]
  exact hn x w' r

theorem OpOK.skip {P : Program} {op : Op} {o : Oper} {a : Act} {w w' : World} {R : Value → World → Prop}
    (h : (execOp a.eval { o with op := op }).run P w = .ok .skip w') (r : R undef w') : OpOK P op o a w R := by
  intro next Q hn
  unfold Oper.wp
  rw [h]
  exact hn undef w' r

section
variable {P : Program} {G : Nat → Option AV} {w : World} {σ : Nat → Prop} {μ : Mu}

theorem RV.scalar {v : Value} {x : AV} (h : ofScalar v = some x) : RV w σ μ x v := by
  unfold ofScalar at h
  split at h <;> first | (cases h; constructor; done) | skip
  · cases h; exact .func _ _ _ [] (.nil _)
  · cases h

theorem RVs.scalars : ∀ {xs : List Value} {vs : List AV}, xs.mapM ofScalar = some vs → RVs w σ μ vs xs
  | [], vs, h => by simp at h; subst h; exact .nil _
  | x :: xs, vs, h => by
    simp only [List.mapM_cons, Option.pure_def, Option.bind_eq_bind, Option.bind_eq_some_iff] at h
    obtain ⟨v, hv, us, hus, h⟩ := h
    cases h
    exact .cons _ _ _ _ _ (RV.scalar hv) (RVs.scalars hus)

theorem RV.ofValue {v : Value} {x : AV} (h : ofValue v = some x) : RV w σ μ x v := by
  unfold X.ofValue at h
  split at h
  · rename_i cs
    rw [Option.map_eq_some_iff] at h
    obtain ⟨vs, hvs, rfl⟩ := h
    have := RV.agg μ vs cs.toList (RVs.scalars (w := w) (σ := σ) hvs)
    simpa using this
  · cases h; exact .tuple _ _ [] (.nil _)
  · exact RV.scalar h

theorem RV.arg {B : Nat} {H : Heap} {e : Env} {a : Act} {x : Operand} {y : Arg} (hr : HR G B σ μ H w) (he : ER σ μ e w a) (h : compArg G x = some y) :
    RV w σ μ (y.ev e) (a.eval x) := by
  cases x with
  | tmp t => simp [compArg] at h; subst h; exact he t
  | const v =>
    simp only [compArg, Option.map_eq_some_iff] at h
    obtain ⟨u, hu, rfl⟩ := h
    exact RV.ofValue hu
  | global g =>
    simp only [compArg, Option.map_eq_some_iff] at h
    obtain ⟨u, hu, rfl⟩ := h
    exact (hr.glob g u hu).mono (fun _ h => ⟨h, rfl⟩) (fun _ _ h => by cases h)
  | func f =>
    simp [compArg] at h; subst h
    exact .func _ _ _ [] (.nil _)

theorem RVs.args {B : Nat} {H : Heap} {e : Env} {a : Act} (hr : HR G B σ μ H w) (he : ER σ μ e w a) : ∀ {xs : List Operand} {ys : List Arg}, xs.mapM (compArg G) = some ys →
    RVs w σ μ (ys.map (Arg.ev e)) (xs.map a.eval)
  | [], ys, h => by simp at h; subst h; exact .nil _
  | x :: xs, ys, h => by
    simp only [List.mapM_cons, Option.pure_def, Option.bind_eq_bind, Option.bind_eq_some_iff] at h
    obtain ⟨v, hv, us, hus, h⟩ := h
    cases h
    exact .cons _ _ _ _ _ (RV.arg hr he hv) (RVs.args hr he hus)


def Post (G : Nat → Option AV) (B : Nat) (σ : Nat → Prop) (μ : Mu) (w : World) (r : AV × Heap) (x : Value) (w' : World) : Prop :=
  ∃ σ' μ', HR G B σ' μ' r.2 w' ∧ RV w' σ' μ' r.1 x ∧ Step B σ μ w σ' μ' w'

variable {X : Prog} {C : Oracle} {B : Nat} {H : Heap} {e : Env} {a : Act} {o : Oper} {r : AV × Heap}

theorem OpOK.quiet {op : Op} {x : Value} (hr : HR G B σ μ H w) (hH : r.2 = H) (h : (execOp a.eval { o with op := op }).run P w = .ok (.value x) w) (hv : RV w σ μ r.1 x) :
    OpOK P op o a w (Post G B σ μ w r) := .value h ⟨σ, μ, hH ▸ hr, hv, Step.refl _ _ _ _⟩

theorem ok_move {x : Operand} {own : Bool} {xo : XOp} (hc : compOp P G own (.move x) = some xo) (hx : xop X C xo e H = some r) (hr : HR G B σ μ H w) (he : ER σ μ e w a) :
    OpOK P (.move x) o a w (Post G B σ μ w r) := by
  simp only [compOp, Option.map_eq_some_iff] at hc
  obtain ⟨y, hy, rfl⟩ := hc
  simp only [xop, Option.some.injEq] at hx
  subst hx
  exact .quiet hr rfl (by simp [execOp]) (RV.arg hr he hy)

theorem ok_assign {x : Operand} {own : Bool} {xo : XOp} (hc : compOp P G own (.assign x) = some xo) (hx : xop X C xo e H = some r) (hr : HR G B σ μ H w) (he : ER σ μ e w a) :
    OpOK P (.assign x) o a w (Post G B σ μ w r) := by
  simp only [compOp, Option.map_eq_some_iff] at hc
  obtain ⟨y, hy, rfl⟩ := hc
  simp only [xop, Option.some.injEq] at hx
  subst hx
  exact .quiet hr rfl (by simp [execOp]) (RV.arg hr he hy)

theorem ok_pick {c x y : Operand} {own : Bool} {xo : XOp} (hc : compOp P G own (.pick c x y) = some xo) (hx : xop X C xo e H = some r) (hr : HR G B σ μ H w) (he : ER σ μ e w a) :
    OpOK P (.pick c x y) o a w (Post G B σ μ w r) := by
  simp only [compOp, Option.map_eq_some_iff, Option.bind_eq_some_iff] at hc
  obtain ⟨c', hc', x', hx', y', hy', rfl⟩ := hc
  have h1 := RV.arg hr he hc'
  have h2 := RV.arg hr he hx'
  have h3 := RV.arg hr he hy'
  simp only [xop] at hx
  split at hx
  · rename_i t ht
    rw [ht] at h1
    simp only [Option.some.injEq] at hx
    subst hx
    cases hc : a.eval c <;> rw [hc] at h1 <;> cases h1
    refine .quiet (x := if t then a.eval x else a.eval y) hr rfl ?_ ?_
    · cases t <;> simp [execOp, hc, asBool]
    · cases t <;> simp <;> assumption
  · cases hx

theorem ok_un {op : UnOp} {t : TypeId} {x : Operand} {own : Bool} {xo : XOp} (hc : compOp P G own (.unOp op t x) = some xo) (hx : xop X C xo e H = some r) (hr : HR G B σ μ H w) (he : ER σ μ e w a) :
    OpOK P (.unOp op t x) o a w (Post G B σ μ w r) := by
  simp only [compOp, Option.map_eq_some_iff] at hc
  obtain ⟨y, hy, rfl⟩ := hc
  have h1 := RV.arg hr he hy
  simp only [xop, Option.map_eq_some_iff] at hx
  obtain ⟨v, hv, rfl⟩ := hx
  unfold unAV at hv
  split at hv
  · rename_i k n hn
    rw [hn] at h1; cases h1' : a.eval x <;> rw [h1'] at h1 <;> cases h1
    cases hv
    exact .quiet hr rfl (by simp [execOp, h1', Op.unary, Op.intArith]) (.int _ _ _)
  · rename_i b hb
    rw [hb] at h1; cases h1' : a.eval x <;> rw [h1'] at h1 <;> cases h1
    cases hv
    exact .quiet hr rfl (by simp [execOp, h1', Op.unary]) (.bool _ _)
  · cases hv

theorem ok_convert {s d : TypeId} {x : Operand} {own : Bool} {xo : XOp} (hc : compOp P G own (.convert s d x) = some xo) (hx : xop X C xo e H = some r) (hr : HR G B σ μ H w) (he : ER σ μ e w a) :
    OpOK P (.convert s d x) o a w (Post G B σ μ w r) := by
  simp only [compOp] at hc
  split at hc
  · rename_i k1 k hs hd
    rw [Option.map_eq_some_iff] at hc
    obtain ⟨y, hy, rfl⟩ := hc
    have h1 := RV.arg hr he hy
    simp only [xop, Option.map_eq_some_iff] at hx
    obtain ⟨n, hn, rfl⟩ := hx
    unfold AV.asInt at hn
    split at hn
    · rename_i k2 m hm
      cases hn
      rw [hm] at h1; cases h1' : a.eval x <;> rw [h1'] at h1 <;> cases h1
      refine .quiet hr rfl ?_ (.int _ _ _)
      · simp [execOp, h1', convert, run_underlying hs, run_underlying hd, Conv.intToInt]
    · cases hn
  · cases hc

theorem ok_mkIface {t : TypeId} {x : Operand} {own : Bool} {xo : XOp} (hc : compOp P G own (.makeInterface t x) = some xo) (hx : xop X C xo e H = some r) (hr : HR G B σ μ H w) (he : ER σ μ e w a) :
    OpOK P (.makeInterface t x) o a w (Post G B σ μ w r) := by
  simp only [compOp] at hc
  split at hc
  · cases hc
  · cases hc
  · rename_i d hni hd
    rw [Option.map_eq_some_iff] at hc
    obtain ⟨y, hy, rfl⟩ := hc
    have h1 := RV.arg hr he hy
    simp only [xop, Option.some.injEq] at hx
    subst hx
    refine .quiet (x := .iface t (a.eval x)) hr rfl ?_ (.iface _ _ _ _ h1)
    simp only [execOp, Instr.makeInterface]
    have : (Program.underlying P t) = some d := by assumption
    cases d <;> first | (exact (hni _ rfl).elim) | simp [run_underlying this]

theorem ok_mkFunc {fn : Fn} {fi cap : Array Operand} {own : Bool} {xo : XOp} (hc : compOp P G own (.makeFunc fn fi cap) = some xo) (hx : xop X C xo e H = some r) (hr : HR G B σ μ H w) (he : ER σ μ e w a) :
    OpOK P (.makeFunc fn fi cap) o a w (Post G B σ μ w r) := by
  simp only [compOp] at hc
  split at hc
  · rename_i f hf
    rw [Option.map_eq_some_iff] at hc
    obtain ⟨y, hy, rfl⟩ := hc
    have h1 := RVs.args hr he hy
    simp only [xop, Option.some.injEq] at hx
    subst hx
    have hfi : fi = #[] := by apply Array.ext'; simpa using hf
    subst hfi
    refine .quiet (x := .func (.func f) #[] (cap.toList.map a.eval).toArray) hr rfl ?_ (.func _ _ _ _ h1)
    simp [execOp, Instr.makeFunc]
    apply Array.ext'; simp
  · cases hc

theorem ok_extract {x : Operand} {i : Nat} {own : Bool} {xo : XOp} (hc : compOp P G own (.extract x i) = some xo) (hx : xop X C xo e H = some r) (hr : HR G B σ μ H w) (he : ER σ μ e w a) :
    OpOK P (.extract x i) o a w (Post G B σ μ w r) := by
  simp only [compOp, Option.map_eq_some_iff] at hc
  obtain ⟨y, hy, rfl⟩ := hc
  have h1 := RV.arg hr he hy
  simp only [xop] at hx
  split at hx
  · rename_i vs hvs
    rw [Option.map_eq_some_iff] at hx
    obtain ⟨v, hv, rfl⟩ := hx
    rw [hvs] at h1
    cases h1' : a.eval x <;> rw [h1'] at h1 <;> cases h1
    rename_i xs hxs
    obtain ⟨z, hz, hz'⟩ := hxs.get hv
    exact .quiet hr rfl (by simp [execOp, h1', Instr.extract, hz]) hz'
  · cases hx

theorem ok_nilCheck {x : Operand} {own : Bool} {xo : XOp} (hc : compOp P G own (.nilCheck x) = some xo) (hx : xop X C xo e H = some r) (hr : HR G B σ μ H w) (he : ER σ μ e w a) :
    OpOK P (.nilCheck x) o a w (Post G B σ μ w r) := by
  simp only [compOp, Option.map_eq_some_iff] at hc
  obtain ⟨y, hy, rfl⟩ := hc
  have h1 := RV.arg hr he hy
  simp only [xop] at hx
  split at hx
  all_goals first | (cases hx; done) | skip
  all_goals
    rename_i hv
    simp only [Option.some.injEq] at hx
    subst hx
    rw [hv] at h1
    cases h1' : a.eval x <;> rw [h1'] at h1 <;> cases h1
    refine .quiet (x := a.eval x) hr rfl (by simp [execOp, h1']) (h1' ▸ ?_)
  · exact .ptr _ _ _ _ _ ‹_›
  · exact .vptr _ _ _ _ _ _ _ _ ‹_› ‹_› ‹_› ‹_›
  · exact .func _ _ _ _ ‹_›


theorem bytes_le (s : List UInt8) : (ByteArray.mk s.toArray).size = s.length := by simp [ByteArray.size]

theorem run_intBin {op : BinOp} {k : IntKind} {m n : Int} {v : AV} (h : intBin op k m n = some v) (t : TypeId) :
    ∃ x, (binOp op t (.int k m) (.int k n)).run P w = .ok x w ∧ RV w σ μ v x := by
  cases op <;> simp only [intBin] at h
  all_goals first | (cases h; done) | skip
  all_goals first
    | (cases h; refine ⟨_, ?_, .int _ _ _⟩; simp [binOp, Op.intArith, Op.intBits]; done)
    | (cases h; refine ⟨_, ?_, .bool _ _⟩; simp [binOp, Op.intCmp]; done)
    | (split at h
       · cases h
       · cases h; refine ⟨_, ?_, .int _ _ _⟩; simp [binOp, Op.intDiv, *])

theorem run_intShift {op : BinOp} (ho : op = .shl ∨ op = .shr) {k k' : IntKind} {m n : Int} {v : AV} (h : intShift op k m n = some v) (t : TypeId) :
    ∃ x, (binOp op t (.int k m) (.int k' n)).run P w = .ok x w ∧ RV w σ μ v x := by
  unfold intShift at h
  split at h
  · cases h
  · rename_i hn
    rcases ho with rfl | rfl <;> cases h <;> exact ⟨_, by simp [binOp, Op.shift, hn], .int _ _ _⟩

theorem run_strBin {op : BinOp} {s u : List UInt8} {v : AV} (h : strBin op s u = some v) (t : TypeId) :
    ∃ x, (binOp op t (.string ⟨s.toArray⟩) (.string ⟨u.toArray⟩)).run P w = .ok x w ∧ RV w σ μ v x := by
  cases op <;> simp only [strBin] at h
  all_goals first | (cases h; done) | skip
  case add =>
    split at h
    · rename_i hl
      cases h
      refine ⟨.string (⟨s.toArray⟩ ++ ⟨u.toArray⟩), ?_, ?_⟩
      · have hn : ¬ (9223372036854775807 < (s.length : Int) + (u.length : Int)) := by omega
        simp [binOp, Op.stringOp, ByteArray.size, hn]
      · have : (⟨s.toArray⟩ ++ ⟨u.toArray⟩ : ByteArray) = ⟨(s ++ u).toArray⟩ := by apply ByteArray.ext; simp
        rw [this]; exact .str _ _
    · cases h
  case eql => cases h; exact ⟨.bool (s == u), by simp [binOp, Op.stringOp], .bool _ _⟩
  case neq => cases h; exact ⟨.bool (!(s == u)), by simp [binOp, Op.stringOp], .bool _ _⟩
  case lss => cases h; exact ⟨.bool _, by simp [binOp, Op.stringOp], .bool _ _⟩
  case leq => cases h; exact ⟨.bool _, by simp [binOp, Op.stringOp], .bool _ _⟩
  case gtr => cases h; exact ⟨.bool _, by simp [binOp, Op.stringOp], .bool _ _⟩
  case geq => cases h; exact ⟨.bool _, by simp [binOp, Op.stringOp], .bool _ _⟩

theorem ok_indexStr {t : TypeId} {x i : Operand} {own : Bool} {xo : XOp} (hc : compOp P G own (.index t x i) = some xo) (hx : xop X C xo e H = some r) (hr : HR G B σ μ H w) (he : ER σ μ e w a) :
    OpOK P (.index t x i) o a w (Post G B σ μ w r) := by
  simp only [compOp] at hc
  split at hc
  · rename_i ht
    simp only [Option.map_eq_some_iff, Option.bind_eq_some_iff] at hc
    obtain ⟨y, hy, z, hz, rfl⟩ := hc
    have h1 := RV.arg hr he hy
    have h2 := RV.arg hr he hz
    simp only [xop] at hx
    split at hx
    · rename_i s hs
      simp only [Option.bind_eq_some_iff, Option.map_eq_some_iff] at hx
      obtain ⟨n, hn, j, hj, c, hcj, rfl⟩ := hx
      unfold AV.asInt at hn
      split at hn
      · rename_i k m hm
        cases hn
        rw [hs] at h1; rw [hm] at h2
        cases h1' : a.eval x <;> rw [h1'] at h1 <;> cases h1
        cases h2' : a.eval i <;> rw [h2'] at h2 <;> cases h2
        unfold idx at hj
        split at hj
        · rename_i hb
          cases hj
          refine .quiet (x := .int .u8 c.toNat) hr rfl ?_ (.int _ _ _)
          obtain ⟨hlt, hv⟩ := List.getElem?_eq_some_iff.1 hcj
          have hc2 : ∀ n : Nat, s[n]? = some c → (ByteArray.mk s.toArray)[n]? = some c := by
            intro n hn
            obtain ⟨h3, h4⟩ := List.getElem?_eq_some_iff.1 hn
            have hsz : n < (ByteArray.mk s.toArray).size := by rw [bytes_le]; exact h3
            rw [getElem?_pos (ByteArray.mk s.toArray) n hsz, ← h4]
            rfl
          simp [execOp, h1', h2', Instr.index, asIntOf, run_underlying ht, hb.1, hc2 _ hcj]
        · cases hj
      · cases hn
    · cases hx
  · cases hc

theorem RV.nat {y : Arg} {x : Value} {n : Nat} (h : RV w σ μ (y.ev e) x) (hn : (y.ev e).asNat = some n) : ∃ k, x = .int k n := by
  unfold AV.asNat at hn
  split at hn
  · rename_i k m hm
    rw [hm] at h
    cases h
    unfold natArg at hn
    split at hn
    · cases hn; exact ⟨k, by congr 1; omega⟩
    · cases hn
  · cases hn

theorem optArg_some {B : Nat} {lo : Option Operand} {y : Option Arg} {l : Option Nat} (hr : HR G B σ μ H w) (he : ER σ μ e w a) (hy : compArgO G lo = some y) (hl : optArg e y = some l) :
    (lo = none ∧ l = none) ∨ ∃ x k n, lo = some x ∧ a.eval x = .int k (n : Nat) ∧ l = some n := by
  cases lo with
  | none => simp [compArgO] at hy; subst hy; simp [optArg] at hl; exact .inl ⟨rfl, hl.symm⟩
  | some x =>
    simp only [compArgO, Option.map_eq_some_iff] at hy
    obtain ⟨z, hz, rfl⟩ := hy
    simp only [optArg, Option.map_eq_some_iff] at hl
    obtain ⟨n, hn, rfl⟩ := hl
    obtain ⟨k, hk⟩ := RV.nat (RV.arg hr he hz) hn
    exact .inr ⟨x, k, n, rfl, hk, rfl⟩

theorem run_sliceBound {k : IntKind} {n y : Nat} (h : n ≤ y) (code : BoundsCode) : (Instr.sliceBound (.int k n) y code).run P w = .ok n w := by
  have h1 : (0 : Int) ≤ n ∧ (n : Int) ≤ y := by omega
  simp [Instr.sliceBound, asIntOf, h1.2]

theorem run_sliceBounds {isSl : Bool} {len cap : Nat} {lo hi : Option Value} {l h : Option Nat}
    (hlo : (lo = none ∧ l = none) ∨ ∃ k n, lo = some (.int k (n : Nat)) ∧ l = some n) (hhi : (hi = none ∧ h = none) ∨ ∃ k n, hi = some (.int k (n : Nat)) ∧ h = some n)
    (h1 : l.getD 0 ≤ h.getD len) (h2 : h.getD len ≤ cap ) (h3 : len ≤ cap) :
    (Instr.sliceBounds isSl len cap lo hi none).run P w = .ok (l.getD 0, h.getD len, cap) w := by
  unfold Instr.sliceBounds
  rcases hhi with ⟨rfl, rfl⟩ | ⟨k, n, rfl, rfl⟩ <;> rcases hlo with ⟨rfl, rfl⟩ | ⟨k', n', rfl, rfl⟩ <;> simp at h1 h2 ⊢ <;> simp [run_sliceBound, h1, h2]

theorem ok_slice_str {t : TypeId} {x : Operand} {lo hi : Option Operand} {own : Bool} {xo : XOp} (hu : P.underlying t = some .string) (hc : compOp P G own (.slice t x lo hi none) = some xo) (hx : xop X C xo e H = some r)
    (hr : HR G B σ μ H w) (he : ER σ μ e w a) : OpOK P (.slice t x lo hi none) o a w (Post G B σ μ w r) := by
  simp only [compOp, hu, Option.bind_eq_some_iff, Option.some.injEq] at hc
  obtain ⟨y, hy, y1, hy1, y2, hy2, rfl⟩ := hc
  have h1 := RV.arg hr he hy
  simp only [xop, Option.bind_eq_some_iff] at hx
  obtain ⟨l, hl, h, hh, hx⟩ := hx
  have hlo := optArg_some hr he hy1 hl
  have hhi := optArg_some hr he hy2 hh
  split at hx
  · rename_i s hs
    split at hx
    · rename_i hb
      cases hx
      rw [hs] at h1
      cases h1' : a.eval x <;> rw [h1'] at h1 <;> cases h1
      have hlo' : ((lo.map a.eval) = none ∧ l = none) ∨ ∃ k n, (lo.map a.eval) = some (.int k (n : Nat)) ∧ l = some n := by
        rcases hlo with ⟨rfl, rfl⟩ | ⟨x, k, n, rfl, h, rfl⟩ <;> simp [*]
      have hhi' : ((hi.map a.eval) = none ∧ h = none) ∨ ∃ k n, (hi.map a.eval) = some (.int k (n : Nat)) ∧ h = some n := by
        rcases hhi with ⟨rfl, rfl⟩ | ⟨x, k, n, rfl, h, rfl⟩ <;> simp [*]
      have hbd := run_sliceBounds (P := P) (w := w) (isSl := false) (len := (ByteArray.mk s.toArray).size) (cap := (ByteArray.mk s.toArray).size) hlo' hhi' (by rw [bytes_le]; exact hb.1) (by rw [bytes_le]; exact hb.2) (Nat.le_refl _)
      rw [bytes_le] at hbd
      refine .quiet (x := .string ((ByteArray.mk s.toArray).extract (l.getD 0) (h.getD s.length))) hr rfl ?_ ?_
      · simp [execOp, h1', Instr.sliceAt, run_underlying hu, Instr.slice, hbd, bytes_le]
      · have : (ByteArray.mk s.toArray).extract (l.getD 0) (h.getD s.length) = ⟨((s.take (h.getD s.length)).drop (l.getD 0)).toArray⟩ := by
          apply ByteArray.ext
          rw [ByteArray.data_extract]
          apply Array.ext'
          simp [List.drop_take]
        rw [this]; exact .str _ _
    · cases hx
  · cases hx
end
end X
end Go.Proofs.YtplginnkececaaaGreatDoor

set_option linter.unusedSimpArgs false
set_option linter.unusedVariables false
namespace Go.Proofs.YtplginnkececaaaGreatDoor
open Go
namespace X

section
variable {P : Program} {G : Nat → Option AV} {w : World} {σ : Nat → Prop} {μ : Mu}
variable {X : Prog} {C : Oracle} {B : Nat} {H : Heap} {e : Env} {a : Act} {o : Oper} {r : AV × Heap}

theorem cell_of {rb off : Nat} {c : Array Value} {ty : TypeId} {fz : Nat × Nat} (h : w.heap[rb]? = some (.cells c ty fz)) : w.cell? ⟨rb, off, none⟩ = c[off]? := by
  simp [World.cell?, h]

theorem flat_length {sz : Nat} : ∀ {es : List AV}, (∀ e ∈ es, e.cells.length = sz) → (es.flatMap AV.cells).length = es.length * sz
  | [], _ => by simp
  | e :: es, h => by
    rw [List.flatMap_cons, List.length_append, h e (by simp), flat_length fun x hx => h x (by simp [hx]), List.length_cons, Nat.succ_mul]; omega

theorem flat_get {sz off : Nat} (ho : off < sz) : ∀ {es : List AV} {i : Nat} {x : AV}, (∀ e ∈ es, e.cells.length = sz) → es[i]? = some x → (es.flatMap AV.cells)[i * sz + off]? = x.cells[off]?
  | [], i, x, _, hi => by simp at hi
  | e :: es, 0, x, h, hi => by
    simp at hi; subst hi
    rw [List.flatMap_cons, List.getElem?_append_left (by rw [h e (by simp)]; omega)]
    simp
  | e :: es, i + 1, x, h, hi => by
    simp at hi
    have hl := h e (by simp)
    rw [List.flatMap_cons, List.getElem?_append_right (by rw [hl, Nat.succ_mul]; omega), ← flat_get ho (fun y hy => h y (by simp [hy])) hi]
    congr 1
    rw [hl, Nat.succ_mul]; omega

theorem flat_drop {sz : Nat} : ∀ {es : List AV} (k : Nat), (∀ e ∈ es, e.cells.length = sz) → (es.drop k).flatMap AV.cells = (es.flatMap AV.cells).drop (k * sz)
  | [], k, _ => by simp
  | e :: es, 0, h => by simp
  | e :: es, k + 1, h => by
    rw [List.drop_succ_cons, flat_drop k fun y hy => h y (by simp [hy]), List.flatMap_cons, Nat.succ_mul, Nat.add_comm (k * sz) sz, ← List.drop_drop, ← h e (by simp), List.drop_left]

theorem flat_take {sz : Nat} : ∀ {es : List AV} (k : Nat), (∀ e ∈ es, e.cells.length = sz) → (es.take k).flatMap AV.cells = (es.flatMap AV.cells).take (k * sz)
  | [], k, _ => by simp
  | e :: es, 0, h => by simp
  | e :: es, k + 1, h => by
    rw [List.take_succ_cons, List.flatMap_cons, flat_take k fun y hy => h y (by simp [hy]), List.flatMap_cons, Nat.succ_mul, Nat.add_comm (k * sz) sz, ← h e (by simp), List.take_length_add_append]

theorem BR.at {m : BM} {sz : Nat} {es : List AV} (h : BR w σ μ m (.arr sz es)) {i : Nat} {x : AV} (hi : es[i]? = some x) {off : Nat} {v : AV} (hv : x.cells[off]? = some v) :
    ∃ y, w.cell? ⟨m.rb, m.ro + i * m.sz + off, none⟩ = some y ∧ RV w σ μ v y := by
  obtain ⟨h1, h2, h3, h4, c, ty, h5, h6, vs, h7, h8⟩ := h
  have hx := h3 x (List.mem_of_getElem? hi)
  have ho : off < sz := by rw [← hx.1]; exact (List.getElem?_eq_some_iff.1 hv).1
  have hg : (es.flatMap AV.cells)[i * sz + off]? = some v := by rw [flat_get ho (fun e he => (h3 e he).1) hi, hv]
  obtain ⟨y, hy, hr⟩ := h7.get hg
  refine ⟨y, ?_, hr⟩
  rw [cell_of h5, Nat.add_assoc, h1, h8 _ (List.getElem?_eq_some_iff.1 hy).1, hy]

theorem addr_add (b off n : Nat) : (⟨b, off, none⟩ : Addr).add n = ⟨b, off + n, none⟩ := by
  unfold Addr.add; split <;> simp_all

theorem cells_exist {rb : Nat} : ∀ {cs : List AV} {off : Nat}, (∀ i v, cs[i]? = some v → ∃ y, w.cell? ⟨rb, off + i, none⟩ = some y ∧ RV w σ μ v y) →
    ∃ xs, RVs w σ μ cs xs ∧ ∀ j x, xs[j]? = some x → w.cell? ((⟨rb, off, none⟩ : Addr).add j) = some x
  | [], off, _ => ⟨[], .nil _, fun j x h => by simp at h⟩
  | c :: cs, off, h => by
    obtain ⟨y, h1, h2⟩ := h 0 c (by simp)
    obtain ⟨xs, h3, h4⟩ := cells_exist (rb := rb) (cs := cs) (off := off + 1) (fun i v hi => by
      obtain ⟨y, h1, h2⟩ := h (i + 1) v (by simpa using hi)
      exact ⟨y, by rw [← h1]; congr 2; omega, h2⟩)
    refine ⟨y :: xs, .cons _ _ _ _ _ h2 h3, ?_⟩
    intro j x hj
    rw [addr_add]
    cases j with
    | zero => simp at hj; subst hj; exact h1
    | succ j =>
      simp at hj
      rw [← h4 j x hj, addr_add]
      congr 2; omega

theorem run_loadVar {t : TypeId} {n : Option Nat} (ht : isAggT P t = some n) {rb off : Nat} {cs : List AV} (hcs : ∀ i v, cs[i]? = some v → ∃ y, w.cell? ⟨rb, off + i, none⟩ = some y ∧ RV w σ μ v y) {v : AV}
    (hv : pickAV n cs 0 = some v) :
    ∃ x, (loadVar t ⟨rb, off, none⟩).run P w = .ok x w ∧ RV w σ μ v x := by
  have agg : ∀ i : TypeInfo, P.info? t = some i → (isAgg t).run P w = .ok true w → (if 0 + i.size ≤ cs.length then some (AV.agg ((cs.drop 0).take i.size)) else none) = some v →
      ∃ x, (loadVar t ⟨rb, off, none⟩).run P w = .ok x w ∧ RV w σ μ v x := by
    intro i hi hag hv
    simp only [Nat.zero_add, List.drop_zero] at hv
    split at hv
    · rename_i hn
      cases hv
      obtain ⟨xs, h1, h2⟩ := cells_exist (rb := rb) (off := off) (cs := cs.take i.size) (w := w) (σ := σ) (μ := μ) (fun j u hj => hcs j u (by
        have hlt := (List.getElem?_eq_some_iff.1 hj).1
        rw [List.getElem?_take_of_lt (by simp at hlt; omega)] at hj; exact hj))
      have hl : xs.length = i.size := by rw [← h1.length]; simp; omega
      have hrun := run_loadCells_list (P := P) w _ xs h2
      rw [hl] at hrun
      exact ⟨.agg xs.toArray, by simp [loadVar, hag, sizeOf, typeInfo, hi, hrun], .agg _ _ _ h1⟩
    · cases hv
  unfold isAggT at ht
  split at ht
  · rename_i fs i hu hi
    cases ht
    exact agg i hi (by simp [isAgg, run_underlying hu]) hv
  · rename_i n' el i hu hi
    cases ht
    exact agg i hi (by simp [isAgg, run_underlying hu]) hv
  · rename_i hns hna hu hi
    cases ht
    obtain ⟨y, h1, h2⟩ := hcs 0 v hv
    refine ⟨y, ?_, h2⟩
    have ha : (isAgg t).run P w = .ok false w := by
      simp only [isAgg, Sem.run_bind, run_underlying hu, Result.andThen_ok]
      rfl
    rw [Nat.add_zero] at h1
    simp [loadVar, ha, h1]
  · cases ht

theorem load_at {t : TypeId} {n : Option Nat} (hn : isAggT P t = some n) {pv v : AV} {x : Value} (h1 : RV w σ μ pv x) (hv : loadAV H n pv = some v) (hr : HR G B σ μ H w) :
    ∃ rb off z, x = .pointer (some ⟨rb, off, none⟩) ∧ (loadVar t ⟨rb, off, none⟩).run P w = .ok z w ∧ RV w σ μ v z := by
  unfold loadAV at hv
  split at hv
  · rename_i b i off
    obtain ⟨m, rfl, hm⟩ := h1.ptr_inv
    split at hv
    · rename_i sz es hb
      simp only [Option.bind_eq_some_iff] at hv
      obtain ⟨x0, hx0, hv⟩ := hv
      have hbr := hr.blk b _ m hb hm
      obtain ⟨z, hz, hzr⟩ := run_loadVar (P := P) (w := w) (σ := σ) (μ := μ) (rb := m.rb) (off := m.ro + i * m.sz + off) hn (cs := x0.cells.drop off) (v := v) (by
        intro j u hj
        rw [List.getElem?_drop] at hj
        obtain ⟨y, h3, h4⟩ := hbr.at hx0 hj
        exact ⟨y, by rw [← h3]; congr 2; omega, h4⟩) (by
        cases n with
        | none => simpa [pickAV, List.getElem?_drop] using hv
        | some n =>
          simp only [pickAV] at hv ⊢
          split at hv
          · rename_i hle
            rw [if_pos (by simp; omega)]
            simpa using hv
          · cases hv)
      exact ⟨_, _, z, rfl, hz, hzr⟩
    · cases hv
  · rename_i cs
    obtain ⟨rb, off, c, ty, fz, vs, rfl, g1, g2, g3, g4⟩ := h1.vptr_inv
    obtain ⟨z, hz, hzr⟩ := run_loadVar (P := P) (w := w) (σ := σ) (μ := noMu) (rb := rb) (off := off) hn (cs := cs) (v := v) (by
      intro j u hj
      obtain ⟨y, h3, h4⟩ := g4.get hj
      exact ⟨y, by rw [cell_of g2, g3 _ (List.getElem?_eq_some_iff.1 h3).1, h3], h4⟩) hv
    exact ⟨_, _, z, rfl, hz, hzr.mono (fun _ h => ⟨h, rfl⟩) fun _ _ h => by cases h⟩
  · cases hv

theorem ok_load {t : TypeId} {x : Operand} {own : Bool} {xo : XOp} (hc : compOp P G own (.load t x) = some xo) (hx : xop X C xo e H = some r) (hr : HR G B σ μ H w) (he : ER σ μ e w a) :
    OpOK P (.load t x) o a w (Post G B σ μ w r) := by
  simp only [compOp, Option.bind_eq_some_iff, Option.map_eq_some_iff] at hc
  obtain ⟨n, hn, y, hy, rfl⟩ := hc
  have h1 := RV.arg hr he hy
  simp only [xop, Option.map_eq_some_iff] at hx
  obtain ⟨v, hv, rfl⟩ := hx
  obtain ⟨rb, off, z, h1', hz, hzr⟩ := load_at (P := P) hn h1 hv hr
  exact .quiet hr rfl (by simp [execOp, h1', Instr.loadAt, Instr.sureAddr, hz]) hzr

theorem ok_fieldAddr {s : TypeId} {x : Operand} {k : Nat} {own : Bool} {xo : XOp} (hc : compOp P G own (.fieldAddr s x k) = some xo) (hx : xop X C xo e H = some r) (hr : HR G B σ μ H w) (he : ER σ μ e w a) :
    OpOK P (.fieldAddr s x k) o a w (Post G B σ μ w r) := by
  simp only [compOp] at hc
  split at hc
  · rename_i fs hu
    simp only [Option.bind_eq_some_iff] at hc
    obtain ⟨f, hf, i, hi, hc⟩ := hc
    split at hc
    · rename_i hpos
      rw [Option.map_eq_some_iff] at hc
      obtain ⟨y, hy, rfl⟩ := hc
      have h1 := RV.arg hr he hy
      have hz : ¬ i.size = 0 := by omega
      have hrun : ∀ rb off, a.eval x = .pointer (some ⟨rb, off, none⟩) → (execOp a.eval { o with op := .fieldAddr s x k }).run P w = .ok (.value (.pointer (some ⟨rb, off + f.offset, none⟩))) w := by
        intro rb off hv
        simp [execOp, hv, Instr.fieldAt, run_underlying hu, hf, Instr.sureAddr, fieldPlace, sizeOf, typeInfo, hi, hz, addr_add]
      simp only [xop] at hx
      split at hx
      · rename_i b i' o' hp
        cases hx
        rw [hp] at h1
        cases h1' : a.eval x <;> rw [h1'] at h1 <;> cases h1
        rename_i m hm
        refine .quiet hr rfl (hrun _ _ h1') ?_
        have := RV.ptr (w := w) (σ := σ) μ b i' (o' + f.offset) m hm
        rwa [← Nat.add_assoc] at this
      · rename_i cs hp
        split at hx
        · rename_i hle
          cases hx
          rw [hp] at h1
          cases h1' : a.eval x <;> rw [h1'] at h1 <;> cases h1
          rename_i rb off c ty fz vs g1 g2 g3 g4
          refine .quiet hr rfl (hrun _ _ h1') (.vptr _ _ _ _ c ty fz (vs.drop f.offset) g1 g2 ?_ (g4.drop _))
          intro j hj
          simp at hj
          rw [Nat.add_assoc, g3 _ (by omega), List.getElem?_drop]
        · cases hx
      · cases hx
    · cases hc
  · cases hc

theorem run_part {t : TypeId} {n : Option Nat} (ht : isAggT P t = some n) {cs : List AV} {xs : List Value} (hcs : RVs w σ μ cs xs) {off : Nat} {v : AV}
    (hv : pickAV n cs off = some v) :
    ∃ x, (part t xs.toArray off).run P w = .ok x w ∧ RV w σ μ v x := by
  have hlen := hcs.length
  have agg : ∀ i : TypeInfo, P.info? t = some i → (isAgg t).run P w = .ok true w → (if off + i.size ≤ cs.length then some (AV.agg ((cs.drop off).take i.size)) else none) = some v →
      ∃ x, (part t xs.toArray off).run P w = .ok x w ∧ RV w σ μ v x := by
    intro i hi hag hv
    split at hv
    · cases hv
      refine ⟨.agg ((xs.drop off).take i.size).toArray, ?_, .agg _ _ _ ((hcs.drop _).take _)⟩
      simp [part, hag, sizeOf, typeInfo, hi]
    · cases hv
  unfold isAggT at ht
  split at ht
  · rename_i fs i hu hi
    cases ht
    exact agg i hi (by simp [isAgg, run_underlying hu]) hv
  · rename_i n' el i hu hi
    cases ht
    exact agg i hi (by simp [isAgg, run_underlying hu]) hv
  · rename_i hns hna hu hi
    cases ht
    obtain ⟨y, h1, h2⟩ := hcs.get hv
    refine ⟨y, ?_, h2⟩
    have ha : (isAgg t).run P w = .ok false w := by
      simp only [isAgg, Sem.run_bind, run_underlying hu, Result.andThen_ok]
      rfl
    simp [part, ha, h1]
  · cases ht

theorem ok_field {s : TypeId} {x : Operand} {k : Nat} {own : Bool} {xo : XOp} (hc : compOp P G own (.field s x k) = some xo) (hx : xop X C xo e H = some r) (hr : HR G B σ μ H w) (he : ER σ μ e w a) :
    OpOK P (.field s x k) o a w (Post G B σ μ w r) := by
  simp only [compOp] at hc
  split at hc
  · rename_i fs hu
    simp only [Option.bind_eq_some_iff, Option.map_eq_some_iff] at hc
    obtain ⟨f, hf, n, hn, y, hy, rfl⟩ := hc
    have h1 := RV.arg hr he hy
    simp only [xop] at hx
    split at hx
    · rename_i cs hp
      rw [hp] at h1
      cases h1' : a.eval x <;> rw [h1'] at h1 <;> cases h1
      rename_i xs hxs
      rw [Option.map_eq_some_iff] at hx
      obtain ⟨v, hv, rfl⟩ := hx
      obtain ⟨z, hz, hzr⟩ := run_part (P := P) hn hxs hv
      exact .quiet hr rfl (by simp [execOp, h1', Instr.field, run_underlying hu, hf, asAgg, hz]) hzr
    · cases hx
  · cases hc

theorem idx_some {n : Int} {len j : Nat} (h : idx n len = some j) : 0 ≤ n ∧ n < len ∧ n.toNat = j ∧ j < len := by
  unfold idx at h
  split at h
  · cases h; omega
  · cases h

theorem flat_mem {es : List AV} {i : Nat} {x : AV} {sz : Nat} (h : ∀ e ∈ es, e.cells.length = sz) (hi : es[i]? = some x) : x.cells = ((es.flatMap AV.cells).drop (i * sz)).take sz := by
  rw [← flat_drop i h]
  have hlt := (List.getElem?_eq_some_iff.1 hi).1
  have hx := (List.getElem?_eq_some_iff.1 hi).2
  rw [List.drop_eq_getElem_cons hlt, hx, List.flatMap_cons, ← h x (List.mem_of_getElem? hi), List.take_left]

theorem ok_indexAddr {t : TypeId} {x i : Operand} {own : Bool} {xo : XOp} (hc : compOp P G own (.indexAddr t x i) = some xo) (hx : xop X C xo e H = some r) (hr : HR G B σ μ H w) (he : ER σ μ e w a) :
    OpOK P (.indexAddr t x i) o a w (Post G B σ μ w r) := by
  simp only [compOp] at hc
  split at hc
  · rename_i el hu
    simp only [Option.bind_eq_some_iff, Option.map_eq_some_iff] at hc
    obtain ⟨inf, hinf, y, hy, z, hz, rfl⟩ := hc
    have h1 := RV.arg hr he hy
    have h2 := RV.arg hr he hz
    simp only [xop, Option.bind_eq_some_iff, Option.map_eq_some_iff] at hx
    obtain ⟨n, hn, v, hv, rfl⟩ := hx
    unfold AV.asInt at hn
    split at hn
    · rename_i k m hm
      have hnm : m = n := by simpa using hn
      subst hnm
      rw [hm] at h2
      cases h2' : a.eval i <;> rw [h2'] at h2 <;> cases h2
      have hrun : ∀ rb off len cap, a.eval x = .slice (some ⟨rb, off, none⟩) len cap → 0 ≤ m → m < len →
          (execOp a.eval { o with op := .indexAddr t x i }).run P w = .ok (.value (.pointer (some ⟨rb, off + m.toNat * inf.size, none⟩))) w := by
        intro rb off len cap hv h0 hl
        simp [execOp, hv, h2', Instr.indexAt, asIntOf, run_underlying hu, h0, hl, sizeOf, typeInfo, hinf, addr_add]
      unfold indexAddrAV at hv
      split at hv
      · rename_i es hp
        simp only [Option.bind_eq_some_iff] at hv
        obtain ⟨j, hj, x0, hx0, hv⟩ := hv
        obtain ⟨b0, b1, b2, b3⟩ := idx_some hj
        split at hv
        · rename_i hsz
          cases hv
          rw [hp] at h1
          rcases h1.vslice_inv with ⟨rfl, _⟩ | ⟨rb, off, c, ty, fz, vs, sz, cap, h1', g1, g2, g3, g4, g5, g6⟩
          · simp at hx0
          · skip
            have hall : ∀ e ∈ es, e.cells.length = sz := fun e he => (g4 e he).1
            have hs : sz = inf.size := by rw [← hall x0 (List.mem_of_getElem? hx0), hsz]
            subst hs
            have hr1 := hrun _ _ _ _ h1' b0 b1
            rw [b2] at hr1
            refine .quiet hr rfl hr1 (.vptr _ _ _ _ c ty fz ((vs.drop (j * inf.size)).take inf.size) g1 g2 ?_ ?_)
            · intro q hq
              simp at hq
              rw [Nat.add_assoc, g3 _ (by omega), List.getElem?_take_of_lt (by omega), List.getElem?_drop]
            · rw [flat_mem hall hx0]; exact (g5.drop _).take _
        · cases hv
      · rename_i b off len hp
        simp only [Option.bind_eq_some_iff] at hv
        obtain ⟨j, hj, hv⟩ := hv
        obtain ⟨b0, b1, b2, b3⟩ := idx_some hj
        split at hv
        · rename_i sz' es hb
          split at hv
          · rename_i hsz
            cases hv
            subst hsz
            rw [hp] at h1
            obtain ⟨cap, m', h1', hm', g1, g2, g3⟩ := h1.slice_inv
            have hbr := hr.blk b _ m' hb hm'
            have hms : m'.sz = inf.size := hbr.1
            have hr1 := hrun _ _ _ _ h1' b0 b1
            rw [b2] at hr1
            refine .quiet hr rfl hr1 ?_
            have := RV.ptr (w := w) (σ := σ) μ b (off + j) 0 m' hm'
            rw [Nat.add_zero, Nat.add_mul, ← Nat.add_assoc] at this
            rw [← hms]; exact this
          · cases hv
        · cases hv
      · cases hv
    · cases hn
  · cases hc

theorem map_args {lo : Option Operand} {l : Option Nat} (h : (lo = none ∧ l = none) ∨ ∃ x k n, lo = some x ∧ a.eval x = .int k (n : Nat) ∧ l = some n) :
    ((lo.map a.eval) = none ∧ l = none) ∨ ∃ k n, (lo.map a.eval) = some (.int k (n : Nat)) ∧ l = some n := by
  rcases h with ⟨rfl, rfl⟩ | ⟨x, k, n, rfl, h, rfl⟩ <;> simp [*]

theorem ok_slice_sl {t el : TypeId} {x : Operand} {lo hi : Option Operand} {own : Bool} {xo : XOp} (hu : P.underlying t = some (.slice el)) (hc : compOp P G own (.slice t x lo hi none) = some xo) (hx : xop X C xo e H = some r)
    (hr : HR G B σ μ H w) (he : ER σ μ e w a) : OpOK P (.slice t x lo hi none) o a w (Post G B σ μ w r) := by
  simp only [compOp, hu, Option.bind_eq_some_iff, Option.map_eq_some_iff] at hc
  obtain ⟨y, hy, y1, hy1, y2, hy2, inf, hinf, rfl⟩ := hc
  have h1 := RV.arg hr he hy
  simp only [xop, Option.bind_eq_some_iff, Option.map_eq_some_iff] at hx
  obtain ⟨l, hl, h, hh, v, hx, rfl⟩ := hx
  have hlo := map_args (optArg_some hr he hy1 hl)
  have hhi := map_args (optArg_some hr he hy2 hh)
  have hrun : ∀ base len cap, a.eval x = .slice base len cap → l.getD 0 ≤ h.getD len → h.getD len ≤ cap → len ≤ cap →
      (execOp a.eval { o with op := .slice t x lo hi none }).run P w = .ok (.value (.slice (if cap = l.getD 0 then base else base.map (·.add (l.getD 0 * inf.size))) (h.getD len - l.getD 0) (cap - l.getD 0))) w := by
    intro base len cap hv g1 g2 g3
    have hbd := run_sliceBounds (P := P) (w := w) (isSl := true) (len := len) (cap := cap) hlo hhi g1 g2 g3
    simp [execOp, hv, Instr.sliceAt, run_underlying hu, Instr.slice, hbd, sizeOf, typeInfo, hinf]
  unfold sliceAV at hx
  split at hx
  · rename_i hp
    split at hx
    · rename_i hb
      cases hx
      rw [hp] at h1
      have h1' := h1.nilslice_inv
      have hr1 := hrun _ _ _ h1' (by omega) (by omega) (by omega)
      refine .quiet hr rfl hr1 ?_
      simp [hb.1, hb.2]
      exact .nilslice _
    · cases hx
  · rename_i es hp
    dsimp only at hx
    split at hx
    · rename_i hb
      cases hx
      rw [hp] at h1
      rcases h1.vslice_inv with ⟨rfl, base, cap, h1'⟩ | ⟨rb, off, c, ty, fz, vs, sz, cap, h1', g1, g2, g3, g4, g5, g6⟩
      · have hb1 : l.getD 0 ≤ h.getD 0 := by simpa using hb.1
        have hb2 : h.getD 0 = 0 := by simpa using hb.2
        have hr1 := hrun _ _ _ h1' (by omega) (by omega) (by omega)
        refine .quiet hr rfl hr1 ?_
        rw [show h.getD 0 - l.getD 0 = 0 by omega]
        simp
        exact .vslice0 _ _ _
      · have hr1 := hrun _ _ _ h1' hb.1 (by omega) g6
        refine .quiet hr rfl hr1 ?_
        have hall : ∀ e ∈ es, e.cells.length = sz := fun e he => (g4 e he).1
        have hlen : ((es.take (h.getD es.length)).drop (l.getD 0)).length = h.getD es.length - l.getD 0 := by simp; omega
        by_cases hz : h.getD es.length - l.getD 0 = 0
        · have : (es.take (h.getD es.length)).drop (l.getD 0) = [] := List.eq_nil_of_length_eq_zero (by omega)
          simp only [this, hz]
          exact .vslice0 _ _ _
        · rw [if_neg (by omega)]
          have hl0 : l.getD 0 < es.length := by omega
          have hpos : ¬ es = [] := fun e => by rw [e] at hl0; simp at hl0
          have hs : l.getD 0 * inf.size = l.getD 0 * sz := by
            rcases hb.2.2 with h0 | h0
            · rw [h0]; simp
            · obtain ⟨x0, hx0⟩ := List.exists_mem_of_ne_nil _ hpos
              rw [List.all_eq_true] at h0
              have := h0 x0 hx0
              rw [← hall x0 hx0, eq_of_beq this]
          simp only [Option.map_some, addr_add, hs]
          have hall2 : ∀ e ∈ (es.take (h.getD es.length)), e.cells.length = sz := fun e he => hall e (List.mem_of_mem_take he)
          have key := RV.vslice (w := w) (σ := σ) μ ((es.take (h.getD es.length)).drop (l.getD 0)) rb (off + l.getD 0 * sz) c ty fz ((vs.take (h.getD es.length * sz)).drop (l.getD 0 * sz)) sz (cap - l.getD 0) g1 g2 (by
              intro j hj
              have h7 := flat_length hall
              have h8 := g5.length
              simp at hj
              rw [Nat.add_assoc, g3 _ (by omega), List.getElem?_drop, List.getElem?_take_of_lt (by omega)])
            (fun e he => g4 e (List.mem_of_mem_take (List.mem_of_mem_drop he)))
            (by rw [flat_drop _ hall2, flat_take _ hall]; exact (g5.take _).drop _) (by rw [hlen]; omega)
          rw [hlen] at key
          exact key
    · cases hx
  · rename_i b off len hp
    split at hx
    · rename_i sz' es hbk
      dsimp only at hx
      split at hx
      · rename_i hb
        rw [hp] at h1
        obtain ⟨cap, m, h1', hm, g1, g2, g3⟩ := h1.slice_inv
        have hbr := hr.blk b _ m hbk hm
        have hn : m.n = es.length := hbr.2.1
        have hsz : m.sz = inf.size := by rw [hbr.1, hb.2.2]
        have hr1 := hrun _ _ _ h1' hb.1 (by omega) g1
        split at hx
        · rename_i hor
          cases hx
          refine .quiet hr rfl hr1 ?_
          have key := RV.slice (w := w) (σ := σ) μ b (off + l.getD 0) (h.getD len - l.getD 0) (cap - l.getD 0) m hm (by omega) (by omega) (by rw [show off + l.getD 0 + (cap - l.getD 0) = off + cap by omega]; exact g3)
          rcases hor with hlt | h0
          · rw [if_neg (by omega)]
            simpa [addr_add, Nat.add_mul, Nat.add_assoc, hsz] using key
          · rw [h0] at key ⊢
            simp at key ⊢
            split <;> simpa [addr_add] using key
        · rename_i hor
          cases hx
          refine .quiet hr rfl hr1 ?_
          rw [show h.getD len - l.getD 0 = 0 by omega]
          exact .vslice0 _ _ _
      · cases hx
    · cases hx
  · cases hx
end
end X
end Go.Proofs.YtplginnkececaaaGreatDoor

set_option linter.unusedSimpArgs false
set_option linter.unusedVariables false
namespace Go.Proofs.YtplginnkececaaaGreatDoor
open Go
namespace X

section
variable {P : Program} {G : Nat → Option AV} {w : World} {σ : Nat → Prop} {μ : Mu}
variable {X : Prog} {C : Oracle} {B : Nat} {H : Heap} {e : Env} {a : Act} {o : Oper} {r : AV × Heap}

def ofCells (P : Program) (t : TypeId) (xs : List Value) : Value :=
  match P.underlying t with
  | some (.struct _) => .agg xs.toArray
  | _ => xs.headD undef

theorem eqCell_run {f : FK} {v u : AV} {b : Bool} (h : eqCell f v u = some b) {x y : Value} {μ' : Mu} (hx : RV w σ μ v x) (hy : RV w σ μ' u y) {t : TypeId}
    (ht : (f = .int ∧ ∃ k, P.underlying t = some (.int k)) ∨ (f = .str ∧ P.underlying t = some .string) ∨ (f = .bool ∧ P.underlying t = some .bool)) (d : Nat) :
    (Op.equalIn (d + 1) t x y).run P w = .ok b w := by
  unfold eqCell at h
  split at h
  · rename_i j p k q
    split at h
    · rename_i hjk
      subst hjk
      cases h
      rw [hx.int_inv, hy.int_inv]
      rcases ht with ⟨_, k, hk⟩ | ⟨hf, _⟩ | ⟨hf, _⟩
      · exact run_equalIn_int w d t _ k _ _ hk
      · cases hf
      · cases hf
    · cases h
  · cases h
    rw [hx.str_inv, hy.str_inv]
    rcases ht with ⟨hf, _⟩ | ⟨_, hk⟩ | ⟨hf, _⟩
    · cases hf
    · rw [run_equalIn_string w d t _ _ hk]; simp
    · cases hf
  · cases h
    rw [hx.bool_inv, hy.bool_inv]
    rcases ht with ⟨hf, _⟩ | ⟨hf, _⟩ | ⟨_, hk⟩
    · cases hf
    · cases hf
    · exact run_equalIn_bool w d t _ _ hk
  · cases h

theorem eqCells_split : ∀ {ks ls : List FK} {vs us : List AV} {b : Bool}, eqCells (ks ++ ls) vs us = some b →
    ∃ b1 b2, eqCells ks (vs.take ks.length) (us.take ks.length) = some b1 ∧ eqCells ls (vs.drop ks.length) (us.drop ks.length) = some b2 ∧ b = (b1 && b2)
  | [], ls, vs, us, b, h => ⟨true, b, by simp [eqCells], by simpa using h, by simp⟩
  | k :: ks, ls, vs, us, b, h => by
    cases vs with
    | nil => simp [eqCells] at h
    | cons v vs =>
      cases us with
      | nil => simp [eqCells] at h
      | cons u us =>
        simp only [List.cons_append, eqCells, Option.bind_eq_some_iff, Option.some.injEq] at h
        obtain ⟨x, hx, y, hy, rfl⟩ := h
        obtain ⟨b1, b2, h1, h2, rfl⟩ := eqCells_split hy
        exact ⟨x && b1, b2, by simp [eqCells, hx, h1], by simpa using h2, by simp [Bool.and_assoc]⟩

theorem eqCells_length : ∀ {ks : List FK} {vs us : List AV} {b : Bool}, eqCells ks vs us = some b → vs.length = ks.length ∧ us.length = ks.length
  | [], [], [], _, _ => by simp
  | [], [], _ :: _, _, h => by simp [eqCells] at h
  | [], _ :: _, _, _, h => by simp [eqCells] at h
  | _ :: _, [], _, _, h => by simp [eqCells] at h
  | _ :: _, _ :: _, [], _, h => by simp [eqCells] at h
  | k :: ks, v :: vs, u :: us, b, h => by
    simp only [eqCells, Option.bind_eq_some_iff] at h
    obtain ⟨x, hx, y, hy, _⟩ := h
    have := eqCells_length hy
    simp [this.1, this.2]

theorem flatK_part {d : Nat} {t : TypeId} {ks : List FK} (hk : flatK P d t = some ks) (hi : (P.info? t).map (·.size) = some ks.length) {xs : List Value} {off : Nat} (hl : off + ks.length ≤ xs.length) :
    (part t xs.toArray off).run P w = .ok (ofCells P t ((xs.drop off).take ks.length)) w := by
  cases d with
  | zero => simp [flatK] at hk
  | succ d =>
    rw [Option.map_eq_some_iff] at hi
    obtain ⟨i, hi, hsz⟩ := hi
    unfold flatK at hk
    have one : ks.length = 1 → (isAgg t).run P w = .ok false w → (∀ xs : List Value, ofCells P t xs = xs.headD undef) → (part t xs.toArray off).run P w = .ok (ofCells P t ((xs.drop off).take ks.length)) w := by
      intro h1 ha ho
      have hlt : off < xs.length := by omega
      have e : (xs.drop off).take 1 = [xs[off]] := by rw [List.drop_eq_getElem_cons hlt]; rfl
      rw [ho, h1, e]
      simp [part, ha, hlt]
    split at hk
    · rename_i k hu; cases hk
      exact one rfl (by simp [isAgg, run_underlying hu]) (fun xs => by simp [ofCells, hu])
    · rename_i hu; cases hk
      exact one rfl (by simp [isAgg, run_underlying hu]) (fun xs => by simp [ofCells, hu])
    · rename_i hu; cases hk
      exact one rfl (by simp [isAgg, run_underlying hu]) (fun xs => by simp [ofCells, hu])
    · rename_i fs hu
      have ha : (isAgg t).run P w = .ok true w := by simp [isAgg, run_underlying hu]
      have ho : ofCells P t ((xs.drop off).take ks.length) = .agg ((xs.drop off).take ks.length).toArray := by simp only [ofCells, hu]
      rw [ho, ← hsz]
      simp [part, ha, sizeOf, typeInfo, hi]
    · cases hk

theorem eqFlat_run : ∀ (d : Nat) {t : TypeId} {ks : List FK}, flatK P d t = some ks → ∀ {vs us : List AV} {xs ys : List Value} {b : Bool} {μ' : Mu}, RVs w σ μ vs xs → RVs w σ μ' us ys →
    eqCells ks vs us = some b → ∀ D, (Op.equalIn (D + d) t (ofCells P t xs) (ofCells P t ys)).run P w = .ok b w
  | 0, t, ks, hk, _, _, _, _, _, _, _, _, _, _ => by simp [flatK] at hk
  | d + 1, t, ks, hk, vs, us, xs, ys, b, μ', hx, hy, he, D => by
    unfold flatK at hk
    have one : ∀ f, ks = [f] → (∀ xs : List Value, ofCells P t xs = xs.headD undef) → ((f = .int ∧ ∃ k, P.underlying t = some (.int k)) ∨ (f = .str ∧ P.underlying t = some .string) ∨ (f = .bool ∧ P.underlying t = some .bool)) →
        (Op.equalIn (D + (d + 1)) t (ofCells P t xs) (ofCells P t ys)).run P w = .ok b w := by
      intro f hf ho ht
      subst hf
      obtain ⟨l1, l2⟩ := eqCells_length he
      match vs, us, l1, l2 with
      | [v], [u], _, _ =>
        cases hx with
        | cons _ _ x _ xs' hx1 hx2 =>
          cases hy with
          | cons _ _ y _ ys' hy1 hy2 =>
            simp only [eqCells, Option.bind_eq_some_iff, Option.some.injEq, Bool.and_true] at he
            obtain ⟨c, hc, _, rfl, rfl⟩ := he
            rw [ho, ho]
            simp only [List.headD_cons, Bool.and_true]
            exact eqCell_run hc hx1 hy1 ht (D + d)
    split at hk
    · rename_i k hu; cases hk
      exact one .int rfl (fun xs => by simp [ofCells, hu]) (.inl ⟨rfl, k, hu⟩)
    · rename_i hu; cases hk
      exact one .str rfl (fun xs => by simp [ofCells, hu]) (.inr (.inl ⟨rfl, hu⟩))
    · rename_i hu; cases hk
      exact one .bool rfl (fun xs => by simp [ofCells, hu]) (.inr (.inr ⟨rfl, hu⟩))
    · rename_i fs hu
      split at hk
      · cases hk
      · rename_i hst
        have hst' : P.stoodInHeld t = false := by simpa using hst
        have hfo : P.fieldsOf t = fs := by simp [Program.fieldsOf, hu]
        simp only [ofCells, hu]
        rw [← Nat.add_assoc, run_equalIn_struct w (D + d) t _ _ (by rw [hfo]; exact hu) hst', hfo]
        have key : ∀ (l : List Field) (off : Nat) (ls : List FK) (b : Bool), flatFs P (flatK P d) l off = some ls → eqCells ls (vs.drop off) (us.drop off) = some b → off ≤ vs.length → off ≤ us.length →
            (Op.eqFields (D + d) xs.toArray ys.toArray l).run P w = .ok b w := by
          intro l
          induction l with
          | nil =>
            intro off ls b hls hb h1 h2
            simp [flatFs] at hls; subst hls
            obtain ⟨l1, l2⟩ := eqCells_length hb
            have e1 : vs.drop off = [] := List.eq_nil_of_length_eq_zero l1
            have e2 : us.drop off = [] := List.eq_nil_of_length_eq_zero l2
            rw [e1, e2] at hb
            simp [eqCells] at hb
            subst hb
            simp [Op.eqFields]
          | cons f l ih =>
            intro off ls b hls hb h1 h2
            unfold flatFs at hls
            split at hls
            · rename_i hn
              simp only [Option.bind_eq_some_iff] at hls
              obtain ⟨ks1, hk1, hls⟩ := hls
              split at hls
              · rename_i hsz
                rw [Option.map_eq_some_iff] at hls
                obtain ⟨ks2, hk2, rfl⟩ := hls
                obtain ⟨b1, b2, hb1, hb2, rfl⟩ := eqCells_split hb
                obtain ⟨l1, l2⟩ := eqCells_length hb
                simp at l1 l2
                have g1 := hx.length
                have g2 := hy.length
                have p1 := flatK_part (w := w) hk1 hsz (xs := xs) (off := f.offset) (by rw [hn.2]; omega)
                have p2 := flatK_part (w := w) hk1 hsz (xs := ys) (off := f.offset) (by rw [hn.2]; omega)
                have hq := eqFlat_run d hk1 ((hx.drop off).take ks1.length) ((hy.drop off).take ks1.length) hb1 D
                have hrest := ih (off + ks1.length) ks2 b2 hk2 (by rw [List.drop_drop, List.drop_drop] at hb2; exact hb2) (by omega) (by omega)
                rw [hn.2] at p1 p2
                simp only [Op.eqFields, hn.1, ne_eq, not_false_eq_true, if_true, hn.2, Sem.run_bind, p1, p2, Result.andThen_ok, hq]
                cases b1
                · simp
                · simpa using hrest
              · cases hls
            · cases hls
        exact key fs.toList 0 ks b hk (by simpa using he) (by omega) (by omega)
    · cases hk

theorem ekOf_agg {t : TypeId} {fs : List FK} (h : ekOf P t = .agg fs) : (∃ l, P.underlying t = some (.struct l)) ∧ P.eqGuardType P.depth t = false ∧ flatK P 8 t = some fs := by
  unfold ekOf at h
  split at h <;> first | (cases h; done) | skip
  · rename_i l hu
    split at h
    · cases h
    · rename_i hg
      split at h
      · rename_i gs hg2
        cases h
        exact ⟨⟨l, hu⟩, by simpa using hg, hg2⟩
      · cases h
  · split at h <;> cases h

theorem ekOf_one {t : TypeId} {f : FK} (h : ekOf P t = .one f) : (f = .int ∧ ∃ k, P.underlying t = some (.int k)) ∨ (f = .str ∧ P.underlying t = some .string) ∨ (f = .bool ∧ P.underlying t = some .bool) := by
  unfold ekOf at h
  split at h
  · cases h; simp [*]
  · cases h; simp [*]
  · cases h; simp [*]
  · split at h
    · cases h
    · split at h <;> cases h
  · split at h <;> cases h
  all_goals cases h

theorem live_some {b : Nat} (h : H.live b = true) : ∃ sz es, H[b]? = some (.arr sz es) := by
  unfold Heap.live at h
  split at h
  · rename_i sz es hb; exact ⟨sz, es, hb⟩
  · cases h

theorem ekOf_kind {t : TypeId} : (ekOf P t = .ptr → ∃ el, P.underlying t = some (.pointer el) ∧ 0 < P.cellsOf el) ∧ (ekOf P t = .iface → ∃ ms, P.underlying t = some (.interface ms)) ∧
    (ekOf P t = .slice → ∃ el, P.underlying t = some (.slice el)) ∧ (ekOf P t = .func → ∃ x y z, P.underlying t = some (.func x y z)) := by
  unfold ekOf
  split
  · simp
  · simp
  · simp
  · split
    · simp
    · split <;> simp
  · rename_i el hu
    split <;> simp_all
  all_goals simp_all

theorem stringish_of {rb off : Nat} {c : Array Value} {ty : TypeId} (h : w.heap[rb]? = some (.cells c ty (0, 0))) : (stringish ⟨rb, off, none⟩).run P w = .ok false w := by
  simp [stringish, World.frozen?, World.shape?, h]

section eqs
variable {t : TypeId} (d : Nat)
theorem eqIn_nilptr {el : TypeId} (hu : P.underlying t = some (.pointer el)) (b : Option Addr) : (Op.equalIn (d + 1) t (.pointer none) (.pointer b)).run P w = .ok b.isNone w := by
  rw [Op.equalIn]; simp only [Sem.run_bind, run_underlying hu, Result.andThen_ok]; rfl
theorem eqIn_ptrnil {el : TypeId} (hu : P.underlying t = some (.pointer el)) (b : Addr) : (Op.equalIn (d + 1) t (.pointer (some b)) (.pointer none)).run P w = .ok false w := by
  rw [Op.equalIn]; simp only [Sem.run_bind, run_underlying hu, Result.andThen_ok]; rfl
theorem eqIn_ptr {el : TypeId} {i : TypeInfo} (hu : P.underlying t = some (.pointer el)) (hi : P.info? el = some i) (hne : ¬ i.size = 0) (b c : Addr) :
    (Op.equalIn (d + 1) t (.pointer (some b)) (.pointer (some c))).run P w = (sameAddr b c).run P w := by
  rw [Op.equalIn]
  simp only [Sem.run_bind, run_underlying hu, Result.andThen_ok, sizeOf, typeInfo, run_program, hi, Sem.run_pure, ne_eq, hne, not_false_eq_true, if_true]
theorem eqIn_niliface {ms : Array (String × TypeId)} (hu : P.underlying t = some (.interface ms)) (u : TypeId) (x : Value) : (Op.equalIn (d + 1) t .nilIface (.iface u x)).run P w = .ok false w := by
  rw [Op.equalIn]; simp only [Sem.run_bind, run_underlying hu, Result.andThen_ok]; rfl
theorem eqIn_ifacenil {ms : Array (String × TypeId)} (hu : P.underlying t = some (.interface ms)) (u : TypeId) (x : Value) : (Op.equalIn (d + 1) t (.iface u x) .nilIface).run P w = .ok false w := by
  rw [Op.equalIn]; simp only [Sem.run_bind, run_underlying hu, Result.andThen_ok]; rfl
theorem eqIn_nilslice {el : TypeId} (hu : P.underlying t = some (.slice el)) (b : Option Addr) (n m n' m' : Nat) : (Op.equalIn (d + 1) t (.slice none n m) (.slice b n' m')).run P w = .ok b.isNone w := by
  rw [Op.equalIn]; simp only [Sem.run_bind, run_underlying hu, Result.andThen_ok]; rfl
theorem eqIn_slicenil {el : TypeId} (hu : P.underlying t = some (.slice el)) (b : Addr) (n m n' m' : Nat) : (Op.equalIn (d + 1) t (.slice (some b) n m) (.slice none n' m')).run P w = .ok false w := by
  rw [Op.equalIn]; simp only [Sem.run_bind, run_underlying hu, Result.andThen_ok]; rfl
theorem eqIn_nilfunc {x y : Array TypeId} {z : Bool} (hu : P.underlying t = some (.func x y z)) : (Op.equalIn (d + 1) t .nilFunc .nilFunc).run P w = .ok true w := by
  rw [Op.equalIn]; simp only [Sem.run_bind, run_underlying hu, Result.andThen_ok]; rfl
theorem eqIn_nilfunc1 {x y : Array TypeId} {z : Bool} (hu : P.underlying t = some (.func x y z)) (f : Fn) (b c : Array Value) : (Op.equalIn (d + 1) t .nilFunc (.func f b c)).run P w = .ok false w := by
  rw [Op.equalIn]; simp only [Sem.run_bind, run_underlying hu, Result.andThen_ok]; rfl
theorem eqIn_nilfunc2 {x y : Array TypeId} {z : Bool} (hu : P.underlying t = some (.func x y z)) (f : Fn) (b c : Array Value) : (Op.equalIn (d + 1) t (.func f b c) .nilFunc).run P w = .ok false w := by
  rw [Op.equalIn]; simp only [Sem.run_bind, run_underlying hu, Result.andThen_ok]; rfl
theorem run_sameAddr_ne {b c : Addr} {x y : Array Value} {t1 t2 : TypeId} (hne : b.block ≠ c.block) (h1 : w.heap[b.block]? = some (.cells x t1 (0, 0))) (h2 : w.heap[c.block]? = some (.cells y t2 (0, 0))) :
    (sameAddr b c).run P w = .ok false w := by
  have hb : (b.block == c.block) = false := by simpa using hne
  simp [sameAddr, hb, World.frozen?, h1, h2, noView, viewAt, World.shape?, mayBeOne, stringish]
theorem run_sameAddr_eq (b : Addr) : (sameAddr b b).run P w = .ok true w := by simp [sameAddr]
end eqs

theorem size_ne {el : TypeId} (h : 0 < P.cellsOf el) : ∃ i, P.info? el = some i ∧ ¬ i.size = 0 := by
  unfold Program.cellsOf at h
  cases hi : P.info? el with
  | none => rw [hi] at h; simp at h
  | some i => rw [hi] at h; simp at h; exact ⟨i, rfl, by omega⟩

theorem run_eq_ptr {t : TypeId} {v u : AV} {b : Bool} (hk : ekOf P t = .ptr) (h : eqAV H .ptr v u = some b) (hr : HR G B σ μ H w) {x y : Value} (hx : RV w σ μ v x) (hy : RV w σ μ u y) :
    (Op.equal t x y).run P w = .ok b w := by
  obtain ⟨el, hu, hsz⟩ := ekOf_kind.1 hk
  obtain ⟨i, hi, hne⟩ := size_ne hsz
  simp only [eqAV] at h
  split at h
  · cases h; rw [hx.nilptr_inv, hy.nilptr_inv]; exact eqIn_nilptr 9999 hu _
  · cases h; obtain ⟨m, rfl, _⟩ := hy.ptr_inv; rw [hx.nilptr_inv]; exact eqIn_nilptr 9999 hu _
  · cases h; obtain ⟨m, rfl, _⟩ := hx.ptr_inv; rw [hy.nilptr_inv]; exact eqIn_ptrnil 9999 hu _
  · cases h; obtain ⟨_, _, _, _, _, _, rfl, _⟩ := hy.vptr_inv; rw [hx.nilptr_inv]; exact eqIn_nilptr 9999 hu _
  · cases h; obtain ⟨_, _, _, _, _, _, rfl, _⟩ := hx.vptr_inv; rw [hy.nilptr_inv]; exact eqIn_ptrnil 9999 hu _
  · rename_i b1 i1 o1 b2 i2 o2
    obtain ⟨m1, rfl, hm1⟩ := hx.ptr_inv
    obtain ⟨m2, rfl, hm2⟩ := hy.ptr_inv
    split at h
    · rename_i heq
      cases h
      obtain ⟨rfl, rfl, rfl⟩ := heq
      rw [hm1] at hm2
      cases hm2
      exact (eqIn_ptr 9999 hu hi hne _ _).trans (run_sameAddr_eq _)
    · split at h
      · rename_i heq
        cases h
        obtain ⟨hb, rfl, rfl, rfl, rfl, hl1, hl2⟩ := heq
        obtain ⟨sz1, es1, e1⟩ := live_some hl1
        obtain ⟨sz2, es2, e2⟩ := live_some hl2
        have hrb : m1.rb ≠ m2.rb := fun q => hb (hr.inj b1 b2 _ _ m1 m2 e1 trivial e2 trivial hm1 hm2 q)
        obtain ⟨_, _, _, _, c1, ty1, g1, _⟩ := hr.blk b1 _ m1 e1 hm1
        obtain ⟨_, _, _, _, c2, ty2, g2, _⟩ := hr.blk b2 _ m2 e2 hm2
        exact (eqIn_ptr 9999 hu hi hne _ _).trans (run_sameAddr_ne hrb g1 g2)
      · cases h
  · cases h

theorem run_eqAV {t : TypeId} {v u : AV} {b : Bool} (h : eqAV H (ekOf P t) v u = some b) (hr : HR G B σ μ H w) {x y : Value} (hx : RV w σ μ v x) (hy : RV w σ μ u y) :
    (Op.equal t x y).run P w = .ok b w := by
  generalize hk : ekOf P t = k at h
  cases k with
  | ptr => exact run_eq_ptr hk h hr hx hy
  | one f =>
    cases f with
    | bool => exact eqCell_run h hx hy (ekOf_one hk) 9999
    | int => simp [eqAV] at h
    | str => simp [eqAV] at h
  | agg fs =>
    obtain ⟨⟨l, hu⟩, _, hf⟩ := ekOf_agg hk
    simp only [eqAV] at h
    split at h
    · rename_i cs ds
      obtain ⟨xs, rfl, hxs⟩ := hx.agg_inv
      obtain ⟨ys, rfl, hys⟩ := hy.agg_inv
      have := eqFlat_run 8 hf hxs hys h 9992
      simp only [ofCells, hu] at this
      exact this
    · cases h
  | iface =>
    obtain ⟨ms, hu⟩ := ekOf_kind.2.1 hk
    simp only [eqAV] at h
    split at h
    · cases h; obtain ⟨y', rfl, _⟩ := hy.iface_inv; cases hx; exact eqIn_niliface 9999 hu _ _
    · cases h; obtain ⟨y', rfl, _⟩ := hx.iface_inv; cases hy; exact eqIn_ifacenil 9999 hu _ _
    · cases h
  | slice =>
    obtain ⟨el, hu⟩ := ekOf_kind.2.2.1 hk
    simp only [eqAV] at h
    split at h
    · cases h; rw [hx.nilslice_inv, hy.nilslice_inv]; exact eqIn_nilslice 9999 hu _ _ _ _ _
    · cases h; obtain ⟨_, _, rfl, _⟩ := hy.slice_inv; rw [hx.nilslice_inv]; exact eqIn_nilslice 9999 hu _ _ _ _ _
    · cases h; obtain ⟨_, _, rfl, _⟩ := hx.slice_inv; rw [hy.nilslice_inv]; exact eqIn_slicenil 9999 hu _ _ _ _ _
    · cases h
      rcases hy.vslice_inv with ⟨h0, _⟩ | ⟨_, _, _, _, _, _, _, _, rfl, _⟩
      · cases h0
      · rw [hx.nilslice_inv]; exact eqIn_nilslice 9999 hu _ _ _ _ _
    · cases h
      rcases hx.vslice_inv with ⟨h0, _⟩ | ⟨_, _, _, _, _, _, _, _, rfl, _⟩
      · cases h0
      · rw [hy.nilslice_inv]; exact eqIn_slicenil 9999 hu _ _ _ _ _
    · cases h
  | func =>
    obtain ⟨x1, x2, x3, hu⟩ := ekOf_kind.2.2.2 hk
    simp only [eqAV] at h
    split at h
    · cases h; cases hx; cases hy; exact eqIn_nilfunc 9999 hu
    · cases h; obtain ⟨_, _, _, rfl, _⟩ := hy.func_inv; cases hx; exact eqIn_nilfunc1 9999 hu _ _ _
    · cases h; obtain ⟨_, _, _, rfl, _⟩ := hx.func_inv; cases hy; exact eqIn_nilfunc2 9999 hu _ _ _
    · cases h
  | map => simp [eqAV] at h
  | other => simp [eqAV] at h

def EqShape (P : Program) (w : World) (t : TypeId) (x y : Value) : Prop :=
  (∀ op X Y, (eqGuard op t X Y x y).run P w = .ok () w) ∧ binOp .eql t x y = (do pure (.bool (← Op.equal t x y))) ∧ binOp .neq t x y = (do pure (.bool (!(← Op.equal t x y))))

theorem shape_bool (t : TypeId) (b c : Bool) : EqShape P w t (.bool b) (.bool c) := ⟨fun op _ _ => by cases op <;> rfl, rfl, rfl⟩
theorem shape_ptr (t : TypeId) (b c : Option Addr) : EqShape P w t (.pointer b) (.pointer c) := ⟨fun op _ _ => by cases op <;> rfl, rfl, rfl⟩
theorem shape_slice (t : TypeId) (b c : Option Addr) (n m n' m' : Nat) : EqShape P w t (.slice b n m) (.slice c n' m') := ⟨fun op _ _ => by cases op <;> rfl, rfl, rfl⟩
theorem shape_iface1 (t u : TypeId) (x : Value) : EqShape P w t .nilIface (.iface u x) := ⟨fun op _ _ => by cases op <;> rfl, rfl, rfl⟩
theorem shape_iface2 (t u : TypeId) (x : Value) : EqShape P w t (.iface u x) .nilIface := ⟨fun op _ _ => by cases op <;> rfl, rfl, rfl⟩
theorem shape_func0 (t : TypeId) : EqShape P w t .nilFunc .nilFunc := ⟨fun op _ _ => by cases op <;> rfl, rfl, rfl⟩
theorem shape_func1 (t : TypeId) (f : Fn) (b c : Array Value) : EqShape P w t .nilFunc (.func f b c) := ⟨fun op _ _ => by cases op <;> rfl, rfl, rfl⟩
theorem shape_func2 (t : TypeId) (f : Fn) (b c : Array Value) : EqShape P w t (.func f b c) .nilFunc := ⟨fun op _ _ => by cases op <;> rfl, rfl, rfl⟩
theorem shape_agg (t : TypeId) (b c : Array Value) (hg : P.eqGuardType P.depth t = false) : EqShape P w t (.agg b) (.agg c) := ⟨fun op _ _ => run_eqGuard_agg w op t _ _ b c hg, rfl, rfl⟩

theorem run_eqShape {t : TypeId} {v u : AV} {b : Bool} (h : eqAV H (ekOf P t) v u = some b) {x y : Value} (hx : RV w σ μ v x) (hy : RV w σ μ u y) : EqShape P w t x y := by
  generalize hk : ekOf P t = k at h
  cases k with
  | ptr =>
    simp only [eqAV] at h
    split at h <;> first | (cases h; done) | (cases hx <;> cases hy <;> exact shape_ptr _ _ _)
  | one f =>
    cases f with
    | bool =>
      simp only [eqAV] at h
      unfold eqCell at h
      split at h <;> first | (cases h; done) | skip
      · rename_i hf; cases hf
      · rename_i hf; cases hf
      · rw [hx.bool_inv, hy.bool_inv]; exact shape_bool _ _ _
    | int => simp [eqAV] at h
    | str => simp [eqAV] at h
  | agg fs =>
    obtain ⟨_, hg, _⟩ := ekOf_agg hk
    simp only [eqAV] at h
    split at h
    · obtain ⟨xs, rfl, _⟩ := hx.agg_inv
      obtain ⟨ys, rfl, _⟩ := hy.agg_inv
      exact shape_agg _ _ _ hg
    · cases h
  | iface =>
    simp only [eqAV] at h
    split at h
    · obtain ⟨y', rfl, _⟩ := hy.iface_inv; cases hx; exact shape_iface1 _ _ _
    · obtain ⟨y', rfl, _⟩ := hx.iface_inv; cases hy; exact shape_iface2 _ _ _
    · cases h
  | slice =>
    simp only [eqAV] at h
    split at h <;> first | (cases h; done) | (cases hx <;> cases hy <;> exact shape_slice _ _ _ _ _ _ _)
  | func =>
    simp only [eqAV] at h
    split at h
    · cases hx; cases hy; exact shape_func0 _
    · obtain ⟨_, _, _, rfl, _⟩ := hy.func_inv; cases hx; exact shape_func1 _ _ _ _
    · obtain ⟨_, _, _, rfl, _⟩ := hx.func_inv; cases hy; exact shape_func2 _ _ _ _
    · cases h
  | map => simp [eqAV] at h
  | other => simp [eqAV] at h

theorem ok_bin {op : BinOp} {t t2 : TypeId} {x y : Operand} {own : Bool} {xo : XOp} (hc : compOp P G own (.binOp op t x y t2) = some xo) (hx : xop X C xo e H = some r) (hr : HR G B σ μ H w) (he : ER σ μ e w a) :
    OpOK P (.binOp op t x y t2) o a w (Post G B σ μ w r) := by
  simp only [compOp, Option.bind_eq_some_iff, Option.map_eq_some_iff] at hc
  obtain ⟨x', hx', y', hy', rfl⟩ := hc
  have h1 := RV.arg hr he hx'
  have h2 := RV.arg hr he hy'
  simp only [xop, Option.map_eq_some_iff] at hx
  obtain ⟨v, hv, rfl⟩ := hx
  have hguard : ∀ (k : IntKind) (n : Int), a.eval x = .int k n → (eqGuard op t x y (a.eval x) (a.eval y)).run P w = .ok () w := by
    intro k n hxv; rw [hxv]; cases op <;> simp [eqGuard]
  unfold binAV at hv
  split at hv
  · rename_i k m k' n hp hq
    rw [hp] at h1; rw [hq] at h2
    have e1 := h1.int_inv
    have e2 := h2.int_inv
    have hg := hguard _ _ e1
    split at hv
    · rename_i ho
      obtain ⟨z, hz, hzr⟩ := run_intShift (P := P) (w := w) (σ := σ) (μ := μ) (.inl rfl) hv t (k' := k')
      refine .quiet hr rfl ?_ hzr
      rw [e1, e2] at hg
      simp [execOp, e1, e2, hg, hz]
    · rename_i ho
      obtain ⟨z, hz, hzr⟩ := run_intShift (P := P) (w := w) (σ := σ) (μ := μ) (.inr rfl) hv t (k' := k')
      refine .quiet hr rfl ?_ hzr
      rw [e1, e2] at hg
      simp [execOp, e1, e2, hg, hz]
    · split at hv
      · rename_i hk
        subst hk
        obtain ⟨z, hz, hzr⟩ := run_intBin (P := P) (w := w) (σ := σ) (μ := μ) hv t
        refine .quiet hr rfl ?_ hzr
        rw [e1, e2] at hg
        simp [execOp, e1, e2, hg, hz]
      · cases hv
  · rename_i s u hp hq
    rw [hp] at h1; rw [hq] at h2
    have e1 := h1.str_inv
    have e2 := h2.str_inv
    obtain ⟨z, hz, hzr⟩ := run_strBin (P := P) (w := w) (σ := σ) (μ := μ) hv t
    refine .quiet hr rfl ?_ hzr
    have hg : (eqGuard op t x y (.string ⟨s.toArray⟩) (.string ⟨u.toArray⟩)).run P w = .ok () w := by cases op <;> simp [eqGuard]
    simp [execOp, e1, e2, hg, hz]
  · skip
    split at hv
    · rw [Option.map_eq_some_iff] at hv
      obtain ⟨b, hb, rfl⟩ := hv
      have hq := run_eqAV (P := P) hb hr h1 h2
      refine .quiet hr rfl ?_ (.bool _ _)
      obtain ⟨g1, g2, _⟩ := run_eqShape (P := P) hb h1 h2
      simp [execOp, g1, g2, hq]
    · rw [Option.map_eq_some_iff] at hv
      obtain ⟨b, hb, rfl⟩ := hv
      have hq := run_eqAV (P := P) hb hr h1 h2
      refine .quiet hr rfl ?_ (.bool _ _)
      obtain ⟨g1, _, g2⟩ := run_eqShape (P := P) hb h1 h2
      simp [execOp, g1, g2, hq]
    · cases hv
end
end X
end Go.Proofs.YtplginnkececaaaGreatDoor
