/- The engine's operations are sound, one by one: those that leave the heap alone. No condition. -/
import Derived.Test.YtkaigfcjejabfaaGreatDoorXC
import Derived.Laws.MakeOwn
import Derived.Laws.Concat
import Derived.Laws.Cover1
import Derived.Laws.Slices
set_option linter.unusedSimpArgs false
set_option linter.unusedVariables false
namespace Go.Proofs.YtkaigfcjejabfaaGreatDoor
open Go
namespace X

/-- An operation comes to a value and a world of which 'R' holds. -/
def OpOK (P : Program) (op : Op) (o : Oper) (a : Act) (w : World) (R : Value → World → Prop) : Prop :=
  ∀ next Q, (∀ x w', R x w' → next (a.put o.dst x) w') → Oper.wp P { o with op := op } a w next Q

theorem OpOK.value {P : Program} {op : Op} {o : Oper} {a : Act} {w w' : World} {R : Value → World → Prop} {x : Value}
    (h : (execOp a.eval { o with op := op }).run P w = .ok (.value x) w') (r : R x w') : OpOK P op o a w R := by
  intro next Q hn
  unfold Oper.wp
  rw [h]
  exact hn x w' r

theorem OpOK.skip {P : Program} {op : Op} {o : Oper} {a : Act} {w w' : World} {R : Value → World → Prop}
    (h : (execOp a.eval { o with op := op }).run P w = .ok .skip w') (r : R undef w') : OpOK P op o a w R := by
  intro next Q hn
  unfold Oper.wp
  rw [h]
  exact hn undef w' r

section
variable {P : Program} {G : Nat → Option AV} {w : World} {σ : Nat → Prop} {μ : Mu}

theorem RV.scalar {v : Value} {x : AV} (h : ofScalar v = some x) : RV w σ μ x v := by
  unfold ofScalar at h
  split at h <;> first | (cases h; constructor; done) | skip
  · cases h; exact .func _ _ _ [] (.nil _)
  · cases h

theorem RVs.scalars : ∀ {xs : List Value} {vs : List AV}, xs.mapM ofScalar = some vs → RVs w σ μ vs xs
  | [], vs, h => by simp at h; subst h; exact .nil _
  | x :: xs, vs, h => by
    simp only [List.mapM_cons, Option.pure_def, Option.bind_eq_bind, Option.bind_eq_some_iff] at h
    obtain ⟨v, hv, us, hus, h⟩ := h
    cases h
    exact .cons _ _ _ _ _ (RV.scalar hv) (RVs.scalars hus)

theorem RV.ofValue {v : Value} {x : AV} (h : ofValue v = some x) : RV w σ μ x v := by
  unfold X.ofValue at h
  split at h
  · rename_i cs
    rw [Option.map_eq_some_iff] at h
    obtain ⟨vs, hvs, rfl⟩ := h
    have := RV.agg μ vs cs.toList (RVs.scalars (w := w) (σ := σ) hvs)
    simpa using this
  · cases h; exact .tuple _ _ [] (.nil _)
  · exact RV.scalar h

theorem RV.arg {B : Nat} {H : Heap} {e : Env} {a : Act} {x : Operand} {y : Arg} (hr : HR G B σ μ H w) (he : ER σ μ e w a) (h : compArg G x = some y) :
    RV w σ μ (y.ev e) (a.eval x) := by
  cases x with
  | tmp t => simp [compArg] at h; subst h; exact he t
  | const v =>
    simp only [compArg, Option.map_eq_some_iff] at h
    obtain ⟨u, hu, rfl⟩ := h
    exact RV.ofValue hu
  | global g =>
    simp only [compArg, Option.map_eq_some_iff] at h
    obtain ⟨u, hu, rfl⟩ := h
    exact (hr.glob g u hu).mono (fun _ h => ⟨h, rfl⟩) (fun _ _ h => by cases h)
  | func f =>
    simp [compArg] at h; subst h
    exact .func _ _ _ [] (.nil _)

theorem RVs.args {B : Nat} {H : Heap} {e : Env} {a : Act} (hr : HR G B σ μ H w) (he : ER σ μ e w a) : ∀ {xs : List Operand} {ys : List Arg}, xs.mapM (compArg G) = some ys →
    RVs w σ μ (ys.map (Arg.ev e)) (xs.map a.eval)
  | [], ys, h => by simp at h; subst h; exact .nil _
  | x :: xs, ys, h => by
    simp only [List.mapM_cons, Option.pure_def, Option.bind_eq_bind, Option.bind_eq_some_iff] at h
    obtain ⟨v, hv, us, hus, h⟩ := h
    cases h
    exact .cons _ _ _ _ _ (RV.arg hr he hv) (RVs.args hr he hus)


/-- What an operation of the engine's promises. -/
def Post (G : Nat → Option AV) (B : Nat) (σ : Nat → Prop) (μ : Mu) (w : World) (r : AV × Heap) (x : Value) (w' : World) : Prop :=
  ∃ σ' μ', HR G B σ' μ' r.2 w' ∧ RV w' σ' μ' r.1 x ∧ Step B σ μ w σ' μ' w'

variable {X : Prog} {C : Oracle} {B : Nat} {H : Heap} {e : Env} {a : Act} {o : Oper} {r : AV × Heap}

theorem OpOK.quiet {op : Op} {x : Value} (hr : HR G B σ μ H w) (hH : r.2 = H) (h : (execOp a.eval { o with op := op }).run P w = .ok (.value x) w) (hv : RV w σ μ r.1 x) :
    OpOK P op o a w (Post G B σ μ w r) := .value h ⟨σ, μ, hH ▸ hr, hv, Step.refl _ _ _ _⟩

theorem ok_move {x : Operand} {own : Bool} {xo : XOp} (hc : compOp P G own (.move x) = some xo) (hx : xop X C xo e H = some r) (hr : HR G B σ μ H w) (he : ER σ μ e w a) :
    OpOK P (.move x) o a w (Post G B σ μ w r) := by
  simp only [compOp, Option.map_eq_some_iff] at hc
  obtain ⟨y, hy, rfl⟩ := hc
  simp only [xop, Option.some.injEq] at hx
  subst hx
  exact .quiet hr rfl (by simp [execOp]) (RV.arg hr he hy)

theorem ok_assign {x : Operand} {own : Bool} {xo : XOp} (hc : compOp P G own (.assign x) = some xo) (hx : xop X C xo e H = some r) (hr : HR G B σ μ H w) (he : ER σ μ e w a) :
    OpOK P (.assign x) o a w (Post G B σ μ w r) := by
  simp only [compOp, Option.map_eq_some_iff] at hc
  obtain ⟨y, hy, rfl⟩ := hc
  simp only [xop, Option.some.injEq] at hx
  subst hx
  exact .quiet hr rfl (by simp [execOp]) (RV.arg hr he hy)

theorem ok_pick {c x y : Operand} {own : Bool} {xo : XOp} (hc : compOp P G own (.pick c x y) = some xo) (hx : xop X C xo e H = some r) (hr : HR G B σ μ H w) (he : ER σ μ e w a) :
    OpOK P (.pick c x y) o a w (Post G B σ μ w r) := by
  simp only [compOp, Option.map_eq_some_iff, Option.bind_eq_some_iff] at hc
  obtain ⟨c', hc', x', hx', y', hy', rfl⟩ := hc
  have h1 := RV.arg hr he hc'
  have h2 := RV.arg hr he hx'
  have h3 := RV.arg hr he hy'
  simp only [xop] at hx
  split at hx
  · rename_i t ht
    rw [ht] at h1
    simp only [Option.some.injEq] at hx
    subst hx
    cases hc : a.eval c <;> rw [hc] at h1 <;> cases h1
    refine .quiet (x := if t then a.eval x else a.eval y) hr rfl ?_ ?_
    · cases t <;> simp [execOp, hc, asBool]
    · cases t <;> simp <;> assumption
  · cases hx

theorem ok_un {op : UnOp} {t : TypeId} {x : Operand} {own : Bool} {xo : XOp} (hc : compOp P G own (.unOp op t x) = some xo) (hx : xop X C xo e H = some r) (hr : HR G B σ μ H w) (he : ER σ μ e w a) :
    OpOK P (.unOp op t x) o a w (Post G B σ μ w r) := by
  simp only [compOp, Option.map_eq_some_iff] at hc
  obtain ⟨y, hy, rfl⟩ := hc
  have h1 := RV.arg hr he hy
  simp only [xop, Option.map_eq_some_iff] at hx
  obtain ⟨v, hv, rfl⟩ := hx
  unfold unAV at hv
  split at hv
  · rename_i k n hn
    rw [hn] at h1; cases h1' : a.eval x <;> rw [h1'] at h1 <;> cases h1
    cases hv
    exact .quiet hr rfl (by simp [execOp, h1', Op.unary, Op.intArith]) (.int _ _ _)
  · rename_i b hb
    rw [hb] at h1; cases h1' : a.eval x <;> rw [h1'] at h1 <;> cases h1
    cases hv
    exact .quiet hr rfl (by simp [execOp, h1', Op.unary]) (.bool _ _)
  · cases hv

theorem ok_convert {s d : TypeId} {x : Operand} {own : Bool} {xo : XOp} (hc : compOp P G own (.convert s d x) = some xo) (hx : xop X C xo e H = some r) (hr : HR G B σ μ H w) (he : ER σ μ e w a) :
    OpOK P (.convert s d x) o a w (Post G B σ μ w r) := by
  simp only [compOp] at hc
  split at hc
  · rename_i k1 k hs hd
    rw [Option.map_eq_some_iff] at hc
    obtain ⟨y, hy, rfl⟩ := hc
    have h1 := RV.arg hr he hy
    simp only [xop, Option.map_eq_some_iff] at hx
    obtain ⟨n, hn, rfl⟩ := hx
    unfold AV.asInt at hn
    split at hn
    · rename_i k2 m hm
      cases hn
      rw [hm] at h1; cases h1' : a.eval x <;> rw [h1'] at h1 <;> cases h1
      refine .quiet hr rfl ?_ (.int _ _ _)
      · simp [execOp, h1', convert, run_underlying hs, run_underlying hd, Conv.intToInt]
    · cases hn
  · cases hc

theorem ok_mkIface {t : TypeId} {x : Operand} {own : Bool} {xo : XOp} (hc : compOp P G own (.makeInterface t x) = some xo) (hx : xop X C xo e H = some r) (hr : HR G B σ μ H w) (he : ER σ μ e w a) :
    OpOK P (.makeInterface t x) o a w (Post G B σ μ w r) := by
  simp only [compOp] at hc
  split at hc
  · cases hc
  · cases hc
  · rename_i d hni hd
    rw [Option.map_eq_some_iff] at hc
    obtain ⟨y, hy, rfl⟩ := hc
    have h1 := RV.arg hr he hy
    simp only [xop, Option.some.injEq] at hx
    subst hx
    refine .quiet (x := .iface t (a.eval x)) hr rfl ?_ (.iface _ _ _ _ h1)
    simp only [execOp, Instr.makeInterface]
    have : (Program.underlying P t) = some d := by assumption
    cases d <;> first | (exact (hni _ rfl).elim) | simp [run_underlying this]

theorem ok_mkFunc {fn : Fn} {fi cap : Array Operand} {own : Bool} {xo : XOp} (hc : compOp P G own (.makeFunc fn fi cap) = some xo) (hx : xop X C xo e H = some r) (hr : HR G B σ μ H w) (he : ER σ μ e w a) :
    OpOK P (.makeFunc fn fi cap) o a w (Post G B σ μ w r) := by
  simp only [compOp] at hc
  split at hc
  · rename_i f hf
    rw [Option.map_eq_some_iff] at hc
    obtain ⟨y, hy, rfl⟩ := hc
    have h1 := RVs.args hr he hy
    simp only [xop, Option.some.injEq] at hx
    subst hx
    have hfi : fi = #[] := by apply Array.ext'; simpa using hf
    subst hfi
    refine .quiet (x := .func (.func f) #[] (cap.toList.map a.eval).toArray) hr rfl ?_ (.func _ _ _ _ h1)
    simp [execOp, Instr.makeFunc]
    apply Array.ext'; simp
  · cases hc

theorem ok_extract {x : Operand} {i : Nat} {own : Bool} {xo : XOp} (hc : compOp P G own (.extract x i) = some xo) (hx : xop X C xo e H = some r) (hr : HR G B σ μ H w) (he : ER σ μ e w a) :
    OpOK P (.extract x i) o a w (Post G B σ μ w r) := by
  simp only [compOp, Option.map_eq_some_iff] at hc
  obtain ⟨y, hy, rfl⟩ := hc
  have h1 := RV.arg hr he hy
  simp only [xop] at hx
  split at hx
  · rename_i vs hvs
    rw [Option.map_eq_some_iff] at hx
    obtain ⟨v, hv, rfl⟩ := hx
    rw [hvs] at h1
    cases h1' : a.eval x <;> rw [h1'] at h1 <;> cases h1
    rename_i xs hxs
    obtain ⟨z, hz, hz'⟩ := hxs.get hv
    exact .quiet hr rfl (by simp [execOp, h1', Instr.extract, hz]) hz'
  · cases hx

theorem ok_nilCheck {x : Operand} {own : Bool} {xo : XOp} (hc : compOp P G own (.nilCheck x) = some xo) (hx : xop X C xo e H = some r) (hr : HR G B σ μ H w) (he : ER σ μ e w a) :
    OpOK P (.nilCheck x) o a w (Post G B σ μ w r) := by
  simp only [compOp, Option.map_eq_some_iff] at hc
  obtain ⟨y, hy, rfl⟩ := hc
  have h1 := RV.arg hr he hy
  simp only [xop] at hx
  split at hx
  all_goals first | (cases hx; done) | skip
  all_goals
    rename_i hv
    simp only [Option.some.injEq] at hx
    subst hx
    rw [hv] at h1
    cases h1' : a.eval x <;> rw [h1'] at h1 <;> cases h1
    refine .quiet (x := a.eval x) hr rfl (by simp [execOp, h1']) (h1' ▸ ?_)
  · exact .ptr _ _ _ _ _ ‹_›
  · exact .vptr _ _ _ _ _ _ _ _ ‹_› ‹_› ‹_› ‹_›
  · exact .func _ _ _ _ ‹_›

/-! ### numbers and strings -/

theorem bytes_le (s : List UInt8) : (ByteArray.mk s.toArray).size = s.length := by simp [ByteArray.size]

theorem run_intBin {op : BinOp} {k : IntKind} {m n : Int} {v : AV} (h : intBin op k m n = some v) (t : TypeId) :
    ∃ x, (binOp op t (.int k m) (.int k n)).run P w = .ok x w ∧ RV w σ μ v x := by
  cases op <;> simp only [intBin] at h
  all_goals first | (cases h; done) | skip
  all_goals first
    | (cases h; refine ⟨_, ?_, .int _ _ _⟩; simp [binOp, Op.intArith, Op.intBits]; done)
    | (cases h; refine ⟨_, ?_, .bool _ _⟩; simp [binOp, Op.intCmp]; done)
    | (split at h
       · cases h
       · cases h; refine ⟨_, ?_, .int _ _ _⟩; simp [binOp, Op.intDiv, *])

theorem run_intShift {op : BinOp} (ho : op = .shl ∨ op = .shr) {k k' : IntKind} {m n : Int} {v : AV} (h : intShift op k m n = some v) (t : TypeId) :
    ∃ x, (binOp op t (.int k m) (.int k' n)).run P w = .ok x w ∧ RV w σ μ v x := by
  unfold intShift at h
  split at h
  · cases h
  · rename_i hn
    rcases ho with rfl | rfl <;> cases h <;> exact ⟨_, by simp [binOp, Op.shift, hn], .int _ _ _⟩

theorem run_strBin {op : BinOp} {s u : List UInt8} {v : AV} (h : strBin op s u = some v) (t : TypeId) :
    ∃ x, (binOp op t (.string ⟨s.toArray⟩) (.string ⟨u.toArray⟩)).run P w = .ok x w ∧ RV w σ μ v x := by
  cases op <;> simp only [strBin] at h
  all_goals first | (cases h; done) | skip
  case add =>
    split at h
    · rename_i hl
      cases h
      refine ⟨.string (⟨s.toArray⟩ ++ ⟨u.toArray⟩), ?_, ?_⟩
      · have hn : ¬ (9223372036854775807 < (s.length : Int) + (u.length : Int)) := by omega
        simp [binOp, Op.stringOp, ByteArray.size, hn]
      · have : (⟨s.toArray⟩ ++ ⟨u.toArray⟩ : ByteArray) = ⟨(s ++ u).toArray⟩ := by apply ByteArray.ext; simp
        rw [this]; exact .str _ _
    · cases h
  case eql => cases h; exact ⟨.bool (s == u), by simp [binOp, Op.stringOp], .bool _ _⟩
  case neq => cases h; exact ⟨.bool (!(s == u)), by simp [binOp, Op.stringOp], .bool _ _⟩
  case lss => cases h; exact ⟨.bool _, by simp [binOp, Op.stringOp], .bool _ _⟩
  case leq => cases h; exact ⟨.bool _, by simp [binOp, Op.stringOp], .bool _ _⟩
  case gtr => cases h; exact ⟨.bool _, by simp [binOp, Op.stringOp], .bool _ _⟩
  case geq => cases h; exact ⟨.bool _, by simp [binOp, Op.stringOp], .bool _ _⟩

theorem ok_indexStr {t : TypeId} {x i : Operand} {own : Bool} {xo : XOp} (hc : compOp P G own (.index t x i) = some xo) (hx : xop X C xo e H = some r) (hr : HR G B σ μ H w) (he : ER σ μ e w a) :
    OpOK P (.index t x i) o a w (Post G B σ μ w r) := by
  simp only [compOp] at hc
  split at hc
  · rename_i ht
    simp only [Option.map_eq_some_iff, Option.bind_eq_some_iff] at hc
    obtain ⟨y, hy, z, hz, rfl⟩ := hc
    have h1 := RV.arg hr he hy
    have h2 := RV.arg hr he hz
    simp only [xop] at hx
    split at hx
    · rename_i s hs
      simp only [Option.bind_eq_some_iff, Option.map_eq_some_iff] at hx
      obtain ⟨n, hn, j, hj, c, hcj, rfl⟩ := hx
      unfold AV.asInt at hn
      split at hn
      · rename_i k m hm
        cases hn
        rw [hs] at h1; rw [hm] at h2
        cases h1' : a.eval x <;> rw [h1'] at h1 <;> cases h1
        cases h2' : a.eval i <;> rw [h2'] at h2 <;> cases h2
        unfold idx at hj
        split at hj
        · rename_i hb
          cases hj
          refine .quiet (x := .int .u8 c.toNat) hr rfl ?_ (.int _ _ _)
          obtain ⟨hlt, hv⟩ := List.getElem?_eq_some_iff.1 hcj
          have hc2 : ∀ n : Nat, s[n]? = some c → (ByteArray.mk s.toArray)[n]? = some c := by
            intro n hn
            obtain ⟨h3, h4⟩ := List.getElem?_eq_some_iff.1 hn
            have hsz : n < (ByteArray.mk s.toArray).size := by rw [bytes_le]; exact h3
            rw [getElem?_pos (ByteArray.mk s.toArray) n hsz, ← h4]
            rfl
          simp [execOp, h1', h2', Instr.index, asIntOf, run_underlying ht, hb.1, hc2 _ hcj]
        · cases hj
      · cases hn
    · cases hx
  · cases hc

/-- A number as an operand of a slice expression. -/
theorem RV.nat {y : Arg} {x : Value} {n : Nat} (h : RV w σ μ (y.ev e) x) (hn : (y.ev e).asNat = some n) : ∃ k, x = .int k n := by
  unfold AV.asNat at hn
  split at hn
  · rename_i k m hm
    rw [hm] at h
    cases h
    unfold natArg at hn
    split at hn
    · cases hn; exact ⟨k, by congr 1; omega⟩
    · cases hn
  · cases hn

theorem optArg_some {B : Nat} {lo : Option Operand} {y : Option Arg} {l : Option Nat} (hr : HR G B σ μ H w) (he : ER σ μ e w a) (hy : compArgO G lo = some y) (hl : optArg e y = some l) :
    (lo = none ∧ l = none) ∨ ∃ x k n, lo = some x ∧ a.eval x = .int k (n : Nat) ∧ l = some n := by
  cases lo with
  | none => simp [compArgO] at hy; subst hy; simp [optArg] at hl; exact .inl ⟨rfl, hl.symm⟩
  | some x =>
    simp only [compArgO, Option.map_eq_some_iff] at hy
    obtain ⟨z, hz, rfl⟩ := hy
    simp only [optArg, Option.map_eq_some_iff] at hl
    obtain ⟨n, hn, rfl⟩ := hl
    obtain ⟨k, hk⟩ := RV.nat (RV.arg hr he hz) hn
    exact .inr ⟨x, k, n, rfl, hk, rfl⟩

theorem run_sliceBound {k : IntKind} {n y : Nat} (h : n ≤ y) (code : BoundsCode) : (Instr.sliceBound (.int k n) y code).run P w = .ok n w := by
  have h1 : (0 : Int) ≤ n ∧ (n : Int) ≤ y := by omega
  simp [Instr.sliceBound, asIntOf, h1.2]

theorem run_sliceBounds {isSl : Bool} {len cap : Nat} {lo hi : Option Value} {l h : Option Nat}
    (hlo : (lo = none ∧ l = none) ∨ ∃ k n, lo = some (.int k (n : Nat)) ∧ l = some n) (hhi : (hi = none ∧ h = none) ∨ ∃ k n, hi = some (.int k (n : Nat)) ∧ h = some n)
    (h1 : l.getD 0 ≤ h.getD len) (h2 : h.getD len ≤ cap ) (h3 : len ≤ cap) :
    (Instr.sliceBounds isSl len cap lo hi none).run P w = .ok (l.getD 0, h.getD len, cap) w := by
  unfold Instr.sliceBounds
  rcases hhi with ⟨rfl, rfl⟩ | ⟨k, n, rfl, rfl⟩ <;> rcases hlo with ⟨rfl, rfl⟩ | ⟨k', n', rfl, rfl⟩ <;> simp at h1 h2 ⊢ <;> simp [run_sliceBound, h1, h2]

theorem ok_slice_str {t : TypeId} {x : Operand} {lo hi : Option Operand} {own : Bool} {xo : XOp} (hu : P.underlying t = some .string) (hc : compOp P G own (.slice t x lo hi none) = some xo) (hx : xop X C xo e H = some r)
    (hr : HR G B σ μ H w) (he : ER σ μ e w a) : OpOK P (.slice t x lo hi none) o a w (Post G B σ μ w r) := by
  simp only [compOp, hu, Option.bind_eq_some_iff, Option.some.injEq] at hc
  obtain ⟨y, hy, y1, hy1, y2, hy2, rfl⟩ := hc
  have h1 := RV.arg hr he hy
  simp only [xop, Option.bind_eq_some_iff] at hx
  obtain ⟨l, hl, h, hh, hx⟩ := hx
  have hlo := optArg_some hr he hy1 hl
  have hhi := optArg_some hr he hy2 hh
  split at hx
  · rename_i s hs
    split at hx
    · rename_i hb
      cases hx
      rw [hs] at h1
      cases h1' : a.eval x <;> rw [h1'] at h1 <;> cases h1
      have hlo' : ((lo.map a.eval) = none ∧ l = none) ∨ ∃ k n, (lo.map a.eval) = some (.int k (n : Nat)) ∧ l = some n := by
        rcases hlo with ⟨rfl, rfl⟩ | ⟨x, k, n, rfl, h, rfl⟩ <;> simp [*]
      have hhi' : ((hi.map a.eval) = none ∧ h = none) ∨ ∃ k n, (hi.map a.eval) = some (.int k (n : Nat)) ∧ h = some n := by
        rcases hhi with ⟨rfl, rfl⟩ | ⟨x, k, n, rfl, h, rfl⟩ <;> simp [*]
      have hbd := run_sliceBounds (P := P) (w := w) (isSl := false) (len := (ByteArray.mk s.toArray).size) (cap := (ByteArray.mk s.toArray).size) hlo' hhi' (by rw [bytes_le]; exact hb.1) (by rw [bytes_le]; exact hb.2) (Nat.le_refl _)
      rw [bytes_le] at hbd
      refine .quiet (x := .string ((ByteArray.mk s.toArray).extract (l.getD 0) (h.getD s.length))) hr rfl ?_ ?_
      · simp [execOp, h1', Instr.sliceAt, run_underlying hu, Instr.slice, hbd, bytes_le]
      · have : (ByteArray.mk s.toArray).extract (l.getD 0) (h.getD s.length) = ⟨((s.take (h.getD s.length)).drop (l.getD 0)).toArray⟩ := by
          apply ByteArray.ext
          rw [ByteArray.data_extract]
          apply Array.ext'
          simp [List.drop_take]
        rw [this]; exact .str _ _
    · cases hx
  · cases hx
end
end X
end Go.Proofs.YtkaigfcjejabfaaGreatDoor
