/- The engine's operations are sound, one by one: lengths, least and greatest, maps that are looked into. The engine's operations are sound, one by one: those that make memory or write into it. The engine's operations are sound, one by one: maps, aggregates, literals and slices that are made. The engine's operations are sound, one by one: aggregates, literals and slices that are made. The engine's operations are sound, one by one: literals of slices, slices that are made. No condition. -/
import Derived.Test.YtplginnkececaaaGreatDoorZXE
import Derived.Laws.AppendOwnNone
set_option linter.unusedSimpArgs false
set_option linter.unusedVariables false
namespace Go.Proofs.YtplginnkececaaaGreatDoor
open Go
namespace X

section
variable {P : Program} {G : Nat → Option AV} {w : World} {σ : Nat → Prop} {μ : Mu}
variable {X : Prog} {C : Oracle} {B : Nat} {H : Heap} {e : Env} {a : Act} {o : Oper} {r : AV × Heap}

theorem getMap {rb : Nat} {en : Array MapEntry} {clock : Nat} (h : w.heap[rb]? = some (.map en clock)) : (getObj rb).run P w = .ok (.map en clock) w := by
  simp [getObj, Sem.run, h]

theorem exec_builtin (b : Builtin) (argTypes : Array TypeId) (args : Array Operand) :
    execOp a.eval { o with op := .call { callee := .builtin b, args, argTypes } } = builtin b argTypes o.type (args.map fun | .const _ => true | _ => false) (args.map a.eval) := by
  simp only [execOp, resolve, pure_bind, invoke]
  rfl

theorem ekOf_slice {t : TypeId} (h : ekOf P t = .slice) : ∃ el, P.underlying t = some (.slice el) := ekOf_kind.2.2.1 h
theorem ekOf_map {t : TypeId} (h : ekOf P t = .map) : ∃ k v, P.underlying t = some (.map k v) := by
  unfold ekOf at h
  split at h <;> first | (cases h; done) | skip
  · split at h
    · cases h
    · split at h <;> cases h
  · split at h <;> cases h
  · exact ⟨_, _, by assumption⟩
theorem ekOf_str {t : TypeId} (h : ekOf P t = .one .str) : P.underlying t = some .string := by
  rcases ekOf_one h with ⟨h, _⟩ | ⟨_, h⟩ | ⟨h, _⟩
  · cases h
  · exact h
  · cases h

theorem ok_len {t : TypeId} {x : Operand} {y : Arg} (hy : compArg G x = some y) (hx : xop X C (.len (ekOf P t) y) e H = some r) (hr : HR G B σ μ H w) (he : ER σ μ e w a) :
    OpOK P (.call { callee := .builtin .len, args := #[x], argTypes := #[t] }) o a w (Post G B σ μ w r) := by
  have h1 := RV.arg hr he hy
  simp only [xop, Option.map_eq_some_iff] at hx
  obtain ⟨n, hn, rfl⟩ := hx
  refine .quiet (x := .int .i64 n) hr rfl ?_ (.int _ _ _)
  rw [exec_builtin]
  have hb : ∀ s, builtin .len #[t] o.type s #[a.eval x] = (do pure (.value (← Builtin.len_ #[t] o.type #[a.eval x]))) := fun _ => rfl
  simp only [List.map_toArray, List.map_cons, List.map_nil, hb]
  suffices h : (Builtin.len_ #[t] o.type #[a.eval x]).run P w = .ok (.int .i64 n) w by simp [h]
  unfold lenAV at hn
  split at hn
  · rename_i s hk hp
    cases hn
    rw [hp] at h1
    simp [Builtin.len_, h1.str_inv, run_underlying (ekOf_str hk), bytes_le, goInt]
  · rename_i hk hp
    cases hn
    rw [hp] at h1
    obtain ⟨el, hu⟩ := ekOf_slice hk
    simp [Builtin.len_, h1.nilslice_inv, run_underlying hu, goInt]
  · rename_i b off len hk hp
    cases hn
    rw [hp] at h1
    obtain ⟨el, hu⟩ := ekOf_slice hk
    obtain ⟨cap, m, h2, _⟩ := h1.slice_inv
    simp [Builtin.len_, h2, run_underlying hu, goInt]
  · rename_i es hk hp
    cases hn
    rw [hp] at h1
    obtain ⟨el, hu⟩ := ekOf_slice hk
    rcases h1.vslice_inv with ⟨rfl, _, _, h2⟩ | ⟨_, _, _, _, _, _, _, _, h2, _⟩ <;> simp [Builtin.len_, h2, run_underlying hu, goInt]
  · rename_i hk hp
    cases hn
    rw [hp] at h1
    obtain ⟨k, v, hu⟩ := ekOf_map hk
    simp [Builtin.len_, h1.nilmap_inv, run_underlying hu, goInt]
  · rename_i b hk hp
    rw [hp] at h1
    obtain ⟨k, v, hu⟩ := ekOf_map hk
    obtain ⟨m, h2, hm⟩ := h1.map_inv
    split at hn
    · rename_i ks vs hb
      cases hn
      obtain ⟨en, clock, g1, g2, g3, _⟩ := hr.blk b _ m hb hm
      have hl : ks.length = en.size := by simpa using g2.length
      simp [Builtin.len_, h2, run_underlying hu, getMap g1, goInt, hl]
    · cases hn
  · rename_i ks vs hk hp
    cases hn
    rw [hp] at h1
    obtain ⟨k, v, hu⟩ := ekOf_map hk
    obtain ⟨rb, en, clock, h2, _, g1, g2, g3⟩ := h1.vmap_inv
    have hl : ks.length = en.size := by simpa using g2.length
    simp [Builtin.len_, h2, run_underlying hu, getMap g1, goInt, hl]
  · cases hn

theorem run_mm {mx : Bool} : ∀ {vs : List AV} {xs : List Value} {v u : AV} {x : Value}, vs.foldlM (mm2 mx) v = some u → RV w σ μ v x → RVs w σ μ vs xs →
    ∃ y, (xs.foldlM (if mx then Builtin.max2 else Builtin.min2) x).run P w = .ok y w ∧ RV w σ μ u y
  | [], _, v, u, x, h, hx, hs => by
    cases hs
    simp at h; subst h
    exact ⟨x, by simp, hx⟩
  | z :: vs, _, v, u, x, h, hx, hs => by
    cases hs with
    | cons _ _ y _ ys hz hs =>
      simp only [List.foldlM_cons, Option.bind_eq_bind, Option.bind_eq_some_iff] at h
      obtain ⟨v2, hv2, h⟩ := h
      unfold mm2 at hv2
      split at hv2
      · rename_i k p k' q
        split at hv2
        · rename_i hk
          subst hk
          cases hv2
          rw [hz.int_inv, hx.int_inv]
          obtain ⟨y', h3, h4⟩ := run_mm h (RV.int (w := w) (σ := σ) μ k _) hs
          refine ⟨y', ?_, h4⟩
          cases mx <;> simp [Builtin.max2, Builtin.min2] at h3 ⊢ <;> exact h3
        · cases hv2
      · cases hv2

theorem ok_mm {mx : Bool} {tys : Array TypeId} {args : Array Operand} {ys : List Arg} (hy : args.toList.mapM (compArg G) = some ys) (hx : xop X C (.mm mx ys) e H = some r) (hr : HR G B σ μ H w) (he : ER σ μ e w a) :
    OpOK P (.call { callee := .builtin (if mx then .max else .min), args := args, argTypes := tys }) o a w (Post G B σ μ w r) := by
  have h1 := RVs.args hr he hy
  simp only [xop, Option.map_eq_some_iff] at hx
  obtain ⟨v, hv, rfl⟩ := hx
  unfold mmAV at hv
  split at hv
  · cases hv
  · rename_i v0 vs hvs
    rw [hvs] at h1
    generalize hxs : args.toList.map a.eval = xs at h1
    cases h1 with
    | cons _ _ x _ xs' hx0 hs =>
      obtain ⟨y, h3, h4⟩ := run_mm (P := P) hv hx0 hs
      refine .quiet hr rfl (x := y) ?_ h4
      rw [exec_builtin]
      have hl : (args.map a.eval).toList = x :: xs' := by rw [← hxs]; simp
      cases mx
      · have hb : ∀ s, builtin .min tys o.type s (args.map a.eval) = (do pure (.value (← Builtin.min_ tys o.type (args.map a.eval)))) := fun _ => rfl
        simp only [Bool.false_eq_true, if_false, hb, Builtin.min_, hl] at h3 ⊢
        simp [h3]
      · have hb : ∀ s, builtin .max tys o.type s (args.map a.eval) = (do pure (.value (← Builtin.max_ tys o.type (args.map a.eval)))) := fun _ => rfl
        simp only [if_true, hb, Builtin.max_, hl] at h3 ⊢
        simp [h3]


theorem checkFlat_run (em : Bool) : ∀ (d : Nat) {t : TypeId} {ks : List FK}, flatK P d t = some ks → ∀ {xs : List Value}, xs.length = ks.length →
    ∀ D, (Instr.checkKey em (D + d) t (ofCells P t xs)).run P w = .ok () w
  | 0, t, ks, hk, _, _, _ => by simp [flatK] at hk
  | d + 1, t, ks, hk, xs, hl, D => by
    unfold flatK at hk
    have one : (∀ fs, P.underlying t ≠ some (.struct fs)) → (∀ n e, P.underlying t ≠ some (.array n e)) → (∀ ms, P.underlying t ≠ some (.interface ms)) → (P.underlying t).isSome → ∀ v, (Instr.checkKey em (D + d + 1) t v).run P w = .ok () w := by
      intro h1 h2 h3 h4 v
      cases hu : P.underlying t with
      | none => rw [hu] at h4; cases h4
      | some k =>
        rw [Instr.checkKey]
        simp only [Sem.run_bind, run_underlying hu, Result.andThen_ok]
        cases k <;> first | rfl | (exact (h1 _ hu).elim) | (exact (h2 _ _ hu).elim) | (exact (h3 _ hu).elim)
    split at hk
    · rename_i k hu; exact one (by simp [hu]) (by simp [hu]) (by simp [hu]) (by simp [hu]) _
    · rename_i hu; exact one (by simp [hu]) (by simp [hu]) (by simp [hu]) (by simp [hu]) _
    · rename_i hu; exact one (by simp [hu]) (by simp [hu]) (by simp [hu]) (by simp [hu]) _
    · rename_i fs hu
      split at hk
      · cases hk
      · simp only [ofCells, hu]
        rw [← Nat.add_assoc, Instr.checkKey]
        simp only [Sem.run_bind, run_underlying hu, Result.andThen_ok]
        rw [← Array.forIn_toList]
        suffices key : ∀ (l : List Field) (off : Nat) (ls : List FK), flatFs P (flatK P d) l off = some ls → off + ls.length ≤ xs.length →
            (forIn (m := Sem) l PUnit.unit fun (f : Field) (__s : PUnit) =>
              if f.name ≠ "_" then do
                let __do_lift ← part f.type xs.toArray f.offset
                Instr.checkKey em (D + d) f.type __do_lift
                pure (ForInStep.yield PUnit.unit)
              else pure (ForInStep.yield PUnit.unit)).run P w = .ok PUnit.unit w by
          rw [key fs.toList 0 ks hk (by omega)]; rfl
        intro l
        induction l with
        | nil => intro off ls _ _; simp
        | cons f l ih =>
          intro off ls hls hle
          unfold flatFs at hls
          split at hls
          · rename_i hn
            simp only [Option.bind_eq_some_iff] at hls
            obtain ⟨ks1, hk1, hls⟩ := hls
            split at hls
            · rename_i hsz
              rw [Option.map_eq_some_iff] at hls
              obtain ⟨ks2, hk2, rfl⟩ := hls
              simp at hle
              have p1 := flatK_part (w := w) hk1 hsz (xs := xs) (off := f.offset) (by rw [hn.2]; omega)
              have hq := checkFlat_run em d hk1 (xs := (xs.drop f.offset).take ks1.length) (by rw [hn.2]; simp; omega) D
              have hrest := ih (off + ks1.length) ks2 hk2 (by omega)
              simp only [List.forIn_cons, Sem.run_bind, hn.1, ne_eq, not_false_eq_true, if_true, p1, Result.andThen_ok, hq, Sem.run_pure]
              exact hrest
            · cases hls
          · cases hls
    · cases hk

theorem keyOf_cases {t : TypeId} {k : EK} (h : keyOf P t = some k) : (∃ f, k = .one f ∧ ekOf P t = .one f) ∨ ∃ fs l, k = .agg fs ∧ P.underlying t = some (.struct l) ∧ flatK P 8 t = some fs := by
  unfold keyOf at h
  split at h
  · rename_i f hf; cases h; exact .inl ⟨f, rfl, hf⟩
  · rename_i fs hf; cases h; obtain ⟨⟨l, hl⟩, _, h2⟩ := ekOf_agg hf; exact .inr ⟨fs, l, rfl, hl, h2⟩
  · cases h

theorem run_checkKeyAV {t : TypeId} {k : EK} (h : keyOf P t = some k) {v : AV} (hb : keyOk k v = true) {x : Value} (hx : RV w σ μ v x) (em : Bool) :
    (Instr.checkKey em 10000 t x).run P w = .ok () w := by
  rcases keyOf_cases h with ⟨f, rfl, hf⟩ | ⟨fs, l, rfl, hl, hfs⟩
  · have hu : ∃ d, P.underlying t = some d ∧ (∀ fs, d ≠ .struct fs) ∧ (∀ n e, d ≠ .array n e) ∧ ∀ ms, d ≠ .interface ms := by
      rcases ekOf_one hf with ⟨_, k, hk⟩ | ⟨_, hk⟩ | ⟨_, hk⟩ <;> exact ⟨_, hk, by simp, by simp, by simp⟩
    obtain ⟨d, hd, h1, h2, h3⟩ := hu
    rw [show (10000 : Nat) = 9999 + 1 from rfl, Instr.checkKey]
    simp only [Sem.run_bind, run_underlying hd, Result.andThen_ok]
    cases d <;> first | rfl | (exact (h1 _ rfl).elim) | (exact (h2 _ _ rfl).elim) | (exact (h3 _ rfl).elim)
  · unfold keyOk at hb
    split at hb
    · rename_i hk; cases hk
    · rename_i fs' cs hk
      cases hk
      obtain ⟨xs, rfl, hxs⟩ := hx.agg_inv
      have hlen : cs.length = fs.length := by simpa using hb
      have := checkFlat_run (w := w) em 8 hfs (xs := xs) (by rw [← hxs.length, hlen]) 9992
      simp only [ofCells, hl] at this
      exact this
    · cases hb

theorem run_eqKey {t : TypeId} {k : EK} (h : keyOf P t = some k) {v u : AV} {b : Bool} (hb : eqKey k v u = some b) {x y : Value} {μ' : Mu} (hx : RV w σ μ v x) (hy : RV w σ μ' u y) :
    (Op.equal t x y).run P w = .ok b w ∧ ((∃ f, k = .one f) → ∀ d, P.underlying t = some d → Instr.sameNow d x y = some b) := by
  rcases keyOf_cases h with ⟨f, rfl, hf⟩ | ⟨fs, l, rfl, hl, hfs⟩
  · have h2 := ekOf_one hf
    simp only [eqKey] at hb
    unfold eqCell at hb
    split at hb
    · rename_i j p k q _
      split at hb
      · rename_i hjk
        subst hjk
        cases hb
        rw [hx.int_inv, hy.int_inv]
        rcases h2 with ⟨_, k, hk⟩ | ⟨hf, _⟩ | ⟨hf, _⟩
        · exact ⟨run_equalIn_int w 9999 t _ k _ _ hk, fun _ d hd => by rw [hk] at hd; cases hd; simp [Instr.sameNow]⟩
        · cases hf
        · cases hf
      · cases hb
    · cases hb
      rw [hx.str_inv, hy.str_inv]
      rcases h2 with ⟨hf, _⟩ | ⟨_, hk⟩ | ⟨hf, _⟩
      · cases hf
      · refine ⟨(run_equalIn_string w 9999 t _ _ hk).trans (by simp), fun _ d hd => ?_⟩
        rw [hk] at hd; cases hd
        simp only [Instr.sameNow, beq_toListBytes, ByteArray.toList_mk]
      · cases hf
    · cases hb
      rw [hx.bool_inv, hy.bool_inv]
      rcases h2 with ⟨hf, _⟩ | ⟨hf, _⟩ | ⟨_, hk⟩
      · cases hf
      · cases hf
      · exact ⟨run_equalIn_bool w 9999 t _ _ hk, fun _ d hd => by rw [hk] at hd; cases hd; simp [Instr.sameNow]⟩
    · cases hb
  · unfold eqKey at hb
    split at hb
    · rename_i hk; cases hk
    · rename_i cs ds hk
      cases hk
      obtain ⟨xs, rfl, hxs⟩ := hx.agg_inv
      obtain ⟨ys, rfl, hys⟩ := hy.agg_inv
      refine ⟨?_, fun ⟨f, hf⟩ => by cases hf⟩
      have := eqFlat_run 8 hfs hxs hys hb 9992
      simp only [ofCells, hl] at this
      exact this
    · cases hb

structure Found (w : World) (σ : Nat → Prop) (μ' : Mu) (k : EK) (v : AV) (ks : List AV) (en : List MapEntry) (res : Option AV) (z : Option (Nat × Value)) : Prop where
  val : match res, z with
    | none, none => True
    | some u, some p => RV w σ μ' u p.2 ∧ ∃ e : MapEntry, en[p.1]? = some e ∧ e.val = p.2
    | _, _ => False
  no : z = none → ∀ (j : Nat) (u : AV), ks[j]? = some u → eqKey k v u = some false
  yes : ∀ p : Nat × Value, z = some p → ∃ u, ks[p.1]? = some u ∧ eqKey k v u = some true ∧ ∀ (j : Nat) (u' : AV), j < p.1 → ks[j]? = some u' → eqKey k v u' = some false

def shiftBy (z : Option (Nat × Value)) (i : Nat) : Option (Nat × Value) := z.map fun p => (p.1 + i, p.2)

theorem run_findKey' {t : TypeId} {k : EK} (h : keyOf P t = some k) {v : AV} {x : Value} (hx : RV w σ μ v x) {μ' : Mu} : ∀ {ks vs : List AV} {en : List MapEntry} {res : Option AV}, find k v ks vs = some res →
    RVs w σ μ' ks (en.map (·.key)) → RVs w σ μ' vs (en.map (·.val)) →
    ∃ z : Option (Nat × Value), (∀ i, (Instr.findAsking t x en i).run P w = .ok (shiftBy z i) w) ∧ ((∃ f, k = .one f) → ∀ d, P.underlying t = some d → ∀ i, Instr.findNow d x en i = some (shiftBy z i)) ∧
      Found w σ μ' k v ks en res z
  | [], [], en, res, hf, hk, hv => by
    cases en with
    | nil =>
      simp [find] at hf; subst hf
      exact ⟨none, fun i => by simp [Instr.findAsking, shiftBy], fun _ d _ i => by simp [Instr.findNow, shiftBy], trivial, fun _ j u hu => by simp at hu, fun p hp => by cases hp⟩
    | cons e en => cases hk
  | [], _ :: _, en, res, hf, hk, hv => by simp [find] at hf
  | _ :: _, [], en, res, hf, hk, hv => by simp [find] at hf
  | j :: ks, u :: vs, [], res, hf, hk, hv => by cases hk
  | j :: ks, u :: vs, e :: en, res, hf, hk, hv => by
    cases hk with
    | cons _ _ _ _ _ hk1 hk2 =>
      cases hv with
      | cons _ _ _ _ _ hv1 hv2 =>
        simp only [find] at hf
        split at hf
        · rename_i hb
          cases hf
          obtain ⟨g1, g2⟩ := run_eqKey h hb hx hk1
          exact ⟨some (0, e.val), fun i => by simp [Instr.findAsking, g1, shiftBy], fun hone d hd i => by simp [Instr.findNow, g2 hone d hd, shiftBy], ⟨hv1, e, by simp, rfl⟩, (fun hz => by cases hz),
            (fun p hp => by cases hp; exact ⟨j, by simp, hb, fun _ _ hlt => by simp at hlt⟩)⟩
        · rename_i hb
          obtain ⟨g1, g2⟩ := run_eqKey h hb hx hk1
          obtain ⟨z, z1, z2, z3, z4, z5⟩ := run_findKey' h hx hf hk2 hv2
          refine ⟨shiftBy z 1, ?_, ?_, ?_, ?_, ?_⟩
          · intro i
            simp only [Instr.findAsking, Sem.run_bind, g1, Result.andThen_ok, Bool.false_eq_true, if_false, z1 (i + 1)]
            cases z <;> simp [shiftBy, Nat.add_assoc, Nat.add_comm 1 i]
          · intro hone d hd i
            simp only [Instr.findNow, g2 hone d hd, z2 hone d hd (i + 1)]
            cases z <;> simp [shiftBy, Nat.add_assoc, Nat.add_comm 1 i]
          · cases res <;> cases z <;> simp_all [shiftBy]
          · intro hz q u' hq
            cases q with
            | zero => simp at hq; subst hq; exact hb
            | succ q => simp at hq; exact z4 (by cases z <;> simp_all [shiftBy]) q u' hq
          · intro p hp
            cases z with
            | none => cases hp
            | some p0 =>
              cases hp
              obtain ⟨u', h1, h2, h3⟩ := z5 p0 rfl
              refine ⟨u', by simpa using h1, h2, fun q u'' hq hu => ?_⟩
              cases q with
              | zero => simp at hu; subst hu; exact hb
              | succ q => simp at hu hq; exact h3 q u'' hq hu
        · cases hf

theorem run_findKeyAV {t : TypeId} {k : EK} (h : keyOf P t = some k) {v : AV} {x : Value} (hx : RV w σ μ v x) {μ' : Mu} {ks vs : List AV} {en : List MapEntry} {res : Option AV} (hf : find k v ks vs = some res)
    (hk : RVs w σ μ' ks (en.map (·.key))) (hv : RVs w σ μ' vs (en.map (·.val))) :
    ∃ z, (Instr.findKey t x en).run P w = .ok z w ∧ Found w σ μ' k v ks en res z := by
  obtain ⟨z, z1, z2, z3⟩ := run_findKey' h hx hf hk hv
  refine ⟨z, ?_, z3⟩
  have hz : shiftBy z 0 = z := by cases z <;> simp [shiftBy]
  rcases keyOf_cases h with ⟨f, rfl, hf'⟩ | ⟨fs, l, rfl, hl, hfs⟩
  · have hu : ∃ d, P.underlying t = some d := by
      rcases ekOf_one hf' with ⟨_, k, hk⟩ | ⟨_, hk⟩ | ⟨_, hk⟩ <;> exact ⟨_, hk⟩
    obtain ⟨d, hd⟩ := hu
    have := z2 ⟨f, rfl⟩ d hd 0
    rw [hz] at this
    simp [Instr.findKey, run_underlying hd, this]
  · rw [run_findKey_eq w (by simp [hl])]
    have := z1 0
    rwa [hz] at this

theorem ok_lookup {t : TypeId} {m k : Operand} {okk own : Bool} {xo : XOp} (hc : compOp P G own (.lookup t m k okk) = some xo) (hx : xop X C xo e H = some r) (hr : HR G B σ μ H w) (he : ER σ μ e w a) :
    OpOK P (.lookup t m k okk) o a w (Post G B σ μ w r) := by
  simp only [compOp] at hc
  split at hc
  · rename_i kt el hu
    simp only [Option.bind_eq_some_iff, Option.map_eq_some_iff] at hc
    obtain ⟨ek, hek, inf, hinf, z, hz, zv, hzv, m', hm', k', hk', rfl⟩ := hc
    have h1 := RV.arg hr he hm'
    have h2 := RV.arg hr he hk'
    simp only [xop, Option.map_eq_some_iff] at hx
    obtain ⟨v, hv, rfl⟩ := hx
    unfold lookupAV at hv
    split at hv
    · cases hv
    · rename_i hok
      simp only [Bool.not_eq_true', Bool.not_eq_false] at hok
      rw [Option.map_eq_some_iff] at hv
      obtain ⟨res, hres, rfl⟩ := hv
      have hzr : RV w σ μ zv z := RV.ofValue hzv
      have hzero : (zeroValue el).run P w = .ok z w := by simp [zeroValue, typeInfo, hinf, hz]
      have hck : ∀ em, (Instr.checkKey em 10000 kt (a.eval k)).run P w = .ok () w := fun em => run_checkKeyAV hek hok h2 em
      have fin : ∀ (en : Array MapEntry) (q : Option (Nat × Value)), ((a.eval m = .map none ∧ en = #[]) ∨ ∃ rb clock, a.eval m = .map (some rb) ∧ w.heap[rb]? = some (.map en clock)) →
            (Instr.findKey kt (a.eval k) en.toList).run P w = .ok q w →
            (res = none ∧ q = none ∨ ∃ u p, res = some u ∧ q = some p ∧ RV w σ μ u p.2) → OpOK P (.lookup t m k okk) o a w (Post G B σ μ w (if okk = true then .tuple [res.getD zv, .bool res.isSome] else res.getD zv, H)) := by
        intro en q hen hq hrel
        have hrun : ∃ y, (Instr.lookup t (a.eval m) (a.eval k) okk).run P w = .ok (if okk then .tuple #[y, .bool res.isSome] else y) w ∧ RV w σ μ (res.getD zv) y := by
          rcases hrel with ⟨rfl, rfl⟩ | ⟨u, p, rfl, rfl, hup⟩
          · refine ⟨z, ?_, hzr⟩
            rcases hen with ⟨hm0, rfl⟩ | ⟨rb, clock, hm0, hen⟩
            · have hq' : (Instr.findKey kt (a.eval k) []).run P w = .ok none w := hq
              simp [Instr.lookup, run_underlying hu, hm0, hck, hq', hzero]
            · simp [Instr.lookup, run_underlying hu, hm0, getMap hen, hck, hq, hzero]
          · refine ⟨p.2, ?_, hup⟩
            rcases hen with ⟨hm0, rfl⟩ | ⟨rb, clock, hm0, hen⟩
            · have hq' : (Instr.findKey kt (a.eval k) []).run P w = .ok (some p) w := hq
              simp [Instr.lookup, run_underlying hu, hm0, hck, hq']
            · simp [Instr.lookup, run_underlying hu, hm0, getMap hen, hck, hq]
        obtain ⟨y, hy, hyr⟩ := hrun
        cases okk with
        | true =>
          refine .quiet hr rfl (x := .tuple #[y, .bool res.isSome]) ?_ ?_
          · simp only [execOp, Sem.run_bind, hy]; simp
          · exact .tuple _ _ [y, .bool res.isSome] (.cons _ _ _ _ _ hyr (.cons _ _ _ _ _ (.bool _ _) (.nil _)))
        | false =>
          refine .quiet hr rfl (x := y) ?_ ?_
          · simp only [execOp, Sem.run_bind, hy]; simp
          · exact hyr
      have rel : ∀ {μ' : Mu} {ks : List AV} {en : List MapEntry} {q : Option (Nat × Value)}, Found w σ μ' ek (k'.ev e) ks en res q → (∀ b n, μ' b = some n → μ b = some n) →
          (res = none ∧ q = none ∨ ∃ u p, res = some u ∧ q = some p ∧ RV w σ μ u p.2) := by
        intro μ' ks en q hf hμ
        have := hf.val
        cases res with
        | none => cases q with
          | none => exact .inl ⟨rfl, rfl⟩
          | some p => exact this.elim
        | some u => cases q with
          | none => exact this.elim
          | some p => exact .inr ⟨u, p, rfl, rfl, this.1.mono (fun _ h => ⟨h, rfl⟩) hμ⟩
      split at hres
      · rename_i hp
        cases hres
        rw [hp] at h1
        obtain ⟨q, hq, hf⟩ := run_findKeyAV hek h2 (ks := []) (vs := []) (en := []) (res := none) (μ' := μ) (by simp [find]) (.nil _) (.nil _)
        exact fin #[] q (.inl ⟨h1.nilmap_inv, rfl⟩) hq (rel hf fun _ _ h => h)
      · rename_i ks vs hp
        rw [hp] at h1
        obtain ⟨rb, en, clock, h1', _, g1, g2, g3⟩ := h1.vmap_inv
        obtain ⟨q, hq, hf⟩ := run_findKeyAV hek h2 hres g2 g3
        exact fin en q (.inr ⟨rb, clock, h1', g1⟩) hq (rel hf fun _ _ h => by cases h)
      · rename_i b hp
        rw [hp] at h1
        obtain ⟨bm, h1', hbm⟩ := h1.map_inv
        split at hres
        · rename_i ks vs hb
          obtain ⟨en, clock, g1, g2, g3, _⟩ := hr.blk b _ bm hb hbm
          obtain ⟨q, hq, hf⟩ := run_findKeyAV hek h2 hres g2 g3
          exact fin en q (.inr ⟨bm.rb, clock, h1', g1⟩) hq (rel hf fun _ _ h => h)
        · cases hres
      · cases hres
  · cases hc
end
end X
end Go.Proofs.YtplginnkececaaaGreatDoor

set_option linter.unusedSimpArgs false
set_option linter.unusedVariables false
namespace Go.Proofs.YtplginnkececaaaGreatDoor
open Go
namespace X

section
variable {P : Program} {G : Nat → Option AV} {w : World} {σ : Nat → Prop} {μ : Mu}
variable {X : Prog} {C : Oracle} {B : Nat} {H : Heap} {e : Env} {a : Act} {o : Oper} {r : AV × Heap}

theorem alloc_size (o : Obj) : (w.alloc o).heap.size = w.heap.size + 1 := by simp
theorem alloc_new (o : Obj) : (w.alloc o).heap[w.heap.size]? = some o := by show (w.heap.push o)[w.heap.size]? = _; simp
theorem alloc_old (o : Obj) {b : Nat} (h : b < w.heap.size) : (w.alloc o).heap[b]? = w.heap[b]? := by
  show (w.heap.push o)[b]? = w.heap[b]?
  rw [Array.getElem?_push, if_neg (Nat.ne_of_lt h)]

theorem HR.row (h : HR G B σ μ H w) {w' : World} {sz : Nat} {es : List AV} {c : Array Value} {ty : TypeId} {vs : List Value} (hsize : w'.heap.size = w.heap.size + 1)
    (hold : ∀ b, b < w.heap.size → w'.heap[b]? = w.heap[b]?) (hnew : w'.heap[w.heap.size]? = some (.cells c ty (0, 0))) (hes : ∀ e ∈ es, e.cells.length = sz ∧ e.cells.all AV.storable = true)
    (hvs : RVs w σ μ (es.flatMap AV.cells) vs) (hc : ∀ i, i < vs.length → c[i]? = vs[i]?) (hl : es.length * sz ≤ c.size) (ho : Same w w' := by exact ⟨rfl, rfl, rfl⟩) :
    HR G B σ (μ.put H.length ⟨w.heap.size, 0, sz, es.length, c.size⟩) (H ++ [.arr sz es]) w' ∧ Step B σ μ w σ (μ.put H.length ⟨w.heap.size, 0, sz, es.length, c.size⟩) w' :=
  h.alloc rfl (by omega) hold (fun hs hm => ⟨rfl, rfl, hes, by simpa using hl, c, ty, hnew, rfl, vs, hvs.mono hs hm, fun i hi => by rw [Nat.zero_add]; exact hc i hi⟩) ho

theorem put_new (m : BM) : (μ.put H.length m) H.length = some m := by simp [Mu.put]

theorem ok_box {t : TypeId} {inf : TypeInfo} (hinf : P.info? t = some inf) {op : Op} {y : Arg} {x : Value} (hx : xop X C (.box inf.size y) e H = some r) (hr : HR G B σ μ H w) (hv : RV w σ μ (y.ev e) x)
    (hop : (execOp a.eval { o with op := op }).run P w = .ok (.value (.pointer (some ⟨w.heap.size, 0, none⟩))) (w.alloc (.cells x.cells t))) : OpOK P op o a w (Post G B σ μ w r) := by
  simp only [xop] at hx
  split at hx
  · rename_i hb
    cases hx
    have hcs := hv.cellsOf hb.2
    have hlen := hcs.length
    obtain ⟨g1, g2⟩ := hr.row (w' := w.alloc (.cells x.cells t)) (sz := inf.size) (es := [y.ev e]) (c := x.cells) (ty := t) (vs := x.cells.toList) (by simp) (fun b hb => alloc_old _ hb) (alloc_new _)
      (by simpa using hb) (by simpa using hcs) (fun i hi => by simp) (by simp [← hb.1, hlen])
    exact .value hop ⟨_, _, g1, by have := RV.ptr (w := w.alloc (.cells x.cells t)) (σ := σ) _ H.length 0 0 _ (put_new (μ := μ) (H := H) ⟨w.heap.size, 0, inf.size, 1, x.cells.size⟩); simpa using this, g2⟩
  · cases hx

theorem ok_alloc {t : TypeId} {own : Bool} {xo : XOp} (hc : compOp P G own (.alloc t) = some xo) (hx : xop X C xo e H = some r) (hr : HR G B σ μ H w) (he : ER σ μ e w a) :
    OpOK P (.alloc t) o a w (Post G B σ μ w r) := by
  simp only [compOp, Option.bind_eq_some_iff, Option.map_eq_some_iff] at hc
  obtain ⟨inf, hinf, z, hz, v, hv, rfl⟩ := hc
  refine ok_box hinf hx hr (x := z) (RV.ofValue hv) ?_
  simp [execOp, Instr.alloc, zeroValue, typeInfo, hinf, hz, newVar, newRow]

theorem ok_boxOp {t : TypeId} {x : Operand} {own : Bool} {xo : XOp} (hc : compOp P G own (.box t x) = some xo) (hx : xop X C xo e H = some r) (hr : HR G B σ μ H w) (he : ER σ μ e w a) :
    OpOK P (.box t x) o a w (Post G B σ μ w r) := by
  simp only [compOp, Option.bind_eq_some_iff, Option.map_eq_some_iff] at hc
  obtain ⟨inf, hinf, y, hy, rfl⟩ := hc
  refine ok_box hinf hx hr (x := a.eval x) (RV.arg hr he hy) ?_
  simp [execOp, Instr.box, newVar, newRow]


theorem splice_get {α : Type} {A vs xs : List α} {ro k : Nat} (h : ∀ i, i < vs.length → A[ro + i]? = vs[i]?) (hk : k + xs.length ≤ vs.length) (hl : ro + vs.length ≤ A.length) (i : Nat) (hi : i < vs.length) :
    (A.take (ro + k) ++ xs ++ A.drop (ro + k + xs.length))[ro + i]? = (vs.take k ++ xs ++ vs.drop (k + xs.length))[i]? := by
  have h1 : (A.take (ro + k)).length = ro + k := by rw [List.length_take]; omega
  have h2 : (vs.take k).length = k := by rw [List.length_take]; omega
  simp only [List.append_assoc, List.getElem?_append, h1, h2]
  by_cases a1 : i < k
  · rw [if_pos (by omega), if_pos a1, List.getElem?_take_of_lt (by omega), List.getElem?_take_of_lt a1]; exact h i hi
  · rw [if_neg (by omega), if_neg a1]
    by_cases a2 : i < k + xs.length
    · rw [if_pos (by omega), if_pos (by omega)]; congr 1; omega
    · rw [if_neg (by omega), if_neg (by omega), List.getElem?_drop, List.getElem?_drop, show ro + k + xs.length + (ro + i - (ro + k) - xs.length) = ro + i by omega, show k + xs.length + (i - k - xs.length) = i by omega]; exact h i hi

theorem splice_in {α : Type} {F us : List α} {k off sz : Nat} (h1 : off + us.length ≤ sz) (h2 : k + sz ≤ F.length) :
    F.take k ++ (((F.drop k).take sz).take off ++ us ++ ((F.drop k).take sz).drop (off + us.length)) ++ F.drop (k + sz) = F.take (k + off) ++ us ++ F.drop (k + off + us.length) := by
  apply List.ext_getElem?
  intro i
  simp only [List.append_assoc, List.getElem?_append, List.length_take, List.length_drop, List.getElem?_take, List.getElem?_drop]
  repeat' split
  all_goals first | omega | (congr 1; omega) | (rw [List.getElem?_eq_none (by omega)]) | rfl | skip
  all_goals (try (rw [List.getElem?_eq_none (by omega)]))

theorem flat_set {sz : Nat} {es : List AV} {i : Nat} {x y : AV} (h : ∀ e ∈ es, e.cells.length = sz) (hi : es[i]? = some x) (hy : y.cells.length = sz) :
    (es.set i y).flatMap AV.cells = (es.flatMap AV.cells).take (i * sz) ++ y.cells ++ (es.flatMap AV.cells).drop (i * sz + sz) := by
  have hlt := (List.getElem?_eq_some_iff.1 hi).1
  rw [List.set_eq_take_append_cons_drop, if_pos hlt, List.flatMap_append, List.flatMap_cons, flat_take i h, flat_drop (i + 1) h, Nat.succ_mul, List.append_assoc]

theorem setCells_cells {x : AV} {off : Nat} {cs : List AV} (hl : off + cs.length ≤ x.cells.length) (h1 : ∀ c ∈ cs, c.storable = true) (hx : x.cells.all AV.storable = true) :
    (x.setCells off cs).cells = x.cells.take off ++ cs ++ x.cells.drop (off + cs.length) ∧ (x.setCells off cs).cells.all AV.storable = true := by
  have key : (x.setCells off cs).cells = x.cells.take off ++ cs ++ x.cells.drop (off + cs.length) := by
    cases x with
    | agg ds => simp [AV.setCells, AV.cells]
    | _ =>
      simp [AV.cells] at hl ⊢
      match cs, hl, h1 with
      | [], hl, _ =>
        have : off = 0 ∨ off = 1 := by simp at hl; omega
        rcases this with rfl | rfl <;> simp [AV.setCells]
      | [c], hl, h1 =>
        have : off = 0 := by simp at hl; omega
        subst this
        have hc := h1 c (by simp)
        cases c <;> simp_all [AV.setCells, AV.storable]
      | _ :: _ :: _, hl, _ => simp at hl; omega
  refine ⟨key, ?_⟩
  rw [key, List.all_append, List.all_append]
  simp only [Bool.and_eq_true]
  refine ⟨⟨List.all_eq_true.2 fun c hc => List.all_eq_true.1 hx c (List.mem_of_mem_take hc), List.all_eq_true.2 h1⟩, List.all_eq_true.2 fun c hc => List.all_eq_true.1 hx c (List.mem_of_mem_drop hc)⟩

theorem BR.put {m : BM} {sz : Nat} {es : List AV} (h : BR w σ μ m (.arr sz es)) {w' : World} {σ' : Nat → Prop} {μ' : Mu} (hs : ∀ b, σ b → σ' b ∧ w'.heap[b]? = w.heap[b]?) (hm : ∀ b n, μ b = some n → μ' b = some n)
    {c : Array Value} {ty : TypeId} (hc : w.heap[m.rb]? = some (.cells c ty (0, 0))) {k : Nat} {us : List AV} {xs : List Value} (hus : RVs w σ μ us xs) (hk : k + us.length ≤ es.length * sz) {es' : List AV}
    (hes' : ∀ e ∈ es', e.cells.length = sz ∧ e.cells.all AV.storable = true) (hlen : es'.length = es.length)
    (hfl : es'.flatMap AV.cells = (es.flatMap AV.cells).take k ++ us ++ (es.flatMap AV.cells).drop (k + us.length))
    (hw' : w'.heap[m.rb]? = some (.cells (c.toList.take (m.ro + k) ++ xs ++ c.toList.drop (m.ro + k + xs.length)).toArray ty (0, 0))) : BR w' σ' μ' m (.arr sz es') := by
  obtain ⟨h1, h2, h3, h4, c', ty', h5, h6, vs, h7, h8⟩ := h
  rw [hc] at h5
  cases h5
  have hl := hus.length
  have hvl := h7.length
  rw [flat_length fun e he => (h3 e he).1] at hvl
  have hcs : m.ro + es.length * sz ≤ c.size := by rw [h6, ← h2, ← h1]; exact h4
  refine ⟨h1, by rw [hlen]; exact h2, hes', h4, _, ty, hw', ?_, vs.take k ++ xs ++ vs.drop (k + xs.length), ?_, ?_⟩
  · simp; omega
  · rw [hfl, ← hl]
    exact (((h7.take k).append hus).append (h7.drop _)).mono hs hm
  · intro i hi
    have hA : ∀ j, j < vs.length → c.toList[m.ro + j]? = vs[j]? := fun j hj => by rw [← h8 j hj]; simp
    have hkl : k + xs.length ≤ vs.length := by omega
    have hln : (vs.take k ++ xs ++ vs.drop (k + xs.length)).length = vs.length := by simp; omega
    rw [List.getElem?_toArray]
    exact splice_get hA hkl (by simp; omega) i (by omega)

theorem ok_store {t : TypeId} {p x : Operand} {own : Bool} {xo : XOp} (hc : compOp P G own (.store t p x) = some xo) (hx : xop X C xo e H = some r) (hr : HR G B σ μ H w) (he : ER σ μ e w a) :
    OpOK P (.store t p x) o a w (Post G B σ μ w r) := by
  simp only [compOp, Option.bind_eq_some_iff, Option.map_eq_some_iff] at hc
  obtain ⟨inf, hinf, y, hy, z, hz, rfl⟩ := hc
  have h1 := RV.arg hr he hy
  have h2 := RV.arg hr he hz
  simp only [xop, Option.map_eq_some_iff] at hx
  obtain ⟨H', hH, rfl⟩ := hx
  unfold storeAV at hH
  split at hH
  · rename_i b i off hp
    split at hH
    · rename_i sz es hb
      simp only [Option.bind_eq_some_iff] at hH
      obtain ⟨x0, hx0, hH⟩ := hH
      split at hH
      · rename_i hcond
        cases hH
        obtain ⟨c1, c2, c3, c4⟩ := hcond
        rw [hp] at h1
        obtain ⟨m, h1', hm⟩ := h1.ptr_inv
        have hbr := hr.blk b _ m hb hm
        obtain ⟨b1, b2, b3, b4, c, ty, b5, b6, vs, b7, b8⟩ := hbr
        have hcs := h2.cellsOf c2
        have hlen := hcs.length
        have hst : ∀ c ∈ (z.ev e).cells, c.storable = true := List.all_eq_true.1 c2
        have h0 := b3 x0 (List.mem_of_getElem? hx0)
        have hall : ∀ e ∈ es, e.cells.length = sz := fun e he => (b3 e he).1
        have hil := (List.getElem?_eq_some_iff.1 hx0).1
        have hie : i * sz + sz ≤ es.length * sz := by rw [← Nat.succ_mul]; exact Nat.mul_le_mul_right _ hil
        obtain ⟨s1, s2⟩ := setCells_cells (x := x0) (off := off) (cs := (z.ev e).cells) (by omega) hst h0.2
        have hsl : (x0.setCells off (z.ev e).cells).cells.length = sz := by rw [s1]; simp; omega
        have hcs' : m.ro + es.length * sz ≤ c.size := by rw [b6, ← b2, ← b1]; exact b4
        have hone : ∀ v ∈ (a.eval x).cells.toList, v.oneCell' = true := by
          intro v hv
          obtain ⟨j, hj, rfl⟩ := List.mem_iff_getElem.1 hv
          have hj' : j < (z.ev e).cells.length := by omega
          obtain ⟨q, hq1, hq2⟩ := hcs.get (List.getElem?_eq_getElem hj')
          rw [List.getElem?_eq_getElem hj] at hq1
          cases hq1
          exact hq2.oneCell (hst _ (List.getElem_mem hj'))
        have hrun := run_storeCells_at P m.rb (m.ro + i * m.sz + off) ty (a.eval x).cells.toList 0 c w b5 (by rw [b1]; omega) hone
        have hexec : (execOp a.eval { o with op := .store t p x }).run P w = .ok .skip (w.setRow m.rb (c.toList.take (m.ro + (i * sz + off)) ++ (a.eval x).cells.toList ++ c.toList.drop (m.ro + (i * sz + off) + (a.eval x).cells.toList.length)).toArray) := by
          have hsz : ¬ (a.eval x).cells.size ≠ inf.size := by
            have : (a.eval x).cells.size = (a.eval x).cells.toList.length := by simp
            omega
          rw [Nat.add_zero, b1, Nat.add_assoc] at hrun
          simp only [execOp, h1', Instr.storeAt, Instr.sureAddr, pure_bind, storeVar, Sem.run_bind, sizeOf, typeInfo, run_program, hinf, Sem.run_pure, Result.andThen_ok, Sem.run_ite, hsz, if_false, b1, Nat.add_assoc] at hrun ⊢
          rw [hrun]
          rfl
        have hw1 := setRow_heap w m.rb c (c.toList.take (m.ro + (i * sz + off)) ++ (a.eval x).cells.toList ++ c.toList.drop (m.ro + (i * sz + off) + (a.eval x).cells.toList.length)).toArray ty (0, 0) b5
        obtain ⟨g1, g2⟩ := hr.upd (w' := w.setRow m.rb (c.toList.take (m.ro + (i * sz + off)) ++ (a.eval x).cells.toList ++ c.toList.drop (m.ro + (i * sz + off) + (a.eval x).cells.toList.length)).toArray) hb trivial hm (by simp [World.setRow]) (fun q hq => setRow_other w m.rb q _ hq)
          (k' := .arr sz (es.set i (x0.setCells off (z.ev e).cells))) (fun hs => by
            refine BR.put (hr.blk b _ m hb hm) hs (fun _ _ h => h) b5 (k := i * sz + off) hcs (by omega) ?_ (by simp) ?_ hw1
            · intro q hq
              rcases List.mem_or_eq_of_mem_set hq with h | rfl
              · exact b3 q h
              · exact ⟨hsl, s2⟩
            · rw [flat_set hall hx0 hsl, s1, flat_mem hall hx0]
              have hfl := flat_length hall
              generalize es.flatMap AV.cells = F at hfl
              exact splice_in (by omega) (by omega))
        exact .skip hexec ⟨_, _, g1, .tuple _ _ [] (.nil _), g2⟩
      · cases hH
    · cases hH
  · cases hH
end
end X
end Go.Proofs.YtplginnkececaaaGreatDoor

set_option linter.unusedSimpArgs false
set_option linter.unusedVariables false
namespace Go.Proofs.YtplginnkececaaaGreatDoor
open Go
namespace X

section
variable {P : Program} {G : Nat → Option AV} {w : World} {σ : Nat → Prop} {μ : Mu}
variable {X : Prog} {C : Oracle} {B : Nat} {H : Heap} {e : Env} {a : Act} {o : Oper} {r : AV × Heap}

theorem ok_mkMap {t : TypeId} (hx : xop X C .mkMap e H = some r) (hr : HR G B σ μ H w) (he : ER σ μ e w a) : OpOK P (.makeMap t none) o a w (Post G B σ μ w r) := by
  simp only [xop, Option.some.injEq] at hx
  subst hx
  obtain ⟨g1, g2⟩ := hr.alloc (w' := w.alloc (.map #[] 0)) (k := .map [] []) (m := ⟨w.heap.size, 0, 0, 0, 0⟩) rfl (by simp) (fun b hb => alloc_old _ hb) (fun _ _ => ⟨#[], 0, alloc_new _, .nil _, .nil _, by simp [Born]⟩)
  refine .value (x := .map (some w.heap.size)) (w' := w.alloc (.map #[] 0)) (by simp [execOp, Instr.makeMap]) ⟨_, _, g1, .map _ _ ⟨w.heap.size, 0, 0, 0, 0⟩ (put_new _), g2⟩

theorem setKey_find {k : EK} {v x : AV} : ∀ {ks vs : List AV} {r : List AV × List AV}, setKey k v x ks vs = some r → ∃ res, find k v ks vs = some res
  | [], [], r, h => ⟨none, rfl⟩
  | [], _ :: _, r, h => by simp [setKey] at h
  | _ :: _, [], r, h => by simp [setKey] at h
  | j :: ks, u :: vs, r, h => by
    simp only [setKey] at h
    simp only [find]
    split at h
    · exact ⟨some u, rfl⟩
    · rename_i hb
      rw [Option.map_eq_some_iff] at h
      obtain ⟨r', h', _⟩ := h
      exact setKey_find h'
    · cases h

theorem setKey_none {k : EK} {v x : AV} : ∀ {ks vs : List AV} {r : List AV × List AV}, setKey k v x ks vs = some r → (∀ (j : Nat) (u : AV), ks[j]? = some u → eqKey k v u = some false) → r = (ks ++ [v], vs ++ [x])
  | [], [], r, h, _ => by simp [setKey] at h; simp [← h]
  | [], _ :: _, r, h, _ => by simp [setKey] at h
  | _ :: _, [], r, h, _ => by simp [setKey] at h
  | j :: ks, u :: vs, r, h, hn => by
    simp only [setKey, hn 0 j (by simp), Option.map_eq_some_iff] at h
    obtain ⟨r', h', rfl⟩ := h
    rw [setKey_none h' fun i u hu => hn (i + 1) u (by simpa using hu)]
    simp

theorem setKey_some {k : EK} {v x : AV} : ∀ {ks vs : List AV} {r : List AV × List AV} {p : Nat} {u : AV}, setKey k v x ks vs = some r → ks[p]? = some u → eqKey k v u = some true →
    (∀ (j : Nat) (u' : AV), j < p → ks[j]? = some u' → eqKey k v u' = some false) → r = (ks.set p v, vs.set p x)
  | [], [], r, p, u, h, hp, _, _ => by simp at hp
  | [], _ :: _, r, p, u, h, _, _, _ => by simp [setKey] at h
  | _ :: _, [], r, p, u, h, _, _, _ => by simp [setKey] at h
  | j :: ks, u0 :: vs, r, p, u, h, hp, ht, hn => by
    cases p with
    | zero =>
      simp at hp; subst hp
      simp only [setKey, ht, Option.some.injEq] at h
      simp [← h]
    | succ p =>
      simp only [setKey, hn 0 j (by omega) (by simp), Option.map_eq_some_iff] at h
      obtain ⟨r', h', rfl⟩ := h
      rw [setKey_some h' (by simpa using hp) ht fun i u' hi hu => hn (i + 1) u' (by omega) (by simpa using hu)]
      simp

theorem RVs.set {vs : List AV} {xs : List Value} (h : RVs w σ μ vs xs) {v : AV} {x : Value} (hv : RV w σ μ v x) (i : Nat) : RVs w σ μ (vs.set i v) (xs.set i x) := by
  induction vs generalizing xs i with
  | nil => cases h; simpa using RVs.nil μ
  | cons u us ih =>
    cases h with
    | cons _ _ y _ ys h hs =>
      cases i with
      | zero => exact .cons _ _ _ _ _ hv hs
      | succ i => exact .cons _ _ _ _ _ h (ih hs i)

theorem sameBits_cell {f : FK} {v u : AV} (h : eqCell f v u = some true) {x y : Value} {μ' : Mu} (hx : RV w σ μ v x) (hy : RV w σ μ' u y) (n : Nat) : Instr.sameBits n y x = true := by
  unfold eqCell at h
  split at h
  · split at h
    · rename_i hjk
      subst hjk
      have he := Option.some.inj h
      rw [hx.int_inv, hy.int_inv]
      cases n <;> simp [Instr.sameBits] at he ⊢ <;> exact he.symm
    · cases h
  · have he := Option.some.inj h
    rw [hx.str_inv, hy.str_inv]
    have he' : _ = _ := eq_of_beq he
    cases n <;> simp only [Instr.sameBits, he', beq_toListBytes, beq_self_eq_true]
  · have he := Option.some.inj h
    rw [hx.bool_inv, hy.bool_inv]
    cases n <;> simp [Instr.sameBits] at he ⊢ <;> exact he.symm
  · cases h

theorem sameBits_cells : ∀ {fs : List FK} {vs us : List AV}, eqCells fs vs us = some true → ∀ {xs ys : List Value} {μ' : Mu}, RVs w σ μ vs xs → RVs w σ μ' us ys → ∀ n,
    ys.length = xs.length ∧ (ys.zip xs).all (fun p => Instr.sameBits n p.1 p.2) = true
  | [], [], [], _, _, _, _, hx, hy, n => by cases hx; cases hy; simp
  | [], [], _ :: _, h, _, _, _, _, _, _ => by simp [eqCells] at h
  | [], _ :: _, _, h, _, _, _, _, _, _ => by simp [eqCells] at h
  | _ :: _, [], _, h, _, _, _, _, _, _ => by simp [eqCells] at h
  | _ :: _, _ :: _, [], h, _, _, _, _, _, _ => by simp [eqCells] at h
  | f :: fs, v :: vs, u :: us, h, _, _, _, hx, hy, n => by
    cases hx with
    | cons _ _ x _ xs hx hxs =>
      cases hy with
      | cons _ _ y _ ys hy hys =>
        simp only [eqCells, Option.bind_eq_some_iff, Option.some.injEq, Bool.and_eq_true] at h
        obtain ⟨b1, h1, b2, h2, rfl, rfl⟩ := h
        obtain ⟨l, z⟩ := sameBits_cells h2 hxs hys n
        refine ⟨by simp [l], ?_⟩
        simp only [List.zip_cons_cons, List.all_cons, sameBits_cell h1 hx hy n, z, Bool.and_self]

theorem sameBits_key {k : EK} {v u : AV} (h : eqKey k v u = some true) {x y : Value} {μ' : Mu} (hx : RV w σ μ v x) (hy : RV w σ μ' u y) : Instr.sameBits 10000 y x = true := by
  unfold eqKey at h
  split at h
  · exact sameBits_cell h hx hy _
  · obtain ⟨xs, rfl, hxs⟩ := hx.agg_inv
    obtain ⟨ys, rfl, hys⟩ := hy.agg_inv
    obtain ⟨l, z⟩ := sameBits_cells h hxs hys 9999
    rw [show (10000 : Nat) = 9999 + 1 from rfl, Instr.sameBits]
    simp only [List.size_toArray, l, beq_self_eq_true, Bool.true_and]
    exact z
  · cases h

theorem ok_mapUpdate {t : TypeId} {m k x : Operand} {own : Bool} {xo : XOp} (hc : compOp P G own (.mapUpdate t m k x) = some xo) (hx : xop X C xo e H = some r) (hr : HR G B σ μ H w) (he : ER σ μ e w a) :
    OpOK P (.mapUpdate t m k x) o a w (Post G B σ μ w r) := by
  simp only [compOp] at hc
  split at hc
  · rename_i kt el hu
    simp only [Option.bind_eq_some_iff, Option.map_eq_some_iff] at hc
    obtain ⟨ek, hek, m', hm', k', hk', x', hx', rfl⟩ := hc
    have h1 := RV.arg hr he hm'
    have h2 := RV.arg hr he hk'
    have h3 := RV.arg hr he hx'
    simp only [xop] at hx
    split at hx
    · rename_i b hp
      split at hx
      · rename_i ks vs hb
        split at hx
        · rename_i hok
          rw [Option.map_eq_some_iff] at hx
          obtain ⟨r', hr', rfl⟩ := hx
          rw [hp] at h1
          obtain ⟨bm, h1', hbm⟩ := h1.map_inv
          obtain ⟨en, clock, g1, g2, g3, gb⟩ := hr.blk b _ bm hb hbm
          obtain ⟨res, hres⟩ := setKey_find hr'
          obtain ⟨q, hq, hf⟩ := run_findKeyAV hek h2 hres g2 g3
          have hck := run_checkKeyAV (w := w) hek hok h2 false
          have hset : ∀ ob, (setObj bm.rb ob).run P w = .ok () { w with heap := w.heap.setIfInBounds bm.rb ob } := fun ob => by simp [setObj, Sem.run, g1]
          have hlt : bm.rb < w.heap.size := (Array.getElem?_eq_some_iff.1 g1).1
          have upd : ∀ (en' : Array MapEntry) (clock' : Nat) (ks' vs' : List AV), RVs w σ μ ks' (en'.toList.map (·.key)) → RVs w σ μ vs' (en'.toList.map (·.val)) → Born en' clock' →
              HR G B σ μ (H.set b (.map ks' vs')) { w with heap := w.heap.setIfInBounds bm.rb (.map en' clock') } ∧ Step B σ μ w σ μ { w with heap := w.heap.setIfInBounds bm.rb (.map en' clock') } := by
            intro en' clock' ks' vs' p1 p2 p3
            refine hr.upd hb trivial hbm (by simp) (fun q hq => by simp [Ne.symm hq]) (fun hs => ⟨en', clock', by simp [hlt], p1.mono hs (fun _ _ h => h), p2.mono hs (fun _ _ h => h), p3⟩)
          cases q with
          | none =>
            have := setKey_none hr' (hf.no rfl)
            subst this
            obtain ⟨s1, s2⟩ := upd (en.push { key := a.eval k, val := a.eval x, born := clock }) (clock + 1) (ks ++ [k'.ev e]) (vs ++ [x'.ev e])
              (by simpa using g2.append (.cons _ _ _ _ _ h2 (.nil _))) (by simpa using g3.append (.cons _ _ _ _ _ h3 (.nil _)))
              (by
                obtain ⟨n1, n2⟩ := gb
                constructor
                · simp only [Array.toList_push, List.map_append, List.map_cons, List.map_nil]
                  rw [List.nodup_append]
                  refine ⟨n1, by simp, fun y hy z hz e => ?_⟩
                  obtain ⟨q, hq, rfl⟩ := List.mem_map.1 hy
                  have := n2 q hq
                  simp at hz; omega
                · intro q hq
                  simp only [Array.toList_push, List.mem_append, List.mem_singleton] at hq
                  rcases hq with hq | rfl
                  · have := n2 q hq; omega
                  · simp)
            refine .skip (w' := { w with heap := w.heap.setIfInBounds bm.rb (.map (en.push { key := a.eval k, val := a.eval x, born := clock }) (clock + 1)) }) ?_ ⟨_, _, s1, .tuple _ _ [] (.nil _), s2⟩
            simp [execOp, Instr.mapUpdate, run_underlying hu, h1', getMap g1, hck, hq, hset]
          | some p =>
            obtain ⟨u, hu1, hu2, hu3⟩ := hf.yes p rfl
            have := setKey_some hr' hu1 hu2 hu3
            subst this
            obtain ⟨y, hy1, hy2⟩ := g2.get hu1
            have hp2 : p.1 < en.size := by have := (List.getElem?_eq_some_iff.1 hy1).1; simpa using this
            have hkey : ((en[p.1]?).map (·.key)).getD (a.eval k) = y := by
              simp only [List.getElem?_map, Array.getElem?_toList] at hy1
              rw [hy1]; rfl
            have hsame := sameBits_key hu2 h2 hy2
            have hkeep : (Instr.keyThatStays y (a.eval k)).run P w = .ok (a.eval k) w := by simp [Instr.keyThatStays, hsame]
            obtain ⟨s1, s2⟩ := upd (en.modify p.1 fun q => { q with key := a.eval k, val := a.eval x }) clock (ks.set p.1 (k'.ev e)) (vs.set p.1 (x'.ev e))
              (by
                have := g2.set h2 p.1
                have e1 : (en.modify p.1 fun q => { q with key := a.eval k, val := a.eval x }).toList.map (·.key) = (en.toList.map (·.key)).set p.1 (a.eval k) := by
                  apply List.ext_getElem?
                  intro i
                  simp [Array.getElem?_modify, List.getElem?_set]
                  split <;> simp_all
                rw [e1]; exact this)
              (by
                have := g3.set h3 p.1
                have e1 : (en.modify p.1 fun q => { q with key := a.eval k, val := a.eval x }).toList.map (·.val) = (en.toList.map (·.val)).set p.1 (a.eval x) := by
                  apply List.ext_getElem?
                  intro i
                  simp [Array.getElem?_modify, List.getElem?_set]
                  split <;> simp_all
                rw [e1]; exact this)
              (by
                obtain ⟨n1, n2⟩ := gb
                have e1 : (en.modify p.1 fun q => { q with key := a.eval k, val := a.eval x }).toList.map (·.born) = en.toList.map (·.born) := by
                  apply List.ext_getElem?
                  intro i
                  simp only [List.getElem?_map, Array.getElem?_toList, Array.getElem?_modify]
                  split
                  · cases en[i]? <;> rfl
                  · rfl
                refine ⟨by rw [e1]; exact n1, fun q hq => ?_⟩
                have : q.born ∈ (en.modify p.1 fun q => { q with key := a.eval k, val := a.eval x }).toList.map (·.born) := List.mem_map.2 ⟨q, hq, rfl⟩
                rw [e1] at this
                obtain ⟨q', hq', he⟩ := List.mem_map.1 this
                rw [← he]; exact n2 q' hq')
            refine .skip (w' := { w with heap := w.heap.setIfInBounds bm.rb (.map (en.modify p.1 fun q => { q with key := a.eval k, val := a.eval x }) clock) }) ?_ ⟨_, _, s1, .tuple _ _ [] (.nil _), s2⟩
            simp only [execOp, Instr.mapUpdate, Sem.run_bind, run_underlying hu, Result.andThen_ok, h1', getMap g1, hck, hq, hkey, hkeep, hset]
            rfl
        · cases hx
      · cases hx
    · cases hx
  · cases hc
end
end X
end Go.Proofs.YtplginnkececaaaGreatDoor

set_option linter.unusedSimpArgs false
set_option linter.unusedVariables false
namespace Go.Proofs.YtplginnkececaaaGreatDoor
open Go
namespace X

section
variable {P : Program} {G : Nat → Option AV} {w : World} {σ : Nat → Prop} {μ : Mu}
variable {X : Prog} {C : Oracle} {B : Nat} {H : Heap} {e : Env} {a : Act} {o : Oper} {r : AV × Heap}

theorem set_splice {α : Type} (A l : List α) (v : α) (m : Nat) (h : m + (l.length + 1) ≤ A.length) :
    (A.set m v).take (m + 1) ++ l ++ (A.set m v).drop (m + 1 + l.length) = A.take m ++ v :: l ++ A.drop (m + (l.length + 1)) := by
  have h0 : m < A.length := by omega
  have h1 : (A.set m v).take (m + 1) = A.take m ++ [v] := by
    rw [List.take_succ_eq_append_getElem (by simpa using h0), List.take_set_of_le (Nat.le_refl _)]
    simp
  have h2 : (A.set m v).drop (m + 1 + l.length) = A.drop (m + (l.length + 1)) := by
    rw [List.drop_set_of_lt (by omega)]
    congr 1; omega
  rw [h1, h2]
  simp

theorem foldSet : ∀ (l : List Value) (k : Nat) (cs : Array Value) (off : Nat), off + k + l.length ≤ cs.size →
    ((l.zipIdx k).foldl (fun (cs : Array Value) (p : Value × Nat) => cs.setIfInBounds (off + p.2) p.1) cs).toList = cs.toList.take (off + k) ++ l ++ cs.toList.drop (off + k + l.length)
  | [], k, cs, off, _ => by simp
  | v :: l, k, cs, off, h => by
    simp only [List.length_cons] at h
    rw [List.zipIdx_cons, List.foldl_cons, foldSet l (k + 1) _ off (by simp; omega)]
    simp only [Array.toList_setIfInBounds, List.length_cons]
    exact set_splice cs.toList l v (off + k) (by simp; omega)

theorem fill_ok {place pl : Nat → Option (Nat × Nat)} (hpl : ∀ i q, pl i = some q → place i = some q) (hr : HR G B σ μ H w) (he : ER σ μ e w a) : ∀ {l : List (Nat × Operand)} {ps : List (Nat × Nat × Arg)} {zs cs : List AV} {Z : Array Value},
    compParts G pl l = some ps → fillAV zs (ps.map fun p => (p.1, p.2.1, p.2.2.ev e)) = some cs → RVs w σ μ zs Z.toList →
    ∃ Z', Instr.fill place Z (l.map fun p => (p.1, a.eval p.2)) = some Z' ∧ RVs w σ μ cs Z'.toList
  | [], ps, zs, cs, Z, hps, hf, hz => by
    simp [compParts] at hps; subst hps
    simp [fillAV] at hf; subst hf
    exact ⟨Z, by simp [Instr.fill], hz⟩
  | p :: l, ps, zs, cs, Z, hps, hf, hz => by
    simp only [compParts, List.mapM_cons, Option.pure_def, Option.bind_eq_bind, Option.bind_eq_some_iff, Option.map_eq_some_iff, Option.some.injEq] at hps
    obtain ⟨_, ⟨q, hq, y, hy, rfl⟩, qs, hqs, rfl⟩ := hps
    simp only [List.map_cons, fillAV] at hf
    split at hf
    · rename_i hcond
      obtain ⟨c1, c2, c3⟩ := hcond
      have hv := RV.arg hr he hy
      have hcs := hv.cellsOf c2
      have hl := hcs.length
      have hzl := hz.length
      have hsz : (a.eval p.2).cells.size = q.2 := by rw [← c1, hl]; simp
      have hZ : Z.size = zs.length := by rw [hzl]; simp
      have hfold := foldSet (a.eval p.2).cells.toList 0 Z q.1 (by simp only [Array.length_toList]; omega)
      have key : ((a.eval p.2).cells.zipIdx.foldl (fun cs (x : Value × Nat) => cs.setIfInBounds (q.1 + x.2) x.1) Z).toList = Z.toList.take q.1 ++ (a.eval p.2).cells.toList ++ Z.toList.drop (q.1 + q.2) := by
        rw [← Array.foldl_toList, Array.toList_zipIdx, hfold]
        simp [hsz]
      obtain ⟨Z', h1, h2⟩ := fill_ok hpl hr he (l := l) (Z := (a.eval p.2).cells.zipIdx.foldl (fun cs (x : Value × Nat) => cs.setIfInBounds (q.1 + x.2) x.1) Z) hqs hf (by
        rw [key]
        exact ((hz.take _).append hcs).append (hz.drop _))
      refine ⟨Z', ?_, h2⟩
      have hn : ¬ (q.1 + (a.eval p.2).cells.size > Z.size) := by omega
      simp only [List.map_cons, Instr.fill, hpl _ _ hq, hsz]
      rw [if_neg (by simp; omega)]
      exact h1
    · cases hf

theorem run_places {fs : Array Field} (h : (fs.toList.all fun f => (P.info? f.type).isSome) = true) :
    ∃ places : Array (Nat × Nat), (fs.mapM (fun (f : Field) => (do pure (f.offset, ← sizeOf f.type) : Sem (Nat × Nat)))).run P w = .ok places w ∧ ∀ i q, fieldPlaces P fs i = some q → places[i]? = some q := by
  have key : ∀ (l : List Field), (l.all fun f => (P.info? f.type).isSome) = true → ∃ ps : List (Nat × Nat), (l.mapM (fun (f : Field) => (do pure (f.offset, ← sizeOf f.type) : Sem (Nat × Nat)))).run P w = .ok ps w ∧
      ∀ (i : Nat) (q : Nat × Nat), ((l[i]?).bind fun (f : Field) => (P.info? f.type).map fun s => (f.offset, s.size)) = some q → ps[i]? = some q := by
    intro l
    induction l with
    | nil => intro _; exact ⟨[], by simp, fun i q h => by simp at h⟩
    | cons f l ih =>
      intro hl
      simp only [List.all_cons, Bool.and_eq_true] at hl
      obtain ⟨ps, h1, h2⟩ := ih hl.2
      obtain ⟨s, hs⟩ := Option.isSome_iff_exists.1 hl.1
      refine ⟨(f.offset, s.size) :: ps, ?_, ?_⟩
      · simp only [List.mapM_cons, Sem.run_bind, sizeOf, typeInfo, run_program, hs, Result.andThen_ok, Sem.run_pure] at h1 ⊢
        simp only [h1, Result.andThen_ok]
      · intro i q hi
        cases i with
        | zero => simp [hs] at hi; simp [hi]
        | succ i => simp at hi ⊢; exact h2 i q (by simpa using hi)
  obtain ⟨ps, h1, h2⟩ := key fs.toList h
  refine ⟨ps.toArray, ?_, ?_⟩
  · rw [Array.mapM_eq_mapM_toList]
    simp only [Sem.run_map, h1, Result.andThen_ok]
  · intro i q hi
    have := h2 i q (by simpa [fieldPlaces] using hi)
    simpa using this

theorem ok_build {t : TypeId} {parts : Array (Nat × Operand)} {own : Bool} {xo : XOp} (hc : compOp P G own (.build t parts) = some xo) (hx : xop X C xo e H = some r) (hr : HR G B σ μ H w) (he : ER σ μ e w a) :
    OpOK P (.build t parts) o a w (Post G B σ μ w r) := by
  simp only [compOp, Option.bind_eq_some_iff] at hc
  obtain ⟨inf, hinf, z, hz, v, hv, hc⟩ := hc
  have hzero : (zeroValue t).run P w = .ok z w := by simp [zeroValue, typeInfo, hinf, hz]
  have fin : ∀ (zs : List AV) (ps : List (Nat × Nat × Arg)) (place pl : Nat → Option (Nat × Nat)), v = .agg zs → (∀ i q, pl i = some q → place i = some q) → compParts G pl parts.toList = some ps → xo = .build zs ps →
      (∀ Z', Instr.fill place z.cells (parts.map fun (i, x) => (i, a.eval x)).toList = some Z' → (execOp a.eval { o with op := .build t parts }).run P w = .ok (.value (.agg Z')) w) → OpOK P (.build t parts) o a w (Post G B σ μ w r) := by
    intro zs ps place pl hvz hpl hps hxo hrun
    subst hxo
    subst hvz
    simp only [xop, Option.map_eq_some_iff] at hx
    obtain ⟨cs, hcs, rfl⟩ := hx
    obtain ⟨xs, rfl, hxs⟩ := (RV.ofValue (w := w) (σ := σ) (μ := μ) hv).agg_inv
    obtain ⟨Z', h1, h2⟩ := fill_ok hpl hr he (Z := (Value.agg xs.toArray).cells) hps hcs (by simpa [Value.cells] using hxs)
    refine .quiet (x := .agg Z') hr rfl (hrun Z' (by simpa using h1)) ?_
    have := RV.agg (w := w) (σ := σ) μ cs Z'.toList h2
    simpa using this
  split at hc
  · rename_i zs fs hu
    split at hc
    · rename_i hall
      rw [Option.map_eq_some_iff] at hc
      obtain ⟨ps, hps, rfl⟩ := hc
      obtain ⟨places, p1, p2⟩ := run_places (P := P) (w := w) hall
      refine fin zs ps (fun i => places[i]?) (fieldPlaces P fs) rfl p2 hps rfl ?_
      intro Z' hZ
      simp only [execOp, Instr.build, Sem.run_bind, hzero, Result.andThen_ok, run_underlying hu] at p1 ⊢
      rw [p1]
      simp only [Result.andThen_ok, hZ]
      rfl
    · cases hc
  · rename_i zs n el hu
    simp only [Option.bind_eq_some_iff, Option.map_eq_some_iff] at hc
    obtain ⟨s, hs, ps, hps, rfl⟩ := hc
    refine fin zs ps (fun i => some (i * s.size, s.size)) _ rfl (fun i q h => h) hps rfl ?_
    intro Z' hZ
    simp only [execOp, Instr.build, Sem.run_bind, hzero, Result.andThen_ok, run_underlying hu, sizeOf, typeInfo, run_program, hs, Sem.run_pure, hZ]
  · cases hc
end
end X
end Go.Proofs.YtplginnkececaaaGreatDoor

set_option linter.unusedSimpArgs false
set_option linter.unusedVariables false
namespace Go.Proofs.YtplginnkececaaaGreatDoor
open Go
namespace X

section
variable {P : Program} {G : Nat → Option AV} {w : World} {σ : Nat → Prop} {μ : Mu}
variable {X : Prog} {C : Oracle} {B : Nat} {H : Heap} {e : Env} {a : Act} {o : Oper} {r : AV × Heap}

theorem RVs.each {μ' : Mu} {vs : List AV} {xs : List Value} (h : RVs w σ μ vs xs) (hv : ∀ v ∈ vs, ∀ x, RV w σ μ v x → RV w σ μ' v x) : RVs w σ μ' vs xs := by
  induction vs generalizing xs with
  | nil => cases h; exact .nil _
  | cons v vs ih =>
    cases h with
    | cons _ _ x _ xs h hs => exact .cons _ _ _ _ _ (hv v (by simp) x h) (ih hs fun u hu => hv u (by simp [hu]))

theorem RV.unref : ∀ {k : Nat} {v : AV}, noRef k v = true → ∀ {x : Value} {μ' : Mu}, RV w σ μ v x → RV w σ μ' v x
  | 0, v, h, _, _, _ => by simp [noRef] at h
  | k + 1, v, h, x, μ', hr => by
    cases hr with
    | undef => exact .undef _ _
    | bool => exact .bool _ _
    | int => exact .int _ _ _
    | str => exact .str _ _
    | nilptr => exact .nilptr _
    | nilslice => exact .nilslice _
    | nilmap => exact .nilmap _
    | nilfunc => exact .nilfunc _
    | niliface => exact .niliface _
    | ptr => simp [noRef] at h
    | slice => simp [noRef] at h
    | map => simp [noRef] at h
    | iter => simp [noRef] at h
    | vptr _ _ _ _ _ _ _ _ h1 h2 h3 h4 => exact .vptr _ _ _ _ _ _ _ _ h1 h2 h3 h4
    | vslice0 => exact .vslice0 _ _ _
    | vslice _ _ _ _ _ _ _ _ _ _ h1 h2 h3 h4 h5 h6 => exact .vslice _ _ _ _ _ _ _ _ _ _ h1 h2 h3 h4 h5 h6
    | vmap _ _ _ _ _ _ h1 h2 hb h3 h4 => exact .vmap _ _ _ _ _ _ h1 h2 hb h3 h4
    | func _ _ _ _ hs => simp only [noRef, List.all_eq_true] at h; exact .func _ _ _ _ (hs.each fun u hu y hy => RV.unref (h u hu) hy)
    | iface _ _ _ _ hv => simp only [noRef] at h; exact .iface _ _ _ _ (RV.unref h hv)
    | agg _ _ _ hs => simp only [noRef, List.all_eq_true] at h; exact .agg _ _ _ (hs.each fun u hu y hy => RV.unref (h u hu) hy)
    | tuple _ _ _ hs => simp only [noRef, List.all_eq_true] at h; exact .tuple _ _ _ (hs.each fun u hu y hy => RV.unref (h u hu) hy)

theorem RVs.unref {k : Nat} {vs : List AV} {xs : List Value} {μ' : Mu} (h : RVs w σ μ vs xs) (hv : vs.all (noRef k) = true) : RVs w σ μ' vs xs :=
  h.each fun v hm x hx => hx.unref (List.all_eq_true.1 hv v hm)

theorem cells_noRef {k : Nat} {v u : AV} (h : noRef k v = true) (hu : u ∈ v.cells) : ∃ k, noRef k u = true := by
  cases k with
  | zero => simp [noRef] at h
  | succ k =>
    cases v with
    | agg cs => simp only [noRef, List.all_eq_true] at h; exact ⟨k, h u hu⟩
    | _ => simp only [AV.cells, List.mem_singleton] at hu; subst hu; exact ⟨k + 1, h⟩

theorem flat_replicate {v : AV} {sz n i : Nat} (hv : v.cells.length = sz) (h0 : 0 < sz) (hi : i < n * sz) : ((List.replicate n v).flatMap AV.cells)[i]? = v.cells[i % sz]? := by
  have h1 : i / sz < n := by rw [Nat.div_lt_iff_lt_mul h0]; exact hi
  have h2 : (i / sz) * sz + i % sz = i := by rw [Nat.mul_comm]; exact Nat.div_add_mod i sz
  have := flat_get (off := i % sz) (Nat.mod_lt _ h0) (es := List.replicate n v) (i := i / sz) (x := v) (fun e he => by rw [List.eq_of_mem_replicate he]; exact hv) (by simp [h1])
  rwa [h2] at this

theorem zeros_ok {v : AV} {z : Value} {sz n : Nat} (h : RVs w σ μ v.cells z.cells.toList) (hv : v.cells.length = sz) (h0 : 0 < sz) :
    RVs w σ μ ((List.replicate n v).flatMap AV.cells) ((Array.range (n * sz)).map (z.cells[· % z.cells.size]!)).toList := by
  have hz : z.cells.size = sz := by rw [← hv, h.length]; simp
  refine RVs.of_get ?_ ?_
  · rw [flat_length (sz := sz) (fun e he => by rw [List.eq_of_mem_replicate he]; exact hv)]; simp
  · intro i u x hu hx
    have hi : i < n * sz := by have := (List.getElem?_eq_some_iff.1 hx).1; simpa using this
    rw [flat_replicate hv h0 hi] at hu
    obtain ⟨y, hy, hr⟩ := h.get hu
    simp only [Array.toList_map, Array.toList_range, List.getElem?_map, List.getElem?_range hi, Option.map_some, Option.some.injEq] at hx
    have hm : i % sz < z.cells.size := by rw [hz]; exact Nat.mod_lt _ h0
    rw [hz] at hx
    rw [← hx, getElem!_pos z.cells (i % sz) hm]
    simp at hy
    rw [Array.getElem?_eq_getElem hm] at hy
    cases hy
    exact hr

theorem fillLit_fill {sz : Nat} : ∀ {ps : List (Nat × AV)} {es es' : List AV}, (∀ e ∈ es, e.cells.length = sz ∧ e.cells.all AV.storable = true) → fillLit sz es ps = some es' →
    fillAV (es.flatMap AV.cells) (ps.map fun p => (p.1 * sz, sz, p.2)) = some (es'.flatMap AV.cells) ∧ (∀ e ∈ es', e.cells.length = sz ∧ e.cells.all AV.storable = true) ∧ es'.length = es.length
  | [], es, es', he, h => by simp [fillLit] at h; subst h; exact ⟨by simp [fillAV], he, rfl⟩
  | (i, v) :: ps, es, es', he, h => by
    simp only [fillLit] at h
    split at h
    · rename_i hc
      obtain ⟨c1, c2, c3⟩ := hc
      have hall : ∀ e ∈ es, e.cells.length = sz := fun e h => (he e h).1
      have he2 : ∀ e ∈ es.set i v, e.cells.length = sz ∧ e.cells.all AV.storable = true := by
        intro e hm
        rcases List.mem_or_eq_of_mem_set hm with h | rfl
        · exact he e h
        · exact ⟨c1, c2⟩
      obtain ⟨h1, h2, h3⟩ := fillLit_fill he2 h
      have hx : es[i]? = some es[i] := List.getElem?_eq_getElem c3
      refine ⟨?_, h2, by rw [h3]; simp⟩
      have hle : i * sz + sz ≤ (es.flatMap AV.cells).length := by rw [flat_length hall, ← Nat.succ_mul]; exact Nat.mul_le_mul_right _ c3
      simp only [List.map_cons, fillAV]
      rw [if_pos ⟨c1, c2, hle⟩, ← flat_set hall hx c1]
      exact h1
    · cases h

theorem compLit_parts {sz : Nat} : ∀ {l : List (Nat × Operand)} {ps : List (Nat × Arg)}, (l.mapM fun p => (compArg G p.2).map fun x => (p.1, x)) = some ps →
    compParts G (fun i => some (i * sz, sz)) l = some (ps.map fun p => (p.1 * sz, sz, p.2))
  | [], ps, h => by simp at h; subst h; simp [compParts]
  | p :: l, ps, h => by
    simp only [List.mapM_cons, Option.pure_def, Option.bind_eq_bind, Option.bind_eq_some_iff, Option.map_eq_some_iff, Option.some.injEq] at h
    obtain ⟨_, ⟨y, hy, rfl⟩, qs, hqs, rfl⟩ := h
    have := compLit_parts (sz := sz) hqs
    simp only [compParts, Option.bind_some] at this ⊢
    rw [List.mapM_cons, this]
    simp [hy]

theorem ok_buildSlice {t : TypeId} {len : Nat} {parts : Array (Nat × Operand)} {own : Bool} {xo : XOp} (hc : compOp P G own (.buildSlice t len parts) = some xo) (hx : xop X C xo e H = some r) (hr : HR G B σ μ H w)
    (he : ER σ μ e w a) : OpOK P (.buildSlice t len parts) o a w (Post G B σ μ w r) := by
  simp only [compOp] at hc
  split at hc
  · rename_i el hu
    simp only [Option.bind_eq_some_iff] at hc
    obtain ⟨inf, hinf, z, hz, v, hv, hc⟩ := hc
    split at hc
    · rename_i hcond
      obtain ⟨c1, c2, c3, c4⟩ := hcond
      rw [Option.map_eq_some_iff] at hc
      obtain ⟨ps, hps, rfl⟩ := hc
      simp only [xop, Option.bind_eq_some_iff] at hx
      obtain ⟨es, hes, hx⟩ := hx
      have hvz := RV.ofValue (w := w) (σ := σ) (μ := μ) hv
      have hcs := hvz.cellsOf c3
      have hz0 := zeros_ok (n := len) hcs c2 c4
      obtain ⟨f1, f2, f3⟩ := fillLit_fill (sz := inf.size) (es := List.replicate len v) (fun e he => by rw [List.eq_of_mem_replicate he]; exact ⟨c2, c3⟩) hes
      obtain ⟨Z', h1, h2⟩ := fill_ok (place := fun i => some (i * inf.size, inf.size)) (pl := fun i => some (i * inf.size, inf.size)) (fun _ _ h => h) hr he (Z := (Array.range (len * inf.size)).map (z.cells[· % z.cells.size]!)) (compLit_parts hps)
        (by rw [List.map_map] at f1 ⊢; exact f1) hz0
      have hlen : es.length = len := by rw [f3]; simp
      have hn : ¬ len * inf.size > 2 ^ 24 := by omega
      have hrun : (execOp a.eval { o with op := .buildSlice t len parts }).run P w = .ok (.value (.slice (some ⟨w.heap.size, 0, none⟩) len len)) (w.alloc (.cells Z' el)) := by
        have h1' : Instr.fill (fun i => some (i * inf.size, inf.size)) ((Array.range (len * inf.size)).map (z.cells[· % z.cells.size]!)) (parts.map fun (i, x) => (i, a.eval x)).toList = some Z' := by simpa using h1
        by_cases h0 : len * inf.size = 0
        · have h1'' : Instr.fill (fun i => some (i * inf.size, inf.size)) #[] (parts.map fun (i, x) => (i, a.eval x)).toList = some Z' := by rw [h0, Array.range_zero', Array.map_empty] at h1'; exact h1'
          simp only [execOp, Instr.buildSlice, Sem.run_bind, run_underlying hu, Result.andThen_ok, sizeOf, typeInfo, run_program, hinf, Sem.run_pure, h0, if_true, Sem.run_ite, Array.range_zero', Array.map_empty, h1'', newRow]
          rfl
        · simp only [execOp, Instr.buildSlice, Sem.run_bind, run_underlying hu, Result.andThen_ok, sizeOf, typeInfo, run_program, hinf, Sem.run_pure, zeroValue, hz, h0, if_false, Sem.run_ite, hn, h1', newRow]
          rfl
      have hZ : (es.flatMap AV.cells).length = Z'.size := by rw [h2.length]; simp
      have hfl := flat_length fun e h => (f2 e h).1
      cases own with
      | true =>
        simp only [if_true, Option.some.injEq] at hx
        subst hx
        obtain ⟨g1, g2⟩ := hr.row (w' := w.alloc (.cells Z' el)) (sz := inf.size) (es := es) (c := Z') (ty := el) (vs := Z'.toList) (by simp) (fun b hb => alloc_old _ hb) (alloc_new _) f2 h2 (fun i hi => by simp) (by omega)
        refine .value hrun ⟨_, _, g1, ?_, g2⟩
        have := RV.slice (w := w.alloc (.cells Z' el)) (σ := σ) _ H.length 0 es.length es.length _ (put_new (μ := μ) (H := H) ⟨w.heap.size, 0, inf.size, es.length, Z'.size⟩) (Nat.le_refl _) (by simp) (by simp; omega)
        rw [← hlen]; simpa using this
      | false =>
        simp only [Bool.false_eq_true, if_false] at hx
        split at hx
        · rename_i hnr
          cases hx
          obtain ⟨g1, g2⟩ := hr.more (w' := w.alloc (.cells Z' el)) (σ' := fun b => σ b ∨ b = w.heap.size) (by simp) (fun b hb => alloc_old _ hb) (fun b h => .inl h) (fun b h => by
            rcases h with h | rfl
            · exact .inl h
            · exact .inr (by simp))
          refine .value hrun ⟨_, _, g1, ?_, g2⟩
          by_cases h0 : es = []
          · subst h0
            rw [← hlen]
            exact .vslice0 _ _ _
          · have hcells : RVs w σ noMu (es.flatMap AV.cells) Z'.toList := h2.each (fun u hu y hy => by
              obtain ⟨e0, he0, hu0⟩ := List.mem_flatMap.1 hu
              obtain ⟨k0, hk0⟩ := cells_noRef (List.all_eq_true.1 hnr e0 he0) hu0
              exact hy.unref hk0)
            rw [← hlen]
            exact .vslice _ es w.heap.size 0 Z' el (0, 0) Z'.toList inf.size es.length (.inr rfl) (alloc_new _) (fun i hi => by simp) f2 (hcells.mono g2.sub fun _ _ h => by cases h) (Nat.le_refl _)
        · cases hx
    · cases hc
  · cases hc
end
end X
end Go.Proofs.YtplginnkececaaaGreatDoor
