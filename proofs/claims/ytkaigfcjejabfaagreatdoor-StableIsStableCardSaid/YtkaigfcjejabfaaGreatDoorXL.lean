/- The engine's operations are sound, one by one: lengths, least and greatest, maps that are looked into. No condition. -/
import Derived.Test.YtkaigfcjejabfaaGreatDoorXE
set_option linter.unusedSimpArgs false
set_option linter.unusedVariables false
namespace Go.Proofs.YtkaigfcjejabfaaGreatDoor
open Go
namespace X

section
variable {P : Program} {G : Nat → Option AV} {w : World} {σ : Nat → Prop} {μ : Mu}
variable {X : Prog} {C : Oracle} {B : Nat} {H : Heap} {e : Env} {a : Act} {o : Oper} {r : AV × Heap}

theorem getMap {rb : Nat} {en : Array MapEntry} {clock : Nat} (h : w.heap[rb]? = some (.map en clock)) : (getObj rb).run P w = .ok (.map en clock) w := by
  simp [getObj, Sem.run, h]

/-- A built-in's call. -/
theorem exec_builtin (b : Builtin) (argTypes : Array TypeId) (args : Array Operand) :
    execOp a.eval { o with op := .call { callee := .builtin b, args, argTypes } } = builtin b argTypes o.type (args.map fun | .const _ => true | _ => false) (args.map a.eval) := by
  simp only [execOp, resolve, pure_bind, invoke]
  rfl

theorem ekOf_slice {t : TypeId} (h : ekOf P t = .slice) : ∃ el, P.underlying t = some (.slice el) := ekOf_kind.2.2.1 h
theorem ekOf_map {t : TypeId} (h : ekOf P t = .map) : ∃ k v, P.underlying t = some (.map k v) := by
  unfold ekOf at h
  split at h <;> first | (cases h; done) | skip
  · split at h
    · cases h
    · split at h <;> cases h
  · split at h <;> cases h
  · exact ⟨_, _, by assumption⟩
theorem ekOf_str {t : TypeId} (h : ekOf P t = .one .str) : P.underlying t = some .string := by
  rcases ekOf_one h with ⟨h, _⟩ | ⟨_, h⟩ | ⟨h, _⟩
  · cases h
  · exact h
  · cases h

theorem ok_len {t : TypeId} {x : Operand} {y : Arg} (hy : compArg G x = some y) (hx : xop X C (.len (ekOf P t) y) e H = some r) (hr : HR G B σ μ H w) (he : ER σ μ e w a) :
    OpOK P (.call { callee := .builtin .len, args := #[x], argTypes := #[t] }) o a w (Post G B σ μ w r) := by
  have h1 := RV.arg hr he hy
  simp only [xop, Option.map_eq_some_iff] at hx
  obtain ⟨n, hn, rfl⟩ := hx
  refine .quiet (x := .int .i64 n) hr rfl ?_ (.int _ _ _)
  rw [exec_builtin]
  have hb : ∀ s, builtin .len #[t] o.type s #[a.eval x] = (do pure (.value (← Builtin.len_ #[t] o.type #[a.eval x]))) := fun _ => rfl
  simp only [List.map_toArray, List.map_cons, List.map_nil, hb]
  suffices h : (Builtin.len_ #[t] o.type #[a.eval x]).run P w = .ok (.int .i64 n) w by simp [h]
  unfold lenAV at hn
  split at hn
  · rename_i s hk hp
    cases hn
    rw [hp] at h1
    simp [Builtin.len_, h1.str_inv, run_underlying (ekOf_str hk), bytes_le, goInt]
  · rename_i hk hp
    cases hn
    rw [hp] at h1
    obtain ⟨el, hu⟩ := ekOf_slice hk
    simp [Builtin.len_, h1.nilslice_inv, run_underlying hu, goInt]
  · rename_i b off len hk hp
    cases hn
    rw [hp] at h1
    obtain ⟨el, hu⟩ := ekOf_slice hk
    obtain ⟨cap, m, h2, _⟩ := h1.slice_inv
    simp [Builtin.len_, h2, run_underlying hu, goInt]
  · rename_i es hk hp
    cases hn
    rw [hp] at h1
    obtain ⟨el, hu⟩ := ekOf_slice hk
    rcases h1.vslice_inv with ⟨rfl, _, _, h2⟩ | ⟨_, _, _, _, _, _, _, _, h2, _⟩ <;> simp [Builtin.len_, h2, run_underlying hu, goInt]
  · rename_i hk hp
    cases hn
    rw [hp] at h1
    obtain ⟨k, v, hu⟩ := ekOf_map hk
    simp [Builtin.len_, h1.nilmap_inv, run_underlying hu, goInt]
  · rename_i b hk hp
    rw [hp] at h1
    obtain ⟨k, v, hu⟩ := ekOf_map hk
    obtain ⟨m, h2, hm⟩ := h1.map_inv
    split at hn
    · rename_i ks vs hb
      cases hn
      obtain ⟨en, clock, g1, g2, g3, _⟩ := hr.blk b _ m hb hm
      have hl : ks.length = en.size := by simpa using g2.length
      simp [Builtin.len_, h2, run_underlying hu, getMap g1, goInt, hl]
    · cases hn
  · rename_i ks vs hk hp
    cases hn
    rw [hp] at h1
    obtain ⟨k, v, hu⟩ := ekOf_map hk
    obtain ⟨rb, en, clock, h2, _, g1, g2, g3⟩ := h1.vmap_inv
    have hl : ks.length = en.size := by simpa using g2.length
    simp [Builtin.len_, h2, run_underlying hu, getMap g1, goInt, hl]
  · cases hn

theorem run_mm {mx : Bool} : ∀ {vs : List AV} {xs : List Value} {v u : AV} {x : Value}, vs.foldlM (mm2 mx) v = some u → RV w σ μ v x → RVs w σ μ vs xs →
    ∃ y, (xs.foldlM (if mx then Builtin.max2 else Builtin.min2) x).run P w = .ok y w ∧ RV w σ μ u y
  | [], _, v, u, x, h, hx, hs => by
    cases hs
    simp at h; subst h
    exact ⟨x, by simp, hx⟩
  | z :: vs, _, v, u, x, h, hx, hs => by
    cases hs with
    | cons _ _ y _ ys hz hs =>
      simp only [List.foldlM_cons, Option.bind_eq_bind, Option.bind_eq_some_iff] at h
      obtain ⟨v2, hv2, h⟩ := h
      unfold mm2 at hv2
      split at hv2
      · rename_i k p k' q
        split at hv2
        · rename_i hk
          subst hk
          cases hv2
          rw [hz.int_inv, hx.int_inv]
          obtain ⟨y', h3, h4⟩ := run_mm h (RV.int (w := w) (σ := σ) μ k _) hs
          refine ⟨y', ?_, h4⟩
          cases mx <;> simp [Builtin.max2, Builtin.min2] at h3 ⊢ <;> exact h3
        · cases hv2
      · cases hv2

theorem ok_mm {mx : Bool} {tys : Array TypeId} {args : Array Operand} {ys : List Arg} (hy : args.toList.mapM (compArg G) = some ys) (hx : xop X C (.mm mx ys) e H = some r) (hr : HR G B σ μ H w) (he : ER σ μ e w a) :
    OpOK P (.call { callee := .builtin (if mx then .max else .min), args := args, argTypes := tys }) o a w (Post G B σ μ w r) := by
  have h1 := RVs.args hr he hy
  simp only [xop, Option.map_eq_some_iff] at hx
  obtain ⟨v, hv, rfl⟩ := hx
  unfold mmAV at hv
  split at hv
  · cases hv
  · rename_i v0 vs hvs
    rw [hvs] at h1
    generalize hxs : args.toList.map a.eval = xs at h1
    cases h1 with
    | cons _ _ x _ xs' hx0 hs =>
      obtain ⟨y, h3, h4⟩ := run_mm (P := P) hv hx0 hs
      refine .quiet hr rfl (x := y) ?_ h4
      rw [exec_builtin]
      have hl : (args.map a.eval).toList = x :: xs' := by rw [← hxs]; simp
      cases mx
      · have hb : ∀ s, builtin .min tys o.type s (args.map a.eval) = (do pure (.value (← Builtin.min_ tys o.type (args.map a.eval)))) := fun _ => rfl
        simp only [Bool.false_eq_true, if_false, hb, Builtin.min_, hl] at h3 ⊢
        simp [h3]
      · have hb : ∀ s, builtin .max tys o.type s (args.map a.eval) = (do pure (.value (← Builtin.max_ tys o.type (args.map a.eval)))) := fun _ => rfl
        simp only [if_true, hb, Builtin.max_, hl] at h3 ⊢
        simp [h3]

/-! ### looking into maps -/

/-- A key of a flat type is fit to be a key. -/
theorem checkFlat_run (em : Bool) : ∀ (d : Nat) {t : TypeId} {ks : List FK}, flatK P d t = some ks → ∀ {xs : List Value}, xs.length = ks.length →
    ∀ D, (Instr.checkKey em (D + d) t (ofCells P t xs)).run P w = .ok () w
  | 0, t, ks, hk, _, _, _ => by simp [flatK] at hk
  | d + 1, t, ks, hk, xs, hl, D => by
    unfold flatK at hk
    have one : (∀ fs, P.underlying t ≠ some (.struct fs)) → (∀ n e, P.underlying t ≠ some (.array n e)) → (∀ ms, P.underlying t ≠ some (.interface ms)) → (P.underlying t).isSome → ∀ v, (Instr.checkKey em (D + d + 1) t v).run P w = .ok () w := by
      intro h1 h2 h3 h4 v
      cases hu : P.underlying t with
      | none => rw [hu] at h4; cases h4
      | some k =>
        rw [Instr.checkKey]
        simp only [Sem.run_bind, run_underlying hu, Result.andThen_ok]
        cases k <;> first | rfl | (exact (h1 _ hu).elim) | (exact (h2 _ _ hu).elim) | (exact (h3 _ hu).elim)
    split at hk
    · rename_i k hu; exact one (by simp [hu]) (by simp [hu]) (by simp [hu]) (by simp [hu]) _
    · rename_i hu; exact one (by simp [hu]) (by simp [hu]) (by simp [hu]) (by simp [hu]) _
    · rename_i hu; exact one (by simp [hu]) (by simp [hu]) (by simp [hu]) (by simp [hu]) _
    · rename_i fs hu
      split at hk
      · cases hk
      · simp only [ofCells, hu]
        rw [← Nat.add_assoc, Instr.checkKey]
        simp only [Sem.run_bind, run_underlying hu, Result.andThen_ok]
        rw [← Array.forIn_toList]
        suffices key : ∀ (l : List Field) (off : Nat) (ls : List FK), flatFs P (flatK P d) l off = some ls → off + ls.length ≤ xs.length →
            (forIn (m := Sem) l PUnit.unit fun (f : Field) (__s : PUnit) =>
              if f.name ≠ "_" then do
                let __do_lift ← part f.type xs.toArray f.offset
                Instr.checkKey em (D + d) f.type __do_lift
                pure (ForInStep.yield PUnit.unit)
              else pure (ForInStep.yield PUnit.unit)).run P w = .ok PUnit.unit w by
          rw [key fs.toList 0 ks hk (by omega)]; rfl
        intro l
        induction l with
        | nil => intro off ls _ _; simp
        | cons f l ih =>
          intro off ls hls hle
          unfold flatFs at hls
          split at hls
          · rename_i hn
            simp only [Option.bind_eq_some_iff] at hls
            obtain ⟨ks1, hk1, hls⟩ := hls
            split at hls
            · rename_i hsz
              rw [Option.map_eq_some_iff] at hls
              obtain ⟨ks2, hk2, rfl⟩ := hls
              simp at hle
              have p1 := flatK_part (w := w) hk1 hsz (xs := xs) (off := f.offset) (by rw [hn.2]; omega)
              have hq := checkFlat_run em d hk1 (xs := (xs.drop f.offset).take ks1.length) (by rw [hn.2]; simp; omega) D
              have hrest := ih (off + ks1.length) ks2 hk2 (by omega)
              simp only [List.forIn_cons, Sem.run_bind, hn.1, ne_eq, not_false_eq_true, if_true, p1, Result.andThen_ok, hq, Sem.run_pure]
              exact hrest
            · cases hls
          · cases hls
    · cases hk

theorem keyOf_cases {t : TypeId} {k : EK} (h : keyOf P t = some k) : (∃ f, k = .one f ∧ ekOf P t = .one f) ∨ ∃ fs l, k = .agg fs ∧ P.underlying t = some (.struct l) ∧ flatK P 8 t = some fs := by
  unfold keyOf at h
  split at h
  · rename_i f hf; cases h; exact .inl ⟨f, rfl, hf⟩
  · rename_i fs hf; cases h; obtain ⟨⟨l, hl⟩, _, h2⟩ := ekOf_agg hf; exact .inr ⟨fs, l, rfl, hl, h2⟩
  · cases h

/-- A key of the engine's is fit to be a key. -/
theorem run_checkKeyAV {t : TypeId} {k : EK} (h : keyOf P t = some k) {v : AV} (hb : keyOk k v = true) {x : Value} (hx : RV w σ μ v x) (em : Bool) :
    (Instr.checkKey em 10000 t x).run P w = .ok () w := by
  rcases keyOf_cases h with ⟨f, rfl, hf⟩ | ⟨fs, l, rfl, hl, hfs⟩
  · have hu : ∃ d, P.underlying t = some d ∧ (∀ fs, d ≠ .struct fs) ∧ (∀ n e, d ≠ .array n e) ∧ ∀ ms, d ≠ .interface ms := by
      rcases ekOf_one hf with ⟨_, k, hk⟩ | ⟨_, hk⟩ | ⟨_, hk⟩ <;> exact ⟨_, hk, by simp, by simp, by simp⟩
    obtain ⟨d, hd, h1, h2, h3⟩ := hu
    rw [show (10000 : Nat) = 9999 + 1 from rfl, Instr.checkKey]
    simp only [Sem.run_bind, run_underlying hd, Result.andThen_ok]
    cases d <;> first | rfl | (exact (h1 _ rfl).elim) | (exact (h2 _ _ rfl).elim) | (exact (h3 _ rfl).elim)
  · unfold keyOk at hb
    split at hb
    · rename_i hk; cases hk
    · rename_i fs' cs hk
      cases hk
      obtain ⟨xs, rfl, hxs⟩ := hx.agg_inv
      have hlen : cs.length = fs.length := by simpa using hb
      have := checkFlat_run (w := w) em 8 hfs (xs := xs) (by rw [← hxs.length, hlen]) 9992
      simp only [ofCells, hl] at this
      exact this
    · cases hb

theorem run_eqKey {t : TypeId} {k : EK} (h : keyOf P t = some k) {v u : AV} {b : Bool} (hb : eqKey k v u = some b) {x y : Value} {μ' : Mu} (hx : RV w σ μ v x) (hy : RV w σ μ' u y) :
    (Op.equal t x y).run P w = .ok b w ∧ ((∃ f, k = .one f) → ∀ d, P.underlying t = some d → Instr.sameNow d x y = some b) := by
  rcases keyOf_cases h with ⟨f, rfl, hf⟩ | ⟨fs, l, rfl, hl, hfs⟩
  · have h2 := ekOf_one hf
    simp only [eqKey] at hb
    unfold eqCell at hb
    split at hb
    · rename_i j p k q _
      split at hb
      · rename_i hjk
        subst hjk
        cases hb
        rw [hx.int_inv, hy.int_inv]
        rcases h2 with ⟨_, k, hk⟩ | ⟨hf, _⟩ | ⟨hf, _⟩
        · exact ⟨run_equalIn_int w 9999 t _ k _ _ hk, fun _ d hd => by rw [hk] at hd; cases hd; simp [Instr.sameNow]⟩
        · cases hf
        · cases hf
      · cases hb
    · cases hb
      rw [hx.str_inv, hy.str_inv]
      rcases h2 with ⟨hf, _⟩ | ⟨_, hk⟩ | ⟨hf, _⟩
      · cases hf
      · refine ⟨(run_equalIn_string w 9999 t _ _ hk).trans (by simp), fun _ d hd => ?_⟩
        rw [hk] at hd; cases hd
        simp only [Instr.sameNow, beq_toListBytes, ByteArray.toList_mk]
      · cases hf
    · cases hb
      rw [hx.bool_inv, hy.bool_inv]
      rcases h2 with ⟨hf, _⟩ | ⟨hf, _⟩ | ⟨_, hk⟩
      · cases hf
      · cases hf
      · exact ⟨run_equalIn_bool w 9999 t _ _ hk, fun _ d hd => by rw [hk] at hd; cases hd; simp [Instr.sameNow]⟩
    · cases hb
  · unfold eqKey at hb
    split at hb
    · rename_i hk; cases hk
    · rename_i cs ds hk
      cases hk
      obtain ⟨xs, rfl, hxs⟩ := hx.agg_inv
      obtain ⟨ys, rfl, hys⟩ := hy.agg_inv
      refine ⟨?_, fun ⟨f, hf⟩ => by cases hf⟩
      have := eqFlat_run 8 hfs hxs hys hb 9992
      simp only [ofCells, hl] at this
      exact this
    · cases hb

/-- What looking a key up comes to: where it stands, if it is there. -/
structure Found (w : World) (σ : Nat → Prop) (μ' : Mu) (k : EK) (v : AV) (ks : List AV) (en : List MapEntry) (res : Option AV) (z : Option (Nat × Value)) : Prop where
  val : match res, z with
    | none, none => True
    | some u, some p => RV w σ μ' u p.2 ∧ ∃ e : MapEntry, en[p.1]? = some e ∧ e.val = p.2
    | _, _ => False
  no : z = none → ∀ (j : Nat) (u : AV), ks[j]? = some u → eqKey k v u = some false
  yes : ∀ p : Nat × Value, z = some p → ∃ u, ks[p.1]? = some u ∧ eqKey k v u = some true ∧ ∀ (j : Nat) (u' : AV), j < p.1 → ks[j]? = some u' → eqKey k v u' = some false

def shiftBy (z : Option (Nat × Value)) (i : Nat) : Option (Nat × Value) := z.map fun p => (p.1 + i, p.2)

/-- What looking a key up comes to, in a list of entries. -/
theorem run_findKey' {t : TypeId} {k : EK} (h : keyOf P t = some k) {v : AV} {x : Value} (hx : RV w σ μ v x) {μ' : Mu} : ∀ {ks vs : List AV} {en : List MapEntry} {res : Option AV}, find k v ks vs = some res →
    RVs w σ μ' ks (en.map (·.key)) → RVs w σ μ' vs (en.map (·.val)) →
    ∃ z : Option (Nat × Value), (∀ i, (Instr.findAsking t x en i).run P w = .ok (shiftBy z i) w) ∧ ((∃ f, k = .one f) → ∀ d, P.underlying t = some d → ∀ i, Instr.findNow d x en i = some (shiftBy z i)) ∧
      Found w σ μ' k v ks en res z
  | [], [], en, res, hf, hk, hv => by
    cases en with
    | nil =>
      simp [find] at hf; subst hf
      exact ⟨none, fun i => by simp [Instr.findAsking, shiftBy], fun _ d _ i => by simp [Instr.findNow, shiftBy], trivial, fun _ j u hu => by simp at hu, fun p hp => by cases hp⟩
    | cons e en => cases hk
  | [], _ :: _, en, res, hf, hk, hv => by simp [find] at hf
  | _ :: _, [], en, res, hf, hk, hv => by simp [find] at hf
  | j :: ks, u :: vs, [], res, hf, hk, hv => by cases hk
  | j :: ks, u :: vs, e :: en, res, hf, hk, hv => by
    cases hk with
    | cons _ _ _ _ _ hk1 hk2 =>
      cases hv with
      | cons _ _ _ _ _ hv1 hv2 =>
        simp only [find] at hf
        split at hf
        · rename_i hb
          cases hf
          obtain ⟨g1, g2⟩ := run_eqKey h hb hx hk1
          exact ⟨some (0, e.val), fun i => by simp [Instr.findAsking, g1, shiftBy], fun hone d hd i => by simp [Instr.findNow, g2 hone d hd, shiftBy], ⟨hv1, e, by simp, rfl⟩, (fun hz => by cases hz),
            (fun p hp => by cases hp; exact ⟨j, by simp, hb, fun _ _ hlt => by simp at hlt⟩)⟩
        · rename_i hb
          obtain ⟨g1, g2⟩ := run_eqKey h hb hx hk1
          obtain ⟨z, z1, z2, z3, z4, z5⟩ := run_findKey' h hx hf hk2 hv2
          refine ⟨shiftBy z 1, ?_, ?_, ?_, ?_, ?_⟩
          · intro i
            simp only [Instr.findAsking, Sem.run_bind, g1, Result.andThen_ok, Bool.false_eq_true, if_false, z1 (i + 1)]
            cases z <;> simp [shiftBy, Nat.add_assoc, Nat.add_comm 1 i]
          · intro hone d hd i
            simp only [Instr.findNow, g2 hone d hd, z2 hone d hd (i + 1)]
            cases z <;> simp [shiftBy, Nat.add_assoc, Nat.add_comm 1 i]
          · cases res <;> cases z <;> simp_all [shiftBy]
          · intro hz q u' hq
            cases q with
            | zero => simp at hq; subst hq; exact hb
            | succ q => simp at hq; exact z4 (by cases z <;> simp_all [shiftBy]) q u' hq
          · intro p hp
            cases z with
            | none => cases hp
            | some p0 =>
              cases hp
              obtain ⟨u', h1, h2, h3⟩ := z5 p0 rfl
              refine ⟨u', by simpa using h1, h2, fun q u'' hq hu => ?_⟩
              cases q with
              | zero => simp at hu; subst hu; exact hb
              | succ q => simp at hu hq; exact h3 q u'' hq hu
        · cases hf

theorem run_findKeyAV {t : TypeId} {k : EK} (h : keyOf P t = some k) {v : AV} {x : Value} (hx : RV w σ μ v x) {μ' : Mu} {ks vs : List AV} {en : List MapEntry} {res : Option AV} (hf : find k v ks vs = some res)
    (hk : RVs w σ μ' ks (en.map (·.key))) (hv : RVs w σ μ' vs (en.map (·.val))) :
    ∃ z, (Instr.findKey t x en).run P w = .ok z w ∧ Found w σ μ' k v ks en res z := by
  obtain ⟨z, z1, z2, z3⟩ := run_findKey' h hx hf hk hv
  refine ⟨z, ?_, z3⟩
  have hz : shiftBy z 0 = z := by cases z <;> simp [shiftBy]
  rcases keyOf_cases h with ⟨f, rfl, hf'⟩ | ⟨fs, l, rfl, hl, hfs⟩
  · have hu : ∃ d, P.underlying t = some d := by
      rcases ekOf_one hf' with ⟨_, k, hk⟩ | ⟨_, hk⟩ | ⟨_, hk⟩ <;> exact ⟨_, hk⟩
    obtain ⟨d, hd⟩ := hu
    have := z2 ⟨f, rfl⟩ d hd 0
    rw [hz] at this
    simp [Instr.findKey, run_underlying hd, this]
  · rw [run_findKey_eq w (by simp [hl])]
    have := z1 0
    rwa [hz] at this

theorem ok_lookup {t : TypeId} {m k : Operand} {okk own : Bool} {xo : XOp} (hc : compOp P G own (.lookup t m k okk) = some xo) (hx : xop X C xo e H = some r) (hr : HR G B σ μ H w) (he : ER σ μ e w a) :
    OpOK P (.lookup t m k okk) o a w (Post G B σ μ w r) := by
  simp only [compOp] at hc
  split at hc
  · rename_i kt el hu
    simp only [Option.bind_eq_some_iff, Option.map_eq_some_iff] at hc
    obtain ⟨ek, hek, inf, hinf, z, hz, zv, hzv, m', hm', k', hk', rfl⟩ := hc
    have h1 := RV.arg hr he hm'
    have h2 := RV.arg hr he hk'
    simp only [xop, Option.map_eq_some_iff] at hx
    obtain ⟨v, hv, rfl⟩ := hx
    unfold lookupAV at hv
    split at hv
    · cases hv
    · rename_i hok
      simp only [Bool.not_eq_true', Bool.not_eq_false] at hok
      rw [Option.map_eq_some_iff] at hv
      obtain ⟨res, hres, rfl⟩ := hv
      have hzr : RV w σ μ zv z := RV.ofValue hzv
      have hzero : (zeroValue el).run P w = .ok z w := by simp [zeroValue, typeInfo, hinf, hz]
      have hck : ∀ em, (Instr.checkKey em 10000 kt (a.eval k)).run P w = .ok () w := fun em => run_checkKeyAV hek hok h2 em
      -- what stands in the map
      have fin : ∀ (en : Array MapEntry) (q : Option (Nat × Value)), ((a.eval m = .map none ∧ en = #[]) ∨ ∃ rb clock, a.eval m = .map (some rb) ∧ w.heap[rb]? = some (.map en clock)) →
            (Instr.findKey kt (a.eval k) en.toList).run P w = .ok q w →
            (res = none ∧ q = none ∨ ∃ u p, res = some u ∧ q = some p ∧ RV w σ μ u p.2) → OpOK P (.lookup t m k okk) o a w (Post G B σ μ w (if okk = true then .tuple [res.getD zv, .bool res.isSome] else res.getD zv, H)) := by
        intro en q hen hq hrel
        have hrun : ∃ y, (Instr.lookup t (a.eval m) (a.eval k) okk).run P w = .ok (if okk then .tuple #[y, .bool res.isSome] else y) w ∧ RV w σ μ (res.getD zv) y := by
          rcases hrel with ⟨rfl, rfl⟩ | ⟨u, p, rfl, rfl, hup⟩
          · refine ⟨z, ?_, hzr⟩
            rcases hen with ⟨hm0, rfl⟩ | ⟨rb, clock, hm0, hen⟩
            · have hq' : (Instr.findKey kt (a.eval k) []).run P w = .ok none w := hq
              simp [Instr.lookup, run_underlying hu, hm0, hck, hq', hzero]
            · simp [Instr.lookup, run_underlying hu, hm0, getMap hen, hck, hq, hzero]
          · refine ⟨p.2, ?_, hup⟩
            rcases hen with ⟨hm0, rfl⟩ | ⟨rb, clock, hm0, hen⟩
            · have hq' : (Instr.findKey kt (a.eval k) []).run P w = .ok (some p) w := hq
              simp [Instr.lookup, run_underlying hu, hm0, hck, hq']
            · simp [Instr.lookup, run_underlying hu, hm0, getMap hen, hck, hq]
        obtain ⟨y, hy, hyr⟩ := hrun
        cases okk with
        | true =>
          refine .quiet hr rfl (x := .tuple #[y, .bool res.isSome]) ?_ ?_
          · simp only [execOp, Sem.run_bind, hy]; simp
          · exact .tuple _ _ [y, .bool res.isSome] (.cons _ _ _ _ _ hyr (.cons _ _ _ _ _ (.bool _ _) (.nil _)))
        | false =>
          refine .quiet hr rfl (x := y) ?_ ?_
          · simp only [execOp, Sem.run_bind, hy]; simp
          · exact hyr
      have rel : ∀ {μ' : Mu} {ks : List AV} {en : List MapEntry} {q : Option (Nat × Value)}, Found w σ μ' ek (k'.ev e) ks en res q → (∀ b n, μ' b = some n → μ b = some n) →
          (res = none ∧ q = none ∨ ∃ u p, res = some u ∧ q = some p ∧ RV w σ μ u p.2) := by
        intro μ' ks en q hf hμ
        have := hf.val
        cases res with
        | none => cases q with
          | none => exact .inl ⟨rfl, rfl⟩
          | some p => exact this.elim
        | some u => cases q with
          | none => exact this.elim
          | some p => exact .inr ⟨u, p, rfl, rfl, this.1.mono (fun _ h => ⟨h, rfl⟩) hμ⟩
      split at hres
      · rename_i hp
        cases hres
        rw [hp] at h1
        obtain ⟨q, hq, hf⟩ := run_findKeyAV hek h2 (ks := []) (vs := []) (en := []) (res := none) (μ' := μ) (by simp [find]) (.nil _) (.nil _)
        exact fin #[] q (.inl ⟨h1.nilmap_inv, rfl⟩) hq (rel hf fun _ _ h => h)
      · rename_i ks vs hp
        rw [hp] at h1
        obtain ⟨rb, en, clock, h1', _, g1, g2, g3⟩ := h1.vmap_inv
        obtain ⟨q, hq, hf⟩ := run_findKeyAV hek h2 hres g2 g3
        exact fin en q (.inr ⟨rb, clock, h1', g1⟩) hq (rel hf fun _ _ h => by cases h)
      · rename_i b hp
        rw [hp] at h1
        obtain ⟨bm, h1', hbm⟩ := h1.map_inv
        split at hres
        · rename_i ks vs hb
          obtain ⟨en, clock, g1, g2, g3, _⟩ := hr.blk b _ bm hb hbm
          obtain ⟨q, hq, hf⟩ := run_findKeyAV hek h2 hres g2 g3
          exact fin en q (.inr ⟨bm.rb, clock, h1', g1⟩) hq (rel hf fun _ _ h => h)
        · cases hres
      · cases hres
  · cases hc
end
end X
end Go.Proofs.YtkaigfcjejabfaaGreatDoor
