/- How the engine's values and heap relate to the model's; that what is written out stays as it is. No condition. -/
import Derived.Test.YtkaigfcjejabfaaGreatDoorXA
import Derived.Laws.Sem
import Derived.Laws.World
namespace Go.Proofs.YtkaigfcjejabfaaGreatDoor
open Go
namespace X

/-- Where a block of the engine's heap lies: the model's block, from which cell on, how long an element is, how many there are, and how many cells the model's block has. -/
structure BM where
  rb : Nat
  ro : Nat
  sz : Nat
  n : Nat
  csz : Nat

abbrev Mu := Nat → Option BM
def noMu : Mu := fun _ => none

/-- A map's entries are told apart by when they came. -/
def Born (en : Array MapEntry) (clock : Nat) : Prop := (en.toList.map (·.born)).Nodup ∧ ∀ e ∈ en.toList, e.born < clock

mutual
/-- A value of the engine stands for one of the model: 'σ' are blocks that stay as they are. -/
inductive RV (w : World) (σ : Nat → Prop) : Mu → AV → Value → Prop
  | undef (μ v) : RV w σ μ .undef v
  | bool (μ b) : RV w σ μ (.bool b) (.bool b)
  | int (μ k n) : RV w σ μ (.int k n) (.int k n)
  | str (μ s) : RV w σ μ (.str s) (.string ⟨s.toArray⟩)
  | nilptr (μ) : RV w σ μ .nilptr (.pointer none)
  | nilslice (μ) : RV w σ μ .nilslice (.slice none 0 0)
  | nilmap (μ) : RV w σ μ .nilmap (.map none)
  | nilfunc (μ) : RV w σ μ .nilfunc .nilFunc
  | niliface (μ) : RV w σ μ .niliface .nilIface
  | ptr (μ : Mu) (b i off m) : μ b = some m → RV w σ μ (.ptr b i off) (.pointer (some ⟨m.rb, m.ro + i * m.sz + off, none⟩))
  | slice (μ : Mu) (b off len cap m) : μ b = some m → len ≤ cap → m.n ≤ off + cap → m.ro + (off + cap) * m.sz ≤ m.csz →
      RV w σ μ (.slice b off len) (.slice (some ⟨m.rb, m.ro + off * m.sz, none⟩) len cap)
  | map (μ : Mu) (b m) : μ b = some m → RV w σ μ (.map b) (.map (some m.rb))
  | iter (μ : Mu) (b m) : μ b = some m → RV w σ μ (.iter b) (.pointer (some ⟨m.rb, 0, none⟩))
  | vptr (μ cs rb off c ty fz vs) : σ rb → w.heap[rb]? = some (.cells c ty fz) → (∀ i, i < vs.length → c[off + i]? = vs[i]?) → RVs w σ noMu cs vs →
      RV w σ μ (.vptr cs) (.pointer (some ⟨rb, off, none⟩))
  | vslice0 (μ a cap) : RV w σ μ (.vslice []) (.slice a 0 cap)
  | vslice (μ es rb off c ty fz vs sz cap) : σ rb → w.heap[rb]? = some (.cells c ty fz) → (∀ i, i < vs.length → c[off + i]? = vs[i]?) →
      (∀ e ∈ es, e.cells.length = sz ∧ e.cells.all AV.storable = true) → RVs w σ noMu (es.flatMap AV.cells) vs → es.length ≤ cap →
      RV w σ μ (.vslice es) (.slice (some ⟨rb, off, none⟩) es.length cap)
  | vmap (μ ks vs rb en clock) : σ rb → w.heap[rb]? = some (.map en clock) → Born en clock → RVs w σ noMu ks (en.toList.map (·.key)) → RVs w σ noMu vs (en.toList.map (·.val)) →
      RV w σ μ (.vmap ks vs) (.map (some rb))
  | func (μ f cap xs) : RVs w σ μ cap xs → RV w σ μ (.func (.func f) cap) (.func (.func f) #[] xs.toArray)
  | iface (μ t v x) : RV w σ μ v x → RV w σ μ (.iface t v) (.iface t x)
  | agg (μ cs xs) : RVs w σ μ cs xs → RV w σ μ (.agg cs) (.agg xs.toArray)
  | tuple (μ cs xs) : RVs w σ μ cs xs → RV w σ μ (.tuple cs) (.tuple xs.toArray)
inductive RVs (w : World) (σ : Nat → Prop) : Mu → List AV → List Value → Prop
  | nil (μ) : RVs w σ μ [] []
  | cons (μ v x vs xs) : RV w σ μ v x → RVs w σ μ vs xs → RVs w σ μ (v :: vs) (x :: xs)
end

mutual
theorem RV.mono {w w' : World} {σ σ' : Nat → Prop} (hσ : ∀ b, σ b → σ' b ∧ w'.heap[b]? = w.heap[b]?) : ∀ {μ : Mu} {v : AV} {x : Value}, RV w σ μ v x → ∀ {μ' : Mu}, (∀ b m, μ b = some m → μ' b = some m) → RV w' σ' μ' v x
  | _, _, _, .undef _ _, _, _ => .undef _ _
  | _, _, _, .bool _ _, _, _ => .bool _ _
  | _, _, _, .int _ _ _, _, _ => .int _ _ _
  | _, _, _, .str _ _, _, _ => .str _ _
  | _, _, _, .nilptr _, _, _ => .nilptr _
  | _, _, _, .nilslice _, _, _ => .nilslice _
  | _, _, _, .nilmap _, _, _ => .nilmap _
  | _, _, _, .nilfunc _, _, _ => .nilfunc _
  | _, _, _, .niliface _, _, _ => .niliface _
  | _, _, _, .ptr _ _ _ _ _ h, _, hμ => .ptr _ _ _ _ _ (hμ _ _ h)
  | _, _, _, .slice _ _ _ _ _ _ h h1 h2 h3, _, hμ => .slice _ _ _ _ _ _ (hμ _ _ h) h1 h2 h3
  | _, _, _, .map _ _ _ h, _, hμ => .map _ _ _ (hμ _ _ h)
  | _, _, _, .iter _ _ _ h, _, hμ => .iter _ _ _ (hμ _ _ h)
  | _, _, _, .vptr _ _ _ _ _ _ _ _ h1 h2 h3 h4, _, _ => .vptr _ _ _ _ _ _ _ _ (hσ _ h1).1 ((hσ _ h1).2.trans h2) h3 (RVs.mono hσ h4 fun _ _ h => h)
  | _, _, _, .vslice0 _ _ _, _, _ => .vslice0 _ _ _
  | _, _, _, .vslice _ _ _ _ _ _ _ _ _ _ h1 h2 h3 h4 h5 h6, _, _ => .vslice _ _ _ _ _ _ _ _ _ _ (hσ _ h1).1 ((hσ _ h1).2.trans h2) h3 h4 (RVs.mono hσ h5 fun _ _ h => h) h6
  | _, _, _, .vmap _ _ _ _ _ _ h1 h2 hb h3 h4, _, _ => .vmap _ _ _ _ _ _ (hσ _ h1).1 ((hσ _ h1).2.trans h2) hb (RVs.mono hσ h3 fun _ _ h => h) (RVs.mono hσ h4 fun _ _ h => h)
  | _, _, _, .func _ _ _ _ h, _, hμ => .func _ _ _ _ (RVs.mono hσ h hμ)
  | _, _, _, .iface _ _ _ _ h, _, hμ => .iface _ _ _ _ (RV.mono hσ h hμ)
  | _, _, _, .agg _ _ _ h, _, hμ => .agg _ _ _ (RVs.mono hσ h hμ)
  | _, _, _, .tuple _ _ _ h, _, hμ => .tuple _ _ _ (RVs.mono hσ h hμ)
theorem RVs.mono {w w' : World} {σ σ' : Nat → Prop} (hσ : ∀ b, σ b → σ' b ∧ w'.heap[b]? = w.heap[b]?) : ∀ {μ : Mu} {vs : List AV} {xs : List Value}, RVs w σ μ vs xs → ∀ {μ' : Mu}, (∀ b m, μ b = some m → μ' b = some m) → RVs w' σ' μ' vs xs
  | _, _, _, .nil _, _, _ => .nil _
  | _, _, _, .cons _ _ _ _ _ h hs, _, hμ => .cons _ _ _ _ _ (RV.mono hσ h hμ) (RVs.mono hσ hs hμ)
end

section inv
variable {w : World} {σ : Nat → Prop} {μ : Mu} {x : Value}

theorem RV.slice_inv {b off len : Nat} (h : RV w σ μ (.slice b off len) x) : ∃ cap m, x = .slice (some ⟨m.rb, m.ro + off * m.sz, none⟩) len cap ∧ μ b = some m ∧ len ≤ cap ∧ m.n ≤ off + cap ∧ m.ro + (off + cap) * m.sz ≤ m.csz := by
  cases h with | slice _ _ _ _ cap m h1 h2 h3 h4 => exact ⟨cap, m, rfl, h1, h2, h3, h4⟩

theorem RV.ptr_inv {b i off : Nat} (h : RV w σ μ (.ptr b i off) x) : ∃ m, x = .pointer (some ⟨m.rb, m.ro + i * m.sz + off, none⟩) ∧ μ b = some m := by
  cases h with | ptr _ _ _ _ m h1 => exact ⟨m, rfl, h1⟩

theorem RV.map_inv {b : Nat} (h : RV w σ μ (.map b) x) : ∃ m, x = .map (some m.rb) ∧ μ b = some m := by
  cases h with | map _ _ m h1 => exact ⟨m, rfl, h1⟩

theorem RV.vptr_inv {cs : List AV} (h : RV w σ μ (.vptr cs) x) : ∃ rb off c ty fz vs, x = .pointer (some ⟨rb, off, none⟩) ∧ σ rb ∧ w.heap[rb]? = some (.cells c ty fz) ∧
    (∀ i, i < vs.length → c[off + i]? = vs[i]?) ∧ RVs w σ noMu cs vs := by
  cases h with | vptr _ _ rb off c ty fz vs h1 h2 h3 h4 => exact ⟨rb, off, c, ty, fz, vs, rfl, h1, h2, h3, h4⟩

theorem RV.vslice_inv {es : List AV} (h : RV w σ μ (.vslice es) x) : (es = [] ∧ ∃ a cap, x = .slice a 0 cap) ∨ ∃ rb off c ty fz vs sz cap, x = .slice (some ⟨rb, off, none⟩) es.length cap ∧ σ rb ∧
    w.heap[rb]? = some (.cells c ty fz) ∧ (∀ i, i < vs.length → c[off + i]? = vs[i]?) ∧ (∀ e ∈ es, e.cells.length = sz ∧ e.cells.all AV.storable = true) ∧ RVs w σ noMu (es.flatMap AV.cells) vs ∧ es.length ≤ cap := by
  cases h with
  | vslice0 _ a cap => exact .inl ⟨rfl, a, cap, rfl⟩
  | vslice _ _ rb off c ty fz vs sz cap h1 h2 h3 h4 h5 h6 => exact .inr ⟨rb, off, c, ty, fz, vs, sz, cap, rfl, h1, h2, h3, h4, h5, h6⟩

theorem RV.vmap_inv {ks vs : List AV} (h : RV w σ μ (.vmap ks vs) x) : ∃ rb en clock, x = .map (some rb) ∧ σ rb ∧ w.heap[rb]? = some (.map en clock) ∧
    RVs w σ noMu ks (en.toList.map (·.key)) ∧ RVs w σ noMu vs (en.toList.map (·.val)) := by
  cases h with | vmap _ _ _ rb en clock h1 h2 hb h3 h4 => exact ⟨rb, en, clock, rfl, h1, h2, h3, h4⟩

theorem RV.vmap_born {ks vs : List AV} (h : RV w σ μ (.vmap ks vs) x) : ∃ rb en clock, x = .map (some rb) ∧ σ rb ∧ w.heap[rb]? = some (.map en clock) ∧ Born en clock ∧
    RVs w σ noMu ks (en.toList.map (·.key)) ∧ RVs w σ noMu vs (en.toList.map (·.val)) := by
  cases h with | vmap _ _ _ rb en clock h1 h2 hb h3 h4 => exact ⟨rb, en, clock, rfl, h1, h2, hb, h3, h4⟩

theorem RV.int_inv {k : IntKind} {n : Int} (h : RV w σ μ (.int k n) x) : x = .int k n := by cases h; rfl
theorem RV.str_inv {s : List UInt8} (h : RV w σ μ (.str s) x) : x = .string ⟨s.toArray⟩ := by cases h; rfl
theorem RV.bool_inv {b : Bool} (h : RV w σ μ (.bool b) x) : x = .bool b := by cases h; rfl
theorem RV.nilslice_inv (h : RV w σ μ .nilslice x) : x = .slice none 0 0 := by cases h; rfl
theorem RV.nilmap_inv (h : RV w σ μ .nilmap x) : x = .map none := by cases h; rfl
theorem RV.nilptr_inv (h : RV w σ μ .nilptr x) : x = .pointer none := by cases h; rfl
theorem RV.agg_inv {cs : List AV} (h : RV w σ μ (.agg cs) x) : ∃ xs, x = .agg xs.toArray ∧ RVs w σ μ cs xs := by cases h with | agg _ _ xs h => exact ⟨xs, rfl, h⟩
theorem RV.tuple_inv {cs : List AV} (h : RV w σ μ (.tuple cs) x) : ∃ xs, x = .tuple xs.toArray ∧ RVs w σ μ cs xs := by cases h with | tuple _ _ xs h => exact ⟨xs, rfl, h⟩
theorem RV.func_inv {fn : Fn} {cs : List AV} (h : RV w σ μ (.func fn cs) x) : ∃ f xs, fn = .func f ∧ x = .func (.func f) #[] xs.toArray ∧ RVs w σ μ cs xs := by
  cases h with | func _ f _ xs h => exact ⟨f, xs, rfl, rfl, h⟩
theorem RV.iface_inv {t : Nat} {v : AV} (h : RV w σ μ (.iface t v) x) : ∃ y, x = .iface t y ∧ RV w σ μ v y := by cases h with | iface _ _ _ y h => exact ⟨y, rfl, h⟩
end inv

section lists
variable {w : World} {σ : Nat → Prop} {μ : Mu}

theorem RVs.length {vs : List AV} {xs : List Value} (h : RVs w σ μ vs xs) : vs.length = xs.length := by
  induction vs generalizing xs with
  | nil => cases h; rfl
  | cons v vs ih => cases h with | cons _ _ _ _ _ h hs => simp [ih hs]

theorem RVs.get {vs : List AV} {xs : List Value} (h : RVs w σ μ vs xs) {i : Nat} {v : AV} (hi : vs[i]? = some v) : ∃ x, xs[i]? = some x ∧ RV w σ μ v x := by
  induction vs generalizing xs i with
  | nil => simp at hi
  | cons u us ih =>
    cases h with
    | cons _ _ x _ xs h hs =>
      cases i with
      | zero => simp at hi; subst hi; exact ⟨x, by simp, h⟩
      | succ i => simp at hi; obtain ⟨y, hy, r⟩ := ih hs hi; exact ⟨y, by simpa using hy, r⟩

theorem RVs.of_get {vs : List AV} {xs : List Value} (hl : vs.length = xs.length) (h : ∀ (i : Nat) (v : AV) (x : Value), vs[i]? = some v → xs[i]? = some x → RV w σ μ v x) : RVs w σ μ vs xs := by
  induction vs generalizing xs with
  | nil => cases xs with | nil => exact .nil _ | cons => simp at hl
  | cons v vs ih =>
    cases xs with
    | nil => simp at hl
    | cons x xs =>
      exact .cons _ _ _ _ _ (h 0 v x (by simp) (by simp)) (ih (by simpa using hl) fun i v x h1 h2 => h (i + 1) v x (by simpa using h1) (by simpa using h2))

theorem RVs.append {vs us : List AV} {xs ys : List Value} (h : RVs w σ μ vs xs) (h' : RVs w σ μ us ys) : RVs w σ μ (vs ++ us) (xs ++ ys) := by
  induction vs generalizing xs with
  | nil => cases h; exact h'
  | cons v vs ih => cases h with | cons _ _ _ _ _ h hs => exact .cons _ _ _ _ _ h (ih hs)

theorem RVs.take {vs : List AV} {xs : List Value} (h : RVs w σ μ vs xs) (n : Nat) : RVs w σ μ (vs.take n) (xs.take n) := by
  induction vs generalizing xs n with
  | nil => cases h; simpa using RVs.nil μ
  | cons v vs ih =>
    cases h with
    | cons _ _ _ _ _ h hs =>
      cases n with
      | zero => simpa using RVs.nil μ
      | succ n => exact .cons _ _ _ _ _ h (ih hs n)

theorem RVs.drop {vs : List AV} {xs : List Value} (h : RVs w σ μ vs xs) (n : Nat) : RVs w σ μ (vs.drop n) (xs.drop n) := by
  induction vs generalizing xs n with
  | nil => cases h; simpa using RVs.nil μ
  | cons v vs ih =>
    cases h with
    | cons _ _ _ _ _ h hs =>
      cases n with
      | zero => exact .cons _ _ _ _ _ h hs
      | succ n => exact ih hs n

theorem RVs.split {vs us : List AV} {xs : List Value} (h : RVs w σ μ (vs ++ us) xs) : RVs w σ μ vs (xs.take vs.length) ∧ RVs w σ μ us (xs.drop vs.length) := by
  have h1 := h.take vs.length
  have h2 := h.drop vs.length
  simp at h1 h2
  exact ⟨h1, h2⟩

/-- A value that is not left open has as many cells as what it stands for, and each stands for its own. -/
theorem RV.cellsOf {v : AV} {x : Value} (h : RV w σ μ v x) (hv : v.cells.all AV.storable = true) : RVs w σ μ v.cells x.cells.toList := by
  cases h <;> first
    | (simp [AV.cells, AV.storable] at hv; done)
    | (simp only [AV.cells, Value.cells]; exact .cons _ _ _ _ _ (by constructor <;> assumption) (.nil _))
    | (simpa [AV.cells, Value.cells] using ‹RVs w σ μ _ _›)

/-- What stands in a cell for a storable value fits into one cell. -/
theorem RV.oneCell {v : AV} {x : Value} (h : RV w σ μ v x) (hv : v.storable = true) : x.oneCell' = true := by
  cases h <;> first
    | rfl
    | simp [AV.storable] at hv

end lists

/-- How a block of the engine's heap stands in the model's. -/
def BR (w : World) (σ : Nat → Prop) (μ : Mu) (m : BM) : Blk → Prop
  | .arr sz es => m.sz = sz ∧ m.n = es.length ∧ (∀ e ∈ es, e.cells.length = sz ∧ e.cells.all AV.storable = true) ∧ m.ro + m.n * m.sz ≤ m.csz ∧
      ∃ c ty, w.heap[m.rb]? = some (.cells c ty (0, 0)) ∧ c.size = m.csz ∧ ∃ vs, RVs w σ μ (es.flatMap AV.cells) vs ∧ ∀ i, i < vs.length → c[m.ro + i]? = vs[i]?
  | .map ks vs => ∃ en clock, w.heap[m.rb]? = some (.map en clock) ∧ RVs w σ μ ks (en.toList.map (·.key)) ∧ RVs w σ μ vs (en.toList.map (·.val)) ∧ Born en clock
  | .dead => True

def Blk.alive : Blk → Prop
  | .dead => False
  | _ => True

/-- The heaps relate: 'B': below it lie blocks that are none of this run's. -/
structure HR (G : Nat → Option AV) (B : Nat) (σ : Nat → Prop) (μ : Mu) (H : Heap) (w : World) : Prop where
  dom : ∀ b m, μ b = some m → b < H.length
  has : ∀ b, b < H.length → ∃ m, μ b = some m
  st : ∀ b, σ b → b < w.heap.size
  base : B ≤ w.heap.size
  glob : ∀ g v, G g = some v → RV w σ noMu v (.pointer (some ⟨g, 0, none⟩))
  blk : ∀ b k m, H[b]? = some k → μ b = some m → BR w σ μ m k
  own : ∀ b k m, H[b]? = some k → k.alive → μ b = some m → B ≤ m.rb ∧ m.rb < w.heap.size ∧ ¬ σ m.rb
  inj : ∀ b b' k k' m m', H[b]? = some k → k.alive → H[b']? = some k' → k'.alive → μ b = some m → μ b' = some m' → m.rb = m'.rb → b = b'

/-- Nothing written out, nothing asked of the machine. -/
structure Same (w w' : World) : Prop where
  os : w'.os = w.os
  tape : w'.tape = w.tape
  output : w'.output = w.output

theorem Same.refl (w : World) : Same w w := ⟨rfl, rfl, rfl⟩
theorem Same.trans {w w' w'' : World} (h : Same w w') (h' : Same w' w'') : Same w w'' := ⟨h'.os.trans h.os, h'.tape.trans h.tape, h'.output.trans h.output⟩

/-- From one state of a run to a later one. -/
structure Step (B : Nat) (σ : Nat → Prop) (μ : Mu) (w : World) (σ' : Nat → Prop) (μ' : Mu) (w' : World) : Prop where
  sub : ∀ b, σ b → σ' b ∧ w'.heap[b]? = w.heap[b]?
  mu : ∀ b m, μ b = some m → μ' b = some m
  old : ∀ b, b < B → w'.heap[b]? = w.heap[b]?
  size : w.heap.size ≤ w'.heap.size
  new : ∀ b, σ' b → σ b ∨ B ≤ b
  out : Same w w'

theorem Step.refl (B : Nat) (σ : Nat → Prop) (μ : Mu) (w : World) : Step B σ μ w σ μ w := ⟨fun _ h => ⟨h, rfl⟩, fun _ _ h => h, fun _ _ => rfl, Nat.le_refl _, fun _ h => .inl h, Same.refl w⟩

theorem Step.trans {B : Nat} {σ σ' σ'' : Nat → Prop} {μ μ' μ'' : Mu} {w w' w'' : World} (h : Step B σ μ w σ' μ' w') (h' : Step B σ' μ' w' σ'' μ'' w'') : Step B σ μ w σ'' μ'' w'' :=
  ⟨fun b hb => ⟨(h'.sub b (h.sub b hb).1).1, (h'.sub b (h.sub b hb).1).2.trans (h.sub b hb).2⟩, fun b m hb => h'.mu b m (h.mu b m hb),
    fun b hb => (h'.old b hb).trans (h.old b hb), Nat.le_trans h.size h'.size, fun b hb => (h'.new b hb).elim (fun h1 => h.new b h1) .inr, h.out.trans h'.out⟩

theorem RV.step {B : Nat} {σ σ' : Nat → Prop} {μ μ' : Mu} {w w' : World} {v : AV} {x : Value} (h : RV w σ μ v x) (s : Step B σ μ w σ' μ' w') : RV w' σ' μ' v x := h.mono s.sub s.mu
theorem RVs.step {B : Nat} {σ σ' : Nat → Prop} {μ μ' : Mu} {w w' : World} {v : List AV} {x : List Value} (h : RVs w σ μ v x) (s : Step B σ μ w σ' μ' w') : RVs w' σ' μ' v x := h.mono s.sub s.mu

/-- The registers relate. -/
def ER (σ : Nat → Prop) (μ : Mu) (e : Env) (w : World) (a : Act) : Prop := ∀ t, RV w σ μ (e t) (a.tmps.getD t undef)

theorem ER.step {B : Nat} {σ σ' : Nat → Prop} {μ μ' : Mu} {e : Env} {w w' : World} {a : Act} (h : ER σ μ e w a) (s : Step B σ μ w σ' μ' w') : ER σ' μ' e w' a := fun t => (h t).step s


theorem BR.mono {w w' : World} {σ σ' : Nat → Prop} {μ μ' : Mu} {m : BM} {k : Blk} (h : BR w σ μ m k) (hσ : ∀ b, σ b → σ' b ∧ w'.heap[b]? = w.heap[b]?)
    (hμ : ∀ b m, μ b = some m → μ' b = some m) (hb : k.alive → w'.heap[m.rb]? = w.heap[m.rb]?) : BR w' σ' μ' m k := by
  cases k with
  | dead => trivial
  | arr sz es =>
    obtain ⟨h1, h2, h3, h4, c, ty, h5, h6, vs, h7, h8⟩ := h
    exact ⟨h1, h2, h3, h4, c, ty, (hb trivial).trans h5, h6, vs, h7.mono hσ hμ, h8⟩
  | map ks vs =>
    obtain ⟨en, clock, h1, h2, h3⟩ := h
    exact ⟨en, clock, (hb trivial).trans h1, h2.mono hσ hμ, h3.1.mono hσ hμ, h3.2⟩

def Mu.put (μ : Mu) (b : Nat) (m : BM) : Mu := fun x => if x = b then some m else μ x

section upd
variable {G : Nat → Option AV} {B : Nat} {σ : Nat → Prop} {μ : Mu} {H : Heap} {w w' : World}

/-- Draws and the like: the model's blocks are as they were. -/
theorem HR.same (h : HR G B σ μ H w) (hw : w'.heap = w.heap) (ho : Same w w' := by exact ⟨rfl, rfl, rfl⟩) : HR G B σ μ H w' ∧ Step B σ μ w σ μ w' := by
  have hs : ∀ b, σ b → σ b ∧ w'.heap[b]? = w.heap[b]? := fun b hb => ⟨hb, by rw [hw]⟩
  refine ⟨⟨h.dom, h.has, fun b hb => by rw [hw]; exact h.st b hb, by rw [hw]; exact h.base, fun g v hg => (h.glob g v hg).mono hs (fun _ _ h => h),
    fun b k m hk hm => (h.blk b k m hk hm).mono hs (fun _ _ h => h) fun _ => by rw [hw], fun b k m hk ha hm => by rw [hw]; exact h.own b k m hk ha hm, h.inj⟩,
    ⟨hs, fun _ _ h => h, fun _ _ => by rw [hw], by rw [hw]; exact Nat.le_refl _, fun _ h => .inl h, ho⟩⟩

/-- The model makes blocks that are none of the engine's. -/
theorem HR.more (h : HR G B σ μ H w) (hn : w.heap.size ≤ w'.heap.size) (hw : ∀ r, r < w.heap.size → w'.heap[r]? = w.heap[r]?) {σ' : Nat → Prop}
    (h1 : ∀ b, σ b → σ' b) (h2 : ∀ b, σ' b → σ b ∨ (w.heap.size ≤ b ∧ b < w'.heap.size)) (ho : Same w w' := by exact ⟨rfl, rfl, rfl⟩) : HR G B σ' μ H w' ∧ Step B σ μ w σ' μ w' := by
  have hs : ∀ b, σ b → σ' b ∧ w'.heap[b]? = w.heap[b]? := fun b hb => ⟨h1 b hb, hw b (h.st b hb)⟩
  refine ⟨⟨h.dom, h.has, fun b hb => ?_, Nat.le_trans h.base hn, fun g v hg => (h.glob g v hg).mono hs (fun _ _ h => h),
    fun b k m hk hm => (h.blk b k m hk hm).mono hs (fun _ _ h => h) fun ha => hw _ (h.own b k m hk ha hm).2.1, fun b k m hk ha hm => ?_, h.inj⟩,
    ⟨hs, fun _ _ h => h, fun b hb => hw b (Nat.lt_of_lt_of_le hb h.base), hn, fun b hb => (h2 b hb).imp id fun h3 => Nat.le_trans h.base h3.1, ho⟩⟩
  · rcases h2 b hb with h3 | h3
    · exact Nat.lt_of_lt_of_le (h.st b h3) hn
    · exact h3.2
  · obtain ⟨a1, a2, a3⟩ := h.own b k m hk ha hm
    refine ⟨a1, Nat.lt_of_lt_of_le a2 hn, fun hc => ?_⟩
    rcases h2 _ hc with h3 | h3
    · exact a3 h3
    · omega

/-- A block is changed in its place. -/
theorem HR.upd (h : HR G B σ μ H w) {b : Nat} {k k' : Blk} {m : BM} (hb : H[b]? = some k) (ha : k.alive) (hm : μ b = some m) (hn : w'.heap.size = w.heap.size)
    (hw : ∀ r, r ≠ m.rb → w'.heap[r]? = w.heap[r]?) (hk : (∀ b, σ b → σ b ∧ w'.heap[b]? = w.heap[b]?) → BR w' σ μ m k') (ho : Same w w' := by exact ⟨rfl, rfl, rfl⟩) : HR G B σ μ (H.set b k') w' ∧ Step B σ μ w σ μ w' := by
  have hown := h.own b k m hb ha hm
  have hlt : b < H.length := h.dom b m hm
  have hs : ∀ b, σ b → σ b ∧ w'.heap[b]? = w.heap[b]? := fun c hc => ⟨hc, hw c fun e => hown.2.2 (e ▸ hc)⟩
  have look : ∀ (c : Nat) (j : Blk), (H.set b k')[c]? = some j → (c = b ∧ j = k') ∨ (c ≠ b ∧ H[c]? = some j) := by
    intro c j hc
    by_cases e : c = b
    · subst e; simp [hlt] at hc; exact .inl ⟨rfl, hc.symm⟩
    · rw [List.getElem?_set_ne (fun e' => e e'.symm)] at hc; exact .inr ⟨e, hc⟩
  refine ⟨⟨fun c n hc => by simpa using h.dom c n hc, fun c hc => h.has c (by simpa using hc), fun c hc => by rw [hn]; exact h.st c hc, by rw [hn]; exact h.base,
    fun g v hg => (h.glob g v hg).mono hs (fun _ _ h => h), ?_, ?_, ?_⟩, ⟨hs, fun _ _ h => h, fun c hc => hw c fun e => by omega, by omega, fun _ h => .inl h, ho⟩⟩
  · intro c j n hc hcn
    rcases look c j hc with ⟨rfl, rfl⟩ | ⟨hne, hc⟩
    · rw [hm] at hcn; injection hcn with hcn; subst hcn; exact hk hs
    · exact (h.blk c j n hc hcn).mono hs (fun _ _ h => h) fun hj => hw _ fun e => hne (h.inj c b j k n m hc hj hb ha hcn hm e)
  · intro c j n hc hj hcn
    rcases look c j hc with ⟨rfl, rfl⟩ | ⟨hne, hc⟩
    · rw [hm] at hcn; injection hcn with hcn; subst hcn; rw [hn]; exact hown
    · rw [hn]; exact h.own c j n hc hj hcn
  · intro c c' j j' n n' hc hj hc' hj' hcn hcn' e
    rcases look c j hc with ⟨e1, _⟩ | ⟨_, p1⟩ <;> rcases look c' j' hc' with ⟨e2, _⟩ | ⟨_, p2⟩
    · exact e1.trans e2.symm
    · subst e1; exact h.inj _ _ k j' n n' hb ha p2 hj' hcn hcn' e
    · subst e2; exact h.inj _ _ j k n n' p1 hj hb ha hcn hcn' e
    · exact h.inj _ _ j j' n n' p1 hj p2 hj' hcn hcn' e

/-- A block is given up. -/
theorem HR.kill (h : HR G B σ μ H w) (b : Nat) : HR G B σ μ (H.set b .dead) w := by
  have look : ∀ (c : Nat) (j : Blk), (H.set b .dead)[c]? = some j → j.alive → H[c]? = some j := by
    intro c j hc hj
    by_cases e : c = b
    · subst e
      by_cases hl : c < H.length
      · simp [hl] at hc; subst hc; exact hj.elim
      · simp [List.getElem?_eq_none (by simpa using hl : (H.set c .dead).length ≤ c)] at hc
    · rwa [List.getElem?_set_ne (fun e' => e e'.symm)] at hc
  refine ⟨fun c n hc => by simpa using h.dom c n hc, fun c hc => h.has c (by simpa using hc), h.st, h.base, h.glob, ?_, ?_, ?_⟩
  · intro c j n hc hcn
    cases j with
    | dead => trivial
    | arr sz es => exact h.blk c _ n (look c _ hc trivial) hcn
    | map ks vs => exact h.blk c _ n (look c _ hc trivial) hcn
  · intro c j n hc hj hcn; exact h.own c j n (look c j hc hj) hj hcn
  · intro c c' j j' n n' hc hj hc' hj' hcn hcn' e; exact h.inj c c' j j' n n' (look c j hc hj) hj (look c' j' hc' hj') hj' hcn hcn' e

/-- A new block, in a block of the model's that nobody has. -/
theorem HR.new (h : HR G B σ μ H w) {k : Blk} {m : BM} (hn : w.heap.size ≤ w'.heap.size) (hb : B ≤ m.rb) (hlt : m.rb < w'.heap.size) (hσm : ¬ σ m.rb)
    (hfree : ∀ c j n, H[c]? = some j → j.alive → μ c = some n → n.rb ≠ m.rb)
    (hw : ∀ r, r < w.heap.size → r ≠ m.rb → w'.heap[r]? = w.heap[r]?)
    (hk : (∀ b, σ b → σ b ∧ w'.heap[b]? = w.heap[b]?) → (∀ b n, μ b = some n → (μ.put H.length m) b = some n) → BR w' σ (μ.put H.length m) m k) (ho : Same w w' := by exact ⟨rfl, rfl, rfl⟩) :
    HR G B σ (μ.put H.length m) (H ++ [k]) w' ∧ Step B σ μ w σ (μ.put H.length m) w' := by
  have hs : ∀ b, σ b → σ b ∧ w'.heap[b]? = w.heap[b]? := fun c hc => ⟨hc, hw c (h.st c hc) fun e => hσm (e ▸ hc)⟩
  have hmu : ∀ b n, μ b = some n → (μ.put H.length m) b = some n := fun c n hc => by
    have := h.dom c n hc
    simp [Mu.put, show c ≠ H.length by omega, hc]
  have look : ∀ (c : Nat) (j : Blk) (n : BM), (H ++ [k])[c]? = some j → (μ.put H.length m) c = some n → (c = H.length ∧ j = k ∧ n = m) ∨ (c ≠ H.length ∧ H[c]? = some j ∧ μ c = some n) := by
    intro c j n hc hn
    by_cases e : c = H.length
    · subst e; simp at hc; simp [Mu.put] at hn; exact .inl ⟨rfl, hc.symm, hn.symm⟩
    · have hl : c < H.length := by
        have := (List.getElem?_eq_some_iff.1 hc).1
        simp at this; omega
      rw [List.getElem?_append_left hl] at hc
      simp [Mu.put, e] at hn
      exact .inr ⟨e, hc, hn⟩
  refine ⟨⟨?_, ?_, fun c hc => Nat.lt_of_lt_of_le (h.st c hc) hn, Nat.le_trans h.base hn, fun g v hg => (h.glob g v hg).mono hs (fun _ _ h => h), ?_, ?_, ?_⟩,
    ⟨hs, hmu, fun c hc => hw c (Nat.lt_of_lt_of_le hc h.base) fun e => by omega, hn, fun _ h => .inl h, ho⟩⟩
  · intro c n hc
    by_cases e : c = H.length
    · simp [e]
    · simp [Mu.put, e] at hc; have := h.dom c n hc; simp; omega
  · intro c hc
    by_cases e : c = H.length
    · exact ⟨m, by simp [Mu.put, e]⟩
    · simp at hc; obtain ⟨n, hn⟩ := h.has c (by omega); exact ⟨n, hmu c n hn⟩
  · intro c j n hc hcn
    rcases look c j n hc hcn with ⟨rfl, rfl, rfl⟩ | ⟨hne, hc, hcn⟩
    · exact hk hs hmu
    · exact (h.blk c j n hc hcn).mono hs hmu fun hj => hw _ (h.own c j n hc hj hcn).2.1 (hfree c j n hc hj hcn)
  · intro c j n hc hj hcn
    rcases look c j n hc hcn with ⟨rfl, rfl, rfl⟩ | ⟨hne, hc, hcn⟩
    · exact ⟨hb, hlt, hσm⟩
    · obtain ⟨a1, a2, a3⟩ := h.own c j n hc hj hcn; exact ⟨a1, by omega, a3⟩
  · intro c c' j j' n n' hc hj hc' hj' hcn hcn' e
    rcases look c j n hc hcn with ⟨e1, _, f1⟩ | ⟨_, p1, q1⟩ <;> rcases look c' j' n' hc' hcn' with ⟨e2, _, f2⟩ | ⟨_, p2, q2⟩
    · exact e1.trans e2.symm
    · subst f1; exact absurd e.symm (hfree c' j' n' p2 hj' q2)
    · subst f2; exact absurd e (hfree c j n p1 hj q1)
    · exact h.inj c c' j j' n n' p1 hj p2 hj' q1 q2 e

/-- A new block in a fresh block of the model's. -/
theorem HR.alloc (h : HR G B σ μ H w) {k : Blk} {m : BM} (hm : m.rb = w.heap.size) (hlt : w.heap.size < w'.heap.size) (hw : ∀ r, r < w.heap.size → w'.heap[r]? = w.heap[r]?)
    (hk : (∀ b, σ b → σ b ∧ w'.heap[b]? = w.heap[b]?) → (∀ b n, μ b = some n → (μ.put H.length m) b = some n) → BR w' σ (μ.put H.length m) m k) (ho : Same w w' := by exact ⟨rfl, rfl, rfl⟩) :
    HR G B σ (μ.put H.length m) (H ++ [k]) w' ∧ Step B σ μ w σ (μ.put H.length m) w' :=
  h.new (Nat.le_of_lt hlt) (hm ▸ h.base) (hm ▸ hlt) (fun hc => by have := h.st _ hc; omega) (fun c j n hc hj hcn e => by have := (h.own c j n hc hj hcn).2.1; omega)
    (fun r hr _ => hw r hr) hk ho
end upd

end X
end Go.Proofs.YtkaigfcjejabfaaGreatDoor
