/- The desk in the heap: where its parts lie, and what stays when one of them changes. The desk in the heap: a ride is added; rides are placed and leave. Sorting by insertion, for the library's function at any type: what it computes. Sorting by insertion of elements request_entry: what the library's functions compute. The desk: who waits, and who moves up. No condition. -/
import Derived.Test.YtplginnkececaaaGreatDoorZRDA
import Derived.Test.YtplginnkececaaaGreatDoorZRI
set_option linter.unusedSimpArgs false
set_option linter.unusedVariables false
namespace Go.Proofs.YtplginnkececaaaGreatDoor
open Go
namespace Y
open X

structure Addr where
  rm : Nat
  am : Nat
  rv : AV
  vo : AV
  vu : AV
  vm : AV
  vr : AV
  vl : AV
  ps : List Nat

abbrev P0 (b : Nat) : AV := .ptr b 0 0
def deskL (A : Addr) : List AV := [.map A.rm, A.rv, .map A.am, A.vo, A.vu, A.vm, A.vr, A.vl]
def deskB (A : Addr) : Blk := .arr 8 [.agg (deskL A)]

structure Tags (d : Nat) (A : Addr) (g : Nat → Nat) : Prop where
  d : g d = 0
  rm : g A.rm = 1
  am : g A.am = 2
  vo : ∀ c, A.vo.blockOf = some c → g c = 3
  vu : ∀ c, A.vu.blockOf = some c → g c = 4
  vm : ∀ c, A.vm.blockOf = some c → g c = 5
  vr : ∀ c, A.vr.blockOf = some c → g c = 6
  vl : ∀ c, A.vl.blockOf = some c → g c = 7
  ps : ∀ i (h : i < A.ps.length), g A.ps[i] = 8 + i

structure Rep (H : Heap) (d : Nat) (A : Addr) (D : Desk) (rs : List Int) : Prop where
  desk : H[d]? = some (deskB A)
  tab : H[A.rm]? = some (.map (tks D.tab) (tvs encRider D.tab))
  all : H[A.am]? = some (.map (tks (idTab D.ents A.ps)) (tvs P0 (idTab D.ents A.ps)))
  rv : ∀ H k, X.snap H (k + 1) A.rv = some (.vslice (D.rooms.map encRoom))
  rvc : A.rv.cells = [A.rv] ∧ A.rv.storable = true
  order : Own H 1 A.vo (A.ps.map P0)
  used : Own H 1 A.vu (D.used.map I)
  moved : Own H 10 A.vm (D.moved.map encSt)
  refused : Own H 1 A.vr (rs.map I)
  late : Own H 10 A.vl (D.late.map encAsk)
  len : A.ps.length = D.ents.length
  ents : ∀ i (h : i < A.ps.length), H[A.ps[i]]? = some (entB (entAt D.ents i))
  tags : ∃ g, Tags d A g

theorem mapM_get {α β : Type} {f : α → Option β} : ∀ {l : List α} {m : List β}, l.length = m.length → (∀ i (h1 : i < l.length) (h2 : i < m.length), f l[i] = some m[i]) → l.mapM f = some m
  | [], [], _, _ => rfl
  | a :: l, b :: m, hl, h => by
    have h0 := h 0 (by simp) (by simp)
    simp only [List.getElem_cons_zero] at h0
    rw [List.mapM_cons, h0, mapM_get (f := f) (l := l) (m := m) (by simpa using hl) fun i h1 h2 => by
      have := h (i + 1) (by simpa using h1) (by simpa using h2)
      simpa using this]
    rfl

theorem snap_ent {H : Heap} {p : Nat} {e : Ent} (h : H[p]? = some (entB e)) (k : Nat) : X.snap H (k + 2) (P0 p) = some (.vptr (entC e)) := by
  rw [X.snap]
  simp only [h, entB]
  show (((entC e)).mapM (X.snap H (k + 1))).map AV.vptr = _
  rw [mapM_id (by
    intro c hc
    simp [entC, Ride.cells] at hc
    rcases hc with rfl | rfl | rfl | rfl | rfl | rfl | rfl | rfl | rfl | rfl | rfl <;> rfl)]
  rfl

theorem tks_id {α : Type} {es : List Ent} {ps : List α} (h : ps.length = es.length) : tks (idTab es ps) = es.map fun e => AV.str e.ride.id := by
  unfold tks idTab
  rw [show (fun p : Str × α => AV.str p.1) = AV.str ∘ Prod.fst from rfl, ← List.map_map, List.map_fst_zip (by simp [h])]
  simp
theorem tvs_id {α : Type} (f : α → AV) {es : List Ent} {ps : List α} (h : ps.length = es.length) : tvs f (idTab es ps) = ps.map f := by
  unfold tvs idTab
  rw [show (fun p : Str × α => f p.2) = f ∘ Prod.snd from rfl, ← List.map_map, List.map_snd_zip (by simp [h])]

theorem entAt_get {es : List Ent} {i : Nat} (h : i < es.length) : entAt es i = es[i] := by
  unfold entAt; rw [List.getD_eq_getElem?_getD, List.getElem?_eq_getElem h]; rfl

theorem Rep.snap {H : Heap} {d : Nat} {A : Addr} {D : Desk} {rs : List Int} (h : Rep H d A D rs) : X.snap H deep (P0 d) = some (.vptr (deskC D rs)) := by
  have flat : ∀ (k : Nat) (es : List AV), (∀ c ∈ es, X.snap H k c = some c) → es.mapM (X.snap H k) = some es := fun k es h => mapM_id h
  have ptrs : ∀ k, (A.ps.map P0).mapM (X.snap H (k + 2)) = some (D.ents.map fun e => AV.vptr (entC e)) := by
    intro k
    refine mapM_get (by simpa using h.len) fun i h1 h2 => ?_
    have hi : i < A.ps.length := by simpa using h1
    have := snap_ent (h.ents i hi) k
    simp only [List.getElem_map]
    rw [this, entAt_get]
  show X.snap H 12 (P0 d) = _
  rw [X.snap]
  simp only [h.desk, deskB]
  show (([AV.map A.rm, A.rv, .map A.am, A.vo, A.vu, A.vm, A.vr, A.vl]).mapM (X.snap H 11)).map AV.vptr = _
  have e1 : X.snap H 11 (.map A.rm) = some (.vmap (tks D.tab) (tvs encRider D.tab)) := by
    rw [X.snap]
    simp only [h.tab]
    rw [flat 10 _ (by intro c hc; obtain ⟨p, _, rfl⟩ := List.mem_map.1 hc; rfl), flat 10 _ (by intro c hc; obtain ⟨p, _, rfl⟩ := List.mem_map.1 hc; rfl)]
    rfl
  have e3 : X.snap H 11 (.map A.am) = some (.vmap (tks (idTab D.ents D.ents)) (tvs (fun e => .vptr (entC e)) (idTab D.ents D.ents))) := by
    rw [X.snap]
    simp only [h.all]
    rw [tks_id h.len, tvs_id _ h.len, tks_id rfl, tvs_id _ rfl, flat 10 _ (by intro c hc; obtain ⟨p, _, rfl⟩ := List.mem_map.1 hc; rfl), ptrs 8]
    rfl
  have e4 := h.order.snapK (k := 10) (ptrs 8)
  have e5 := h.used.snapK (k := 10) (flat 10 _ (by intro c hc; obtain ⟨p, _, rfl⟩ := List.mem_map.1 hc; rfl))
  have e6 := h.moved.snapK (k := 10) (flat 10 _ (by intro c hc; obtain ⟨p, _, rfl⟩ := List.mem_map.1 hc; rfl))
  have e7 := h.refused.snapK (k := 10) (flat 10 _ (by intro c hc; obtain ⟨p, _, rfl⟩ := List.mem_map.1 hc; rfl))
  have e8 := h.late.snapK (k := 10) (flat 10 _ (by intro c hc; obtain ⟨p, _, rfl⟩ := List.mem_map.1 hc; rfl))
  have e2 := h.rv H 10
  simp only [List.mapM_cons, List.mapM_nil, e1, e2, e3, e4, e5, e6, e7, e8]
  rfl


theorem Own.keep {H H' : Heap} {sz : Nat} {v : AV} {l : List AV} (h : Own H sz v l) (hk : ∀ (c : Nat) (k : Blk), v.blockOf = some c → H[c]? = some k → H'[c]? = some k) : Own H' sz v l := by
  rcases h with ⟨rfl, rfl⟩ | ⟨b, es, rfl, hb, h1, h2⟩
  · exact .nil _ _
  · exact .inr ⟨b, es, rfl, hk b _ rfl hb, h1, h2⟩

theorem Rep.mono {H H' : Heap} {d : Nat} {A : Addr} {D : Desk} {rs : List Int} (h : Rep H d A D rs) (hk : ∀ (b : Nat) (k : Blk), H[b]? = some k → H'[b]? = some k) : Rep H' d A D rs :=
  ⟨hk _ _ h.desk, hk _ _ h.tab, hk _ _ h.all, h.rv, h.rvc, h.order.keep fun c k _ => hk c k, h.used.keep fun c k _ => hk c k, h.moved.keep fun c k _ => hk c k, h.refused.keep fun c k _ => hk c k, h.late.keep fun c k _ => hk c k, h.len, fun i hi => hk _ _ (h.ents i hi), h.tags⟩

theorem Rep.app {H : Heap} {d : Nat} {A : Addr} {D : Desk} {rs : List Int} (h : Rep H d A D rs) (l : List Blk) : Rep (H ++ l) d A D rs := h.mono fun b k hb => app_old l hb

structure Kept (t : Nat) (H' : Heap) (d : Nat) (A : Addr) (D : Desk) (rs : List Int) : Prop where
  desk : t ≠ 0 → H'[d]? = some (deskB A)
  tab : t ≠ 1 → H'[A.rm]? = some (.map (tks D.tab) (tvs encRider D.tab))
  all : t ≠ 2 → H'[A.am]? = some (.map (tks (idTab D.ents A.ps)) (tvs P0 (idTab D.ents A.ps)))
  order : t ≠ 3 → Own H' 1 A.vo (A.ps.map P0)
  used : t ≠ 4 → Own H' 1 A.vu (D.used.map I)
  moved : t ≠ 5 → Own H' 10 A.vm (D.moved.map encSt)
  refused : t ≠ 6 → Own H' 1 A.vr (rs.map I)
  late : t ≠ 7 → Own H' 10 A.vl (D.late.map encAsk)
  ents : ∀ i (h : i < A.ps.length), t ≠ 8 + i → H'[A.ps[i]]? = some (entB (entAt D.ents i))

theorem Rep.kept {H H' : Heap} {d : Nat} {A : Addr} {D : Desk} {rs : List Int} (h : Rep H d A D rs) {g : Nat → Nat} (hg : Tags d A g) {t : Nat} (hk : ∀ (b : Nat) (k : Blk), H[b]? = some k → g b ≠ t → H'[b]? = some k) : Kept t H' d A D rs := by
  refine ⟨fun ht => hk _ _ h.desk (by rw [hg.d]; omega), fun ht => hk _ _ h.tab (by rw [hg.rm]; omega), fun ht => hk _ _ h.all (by rw [hg.am]; omega), fun ht => ?_, fun ht => ?_, fun ht => ?_, fun ht => ?_, fun ht => ?_, fun i hi ht => hk _ _ (h.ents i hi) (by rw [hg.ps i hi]; omega)⟩
  · exact h.order.keep fun c k hc hb => hk c k hb (by rw [hg.vo c hc]; omega)
  · exact h.used.keep fun c k hc hb => hk c k hb (by rw [hg.vu c hc]; omega)
  · exact h.moved.keep fun c k hc hb => hk c k hb (by rw [hg.vm c hc]; omega)
  · exact h.refused.keep fun c k hc hb => hk c k hb (by rw [hg.vr c hc]; omega)
  · exact h.late.keep fun c k hc hb => hk c k hb (by rw [hg.vl c hc]; omega)

theorem Rep.setUsed {H H1 : Heap} {d : Nat} {A : Addr} {D : Desk} {rs u : List Int} (h : Rep H d A D rs) (ho : Own H1 1 A.vu (u.map I)) (k : Keeps H H1 A.vu A.vu) : Rep H1 d A { D with used := u } rs := by
  obtain ⟨g, hg⟩ := h.tags
  have kp := h.kept (H' := H1) hg (t := 4) fun b j hb ht => (k.old b j hb fun e => ht (hg.vu b e)).1
  exact ⟨kp.desk (by omega), kp.tab (by omega), kp.all (by omega), h.rv, h.rvc, kp.order (by omega), ho, kp.moved (by omega), kp.refused (by omega), kp.late (by omega), h.len, fun i hi => kp.ents i hi (by omega), g, hg⟩

theorem idTab_set {α : Type} {es : List Ent} {ps : List α} {i : Nat} {e : Ent} (h : e.ride.id = (entAt es i).ride.id) : idTab (es.set i e) ps = idTab es ps := by
  unfold idTab
  congr 1
  rw [List.map_set]
  apply List.ext_getElem?
  intro j
  by_cases hj : i = j
  · subst hj
    by_cases hl : i < es.length
    · rw [List.getElem?_set_self (by simpa using hl), List.getElem?_map, List.getElem?_eq_getElem hl, h, entAt_get hl]; rfl
    · rw [List.getElem?_eq_none (by simp; omega), List.getElem?_eq_none (by simp; omega)]
  · rw [List.getElem?_set_ne hj]

theorem Rep.setEnt {H : Heap} {d : Nat} {A : Addr} {D : Desk} {rs : List Int} (h : Rep H d A D rs) {i : Nat} (hi : i < A.ps.length) (e : Ent) (hid : e.ride.id = (entAt D.ents i).ride.id) : Rep (H.set A.ps[i] (entB e)) d A (D.setEnt i e) rs := by
  obtain ⟨g, hg⟩ := h.tags
  have kp := h.kept (H' := H.set A.ps[i] (entB e)) hg (t := 8 + i) fun b j hb ht => set_other _ (fun e => ht (by rw [e]; exact hg.ps i hi)) hb
  have hl : i < D.ents.length := by rw [← h.len]; exact hi
  refine ⟨kp.desk (by omega), kp.tab (by omega), ?_, h.rv, h.rvc, kp.order (by omega), kp.used (by omega), kp.moved (by omega), kp.refused (by omega), kp.late (by omega), by simpa [Desk.setEnt] using h.len, fun j hj => ?_, g, hg⟩
  · have := kp.all (by omega)
    simp only [Desk.setEnt]
    rwa [idTab_set hid]
  · simp only [Desk.setEnt]
    by_cases hij : i = j
    · subst hij
      rw [entAt_set_self _ hl]
      exact set_same _ (h.ents i hi)
    · rw [entAt_set_ne _ hij]
      exact kp.ents j hj (by omega)

structure Out (d : Nat) (A : Addr) (b : Nat) : Prop where
  d : d ≠ b
  rm : A.rm ≠ b
  am : A.am ≠ b
  vo : A.vo.blockOf ≠ some b
  vu : A.vu.blockOf ≠ some b
  vm : A.vm.blockOf ≠ some b
  vr : A.vr.blockOf ≠ some b
  vl : A.vl.blockOf ≠ some b
  ps : b ∉ A.ps

theorem Rep.out {H : Heap} {d : Nat} {A : Addr} {D : Desk} {rs : List Int} (h : Rep H d A D rs) {b : Nat} (hb : H.length ≤ b) : Out d A b := by
  have lt : ∀ c k, H[c]? = some k → c ≠ b := fun c k hc e => by have := (List.getElem?_eq_some_iff.1 hc).1; omega
  have ow : ∀ sz v l, Own H sz v l → v.blockOf ≠ some b := fun sz v l ho e => by have := ho.block e; omega
  refine ⟨lt _ _ h.desk, lt _ _ h.tab, lt _ _ h.all, ow _ _ _ h.order, ow _ _ _ h.used, ow _ _ _ h.moved, ow _ _ _ h.refused, ow _ _ _ h.late, fun hm => ?_⟩
  obtain ⟨i, hi, e⟩ := List.getElem_of_mem hm
  exact lt _ _ (h.ents i hi) e

theorem Rep.setOut {H : Heap} {d : Nat} {A : Addr} {D : Desk} {rs : List Int} (h : Rep H d A D rs) {b : Nat} (ho : Out d A b) (k : Blk) : Rep (H.set b k) d A D rs := by
  have own : ∀ sz v l, Own H sz v l → v.blockOf ≠ some b → Own (H.set b k) sz v l := fun sz v l hv hb => hv.setc hb
  refine ⟨set_other _ ho.d h.desk, set_other _ ho.rm h.tab, set_other _ ho.am h.all, h.rv, h.rvc, own _ _ _ h.order ho.vo, own _ _ _ h.used ho.vu, own _ _ _ h.moved ho.vm, own _ _ _ h.refused ho.vr, own _ _ _ h.late ho.vl, h.len, fun i hi => ?_, h.tags⟩
  exact set_other _ (fun e => ho.ps (e ▸ List.getElem_mem hi)) (h.ents i hi)

structure Fr (H H' : Heap) (d : Nat) (A A' : Addr) : Prop where
  len : H.length ≤ H'.length
  out : ∀ b k, H[b]? = some k → Out d A b → H'[b]? = some k ∧ Out d A' b

theorem Fr.refl (H : Heap) (d : Nat) (A : Addr) : Fr H H d A A := ⟨Nat.le_refl _, fun _ _ h h' => ⟨h, h'⟩⟩
theorem Fr.trans {H H' H'' : Heap} {d : Nat} {A A' A'' : Addr} (h : Fr H H' d A A') (h' : Fr H' H'' d A' A'') : Fr H H'' d A A'' :=
  ⟨Nat.le_trans h.len h'.len, fun b k hb ho => h'.out b k (h.out b k hb ho).1 (h.out b k hb ho).2⟩
theorem Fr.app (H : Heap) (d : Nat) (A : Addr) (l : List Blk) : Fr H (H ++ l) d A A := ⟨by simp, fun b k h h' => ⟨app_old _ h, h'⟩⟩

theorem Fr.keeps {H H1 : Heap} {d : Nat} {A : Addr} (k : Keeps H H1 A.vu A.vu) : Fr H H1 d A A := ⟨k.len, fun b j hb ho => ⟨(k.old b j hb ho.vu).1, ho⟩⟩
theorem Fr.setEnt {H : Heap} {d : Nat} {A : Addr} {i : Nat} (hi : i < A.ps.length) (k : Blk) : Fr H (H.set A.ps[i] k) d A A :=
  ⟨by simp, fun b j hb ho => ⟨set_other _ (fun e => ho.ps (e ▸ List.getElem_mem hi)) hb, ho⟩⟩

theorem desk_rm {H : Heap} {d : Nat} {A : Addr} (h : H[d]? = some (deskB A)) : loadAV H none (.ptr d 0 0) = some (.map A.rm) := load_ptr h rfl rfl
theorem desk_rv {H : Heap} {d : Nat} {A : Addr} (h : H[d]? = some (deskB A)) : loadAV H none (.ptr d 0 1) = some A.rv := load_ptr h rfl rfl
theorem desk_am {H : Heap} {d : Nat} {A : Addr} (h : H[d]? = some (deskB A)) : loadAV H none (.ptr d 0 2) = some (.map A.am) := load_ptr h rfl rfl
theorem desk_vo {H : Heap} {d : Nat} {A : Addr} (h : H[d]? = some (deskB A)) : loadAV H none (.ptr d 0 3) = some A.vo := load_ptr h rfl rfl
theorem desk_vu {H : Heap} {d : Nat} {A : Addr} (h : H[d]? = some (deskB A)) : loadAV H none (.ptr d 0 4) = some A.vu := load_ptr h rfl rfl
theorem desk_vm {H : Heap} {d : Nat} {A : Addr} (h : H[d]? = some (deskB A)) : loadAV H none (.ptr d 0 5) = some A.vm := load_ptr h rfl rfl
theorem desk_vr {H : Heap} {d : Nat} {A : Addr} (h : H[d]? = some (deskB A)) : loadAV H none (.ptr d 0 6) = some A.vr := load_ptr h rfl rfl
theorem desk_vl {H : Heap} {d : Nat} {A : Addr} (h : H[d]? = some (deskB A)) : loadAV H none (.ptr d 0 7) = some A.vl := load_ptr h rfl rfl

theorem ent_ride {H : Heap} {b : Nat} {e : Ent} (h : H[b]? = some (entB e)) : loadAV H (some 8) (.ptr b 0 0) = some (encRide e.st.ride) := load_ptr h rfl rfl
theorem ent_st {H : Heap} {b : Nat} {e : Ent} (h : H[b]? = some (entB e)) : loadAV H (some 10) (.ptr b 0 0) = some (encSt e.st) := load_ptr h rfl rfl
theorem ent_id {H : Heap} {b : Nat} {e : Ent} (h : H[b]? = some (entB e)) : loadAV H none (.ptr b 0 0) = some (.str e.st.ride.id) := load_ptr h rfl rfl
theorem ent_rider {H : Heap} {b : Nat} {e : Ent} (h : H[b]? = some (entB e)) : loadAV H none (.ptr b 0 1) = some (.str e.st.ride.rider) := load_ptr h rfl rfl
theorem ent_ready {H : Heap} {b : Nat} {e : Ent} (h : H[b]? = some (entB e)) : loadAV H none (.ptr b 0 4) = some (I e.st.ride.ready) := load_ptr h rfl rfl
theorem ent_due {H : Heap} {b : Nat} {e : Ent} (h : H[b]? = some (entB e)) : loadAV H none (.ptr b 0 5) = some (I e.st.ride.due) := load_ptr h rfl rfl
theorem ent_state {H : Heap} {b : Nat} {e : Ent} (h : H[b]? = some (entB e)) : loadAV H none (.ptr b 0 8) = some (I e.st.state) := load_ptr h rfl rfl
theorem ent_since {H : Heap} {b : Nat} {e : Ent} (h : H[b]? = some (entB e)) : loadAV H none (.ptr b 0 9) = some (I e.st.since) := load_ptr h rfl rfl
theorem ent_open {H : Heap} {b : Nat} {e : Ent} (h : H[b]? = some (entB e)) : loadAV H none (.ptr b 0 10) = some (.bool e.opn) := load_ptr h rfl rfl

theorem ent_put {H : Heap} {b : Nat} {e : Ent} (h : H[b]? = some (entB e)) (e' : Ent) (k n : Nat) (x : AV) (hk : k + n ≤ 11) (hv : x.cells.length = n) (hs : x.cells.all AV.storable = true) (he : (encEnt e).setCells k x.cells = encEnt e') :
    storeAV H n (.ptr b 0 k) x = some (H.set b (entB e')) := by
  have h2 : [encEnt e][0]? = some (encEnt e) := rfl
  have := store_ptr (x := x) (o := k) h h2 hv hs (by simpa [AV.cells, encEnt, entC, Ride.cells] using hk) rfl
  rw [this, he]; rfl

theorem desk_put_vm {H : Heap} {d : Nat} {A : Addr} (h : H[d]? = some (deskB A)) (v : AV) (hv : v.cells = [v] ∧ v.storable = true) : storeAV H 1 (.ptr d 0 5) v = some (H.set d (deskB { A with vm := v })) := by
  have h2 : [AV.agg (deskL A)][0]? = some (.agg (deskL A)) := rfl
  have h3 : H[d]? = some (.arr 8 [.agg (deskL A)]) := h
  have := store_ptr (n := 1) (x := v) (o := 5) h3 h2 (by rw [hv.1]; rfl) (by rw [hv.1]; simp [hv.2]) (by simp [AV.cells, deskL]) rfl
  rw [this, hv.1]; rfl

theorem Rep.pushMoved {H H1 : Heap} {d : Nat} {A : Addr} {D : Desk} {rs : List Int} (h : Rep H d A D rs) {l : List Standing} {v : AV} (ho : Own H1 10 v (l.map encSt)) (k : Keeps H H1 A.vm v) :
    H1[d]? = some (deskB A) ∧ Rep (H1.set d (deskB { A with vm := v })) d { A with vm := v } { D with moved := l } rs ∧ Fr H (H1.set d (deskB { A with vm := v })) d A { A with vm := v } := by
  obtain ⟨g, hg⟩ := h.tags
  have kp := h.kept (H' := H1) hg (t := 5) fun b j hb ht => (k.old b j hb fun e => ht (hg.vm b e)).1
  have hd1 := kp.desk (by omega)
  have ne : ∀ b j, H[b]? = some j → g b ≠ 5 → v.blockOf ≠ some b := fun b j hb ht => (k.old b j hb fun e => ht (hg.vm b e)).2
  have hdv : v.blockOf ≠ some d := ne d _ h.desk (by rw [hg.d]; omega)
  have own : ∀ sz w l, Own H1 sz w l → w.blockOf ≠ some d → Own (H1.set d (deskB { A with vm := v })) sz w l := fun sz w l hw hb => hw.setc hb
  have oth : ∀ t : Nat, t ≠ 0 → ∀ w : AV, (∀ c, w.blockOf = some c → g c = t) → w.blockOf ≠ some d := fun t ht w hw e => by have := hw d e; rw [hg.d] at this; omega
  have frm : ∀ b : Nat, b ≠ d → ∀ j, H1[b]? = some j → (H1.set d (deskB { A with vm := v }))[b]? = some j := fun b hb j hj => set_other _ hb hj
  have drm : A.rm ≠ d := fun e => by have := hg.rm; rw [e, hg.d] at this; omega
  have dam : A.am ≠ d := fun e => by have := hg.am; rw [e, hg.d] at this; omega
  refine ⟨hd1, ⟨set_same _ hd1, frm _ drm _ (kp.tab (by omega)), frm _ dam _ (kp.all (by omega)), h.rv, h.rvc, ?_, ?_, ?_, ?_, ?_, h.len, fun i hi => frm _ (fun e => by have := hg.ps i hi; rw [e, hg.d] at this; omega) _ (kp.ents i hi (by omega)), ?_⟩, ?_⟩
  · exact own _ _ _ (kp.order (by omega)) (oth 3 (by omega) _ hg.vo)
  · exact own _ _ _ (kp.used (by omega)) (oth 4 (by omega) _ hg.vu)
  · exact own _ _ _ ho hdv
  · exact own _ _ _ (kp.refused (by omega)) (oth 6 (by omega) _ hg.vr)
  · exact own _ _ _ (kp.late (by omega)) (oth 7 (by omega) _ hg.vl)
  · have ext : ∀ sz w l (t : Nat), Own H sz w l → (∀ c, w.blockOf = some c → g c = t) → t ≠ 5 → ∀ c, w.blockOf = some c → (if v.blockOf = some c then 5 else g c) = t := by
      intro sz w l t hw ht hne c hc
      rcases hw with ⟨rfl, _⟩ | ⟨b, es, rfl, hb, _⟩
      · cases hc
      · have hbc : b = c := Option.some.inj hc
        subst hbc
        rw [if_neg (ne b _ hb (by rw [ht b rfl]; exact hne))]
        exact ht b rfl
    refine ⟨fun b => if v.blockOf = some b then 5 else g b, ?_, ?_, ?_, ?_, ?_, ?_, ?_, ?_, ?_⟩
    · show (if _ then _ else _) = _; rw [if_neg hdv]; exact hg.d
    · show (if _ then _ else _) = _; rw [if_neg (ne _ _ h.tab (by rw [hg.rm]; omega))]; exact hg.rm
    · show (if _ then _ else _) = _; rw [if_neg (ne _ _ h.all (by rw [hg.am]; omega))]; exact hg.am
    · exact ext _ _ _ 3 h.order hg.vo (by omega)
    · exact ext _ _ _ 4 h.used hg.vu (by omega)
    · intro c hc; show (if _ then _ else _) = _; rw [if_pos hc]
    · exact ext _ _ _ 6 h.refused hg.vr (by omega)
    · exact ext _ _ _ 7 h.late hg.vl (by omega)
    · intro i hi; show (if _ then _ else _) = _; rw [if_neg (ne _ _ (h.ents i hi) (by rw [hg.ps i hi]; omega))]; exact hg.ps i hi
  · refine ⟨by simpa using k.len, fun b j hb hout => ?_⟩
    have := k.old b j hb hout.vm
    refine ⟨set_other _ (Ne.symm hout.d) this.1, ⟨hout.d, hout.rm, hout.am, hout.vo, hout.vu, this.2, hout.vr, hout.vl, hout.ps⟩⟩

theorem desk_put_vl {H : Heap} {d : Nat} {A : Addr} (h : H[d]? = some (deskB A)) (v : AV) (hv : v.cells = [v] ∧ v.storable = true) : storeAV H 1 (.ptr d 0 7) v = some (H.set d (deskB { A with vl := v })) := by
  have h2 : [AV.agg (deskL A)][0]? = some (.agg (deskL A)) := rfl
  have h3 : H[d]? = some (.arr 8 [.agg (deskL A)]) := h
  have := store_ptr (n := 1) (x := v) (o := 7) h3 h2 (by rw [hv.1]; rfl) (by rw [hv.1]; simp [hv.2]) (by simp [AV.cells, deskL]) rfl
  rw [this, hv.1]; rfl

theorem Rep.pushLate {H H1 : Heap} {d : Nat} {A : Addr} {D : Desk} {rs : List Int} (h : Rep H d A D rs) {l : List Ask} {v : AV} (ho : Own H1 10 v (l.map encAsk)) (k : Keeps H H1 A.vl v) :
    H1[d]? = some (deskB A) ∧ Rep (H1.set d (deskB { A with vl := v })) d { A with vl := v } { D with late := l } rs ∧ Fr H (H1.set d (deskB { A with vl := v })) d A { A with vl := v } := by
  obtain ⟨g, hg⟩ := h.tags
  have kp := h.kept (H' := H1) hg (t := 7) fun b j hb ht => (k.old b j hb fun e => ht (hg.vl b e)).1
  have hd1 := kp.desk (by omega)
  have ne : ∀ b j, H[b]? = some j → g b ≠ 7 → v.blockOf ≠ some b := fun b j hb ht => (k.old b j hb fun e => ht (hg.vl b e)).2
  have hdv : v.blockOf ≠ some d := ne d _ h.desk (by rw [hg.d]; omega)
  have own : ∀ sz w l, Own H1 sz w l → w.blockOf ≠ some d → Own (H1.set d (deskB { A with vl := v })) sz w l := fun sz w l hw hb => hw.setc hb
  have oth : ∀ t : Nat, t ≠ 0 → ∀ w : AV, (∀ c, w.blockOf = some c → g c = t) → w.blockOf ≠ some d := fun t ht w hw e => by have := hw d e; rw [hg.d] at this; omega
  have frm : ∀ b : Nat, b ≠ d → ∀ j, H1[b]? = some j → (H1.set d (deskB { A with vl := v }))[b]? = some j := fun b hb j hj => set_other _ hb hj
  have drm : A.rm ≠ d := fun e => by have := hg.rm; rw [e, hg.d] at this; omega
  have dam : A.am ≠ d := fun e => by have := hg.am; rw [e, hg.d] at this; omega
  refine ⟨hd1, ⟨set_same _ hd1, frm _ drm _ (kp.tab (by omega)), frm _ dam _ (kp.all (by omega)), h.rv, h.rvc, ?_, ?_, ?_, ?_, ?_, h.len, fun i hi => frm _ (fun e => by have := hg.ps i hi; rw [e, hg.d] at this; omega) _ (kp.ents i hi (by omega)), ?_⟩, ?_⟩
  · exact own _ _ _ (kp.order (by omega)) (oth 3 (by omega) _ hg.vo)
  · exact own _ _ _ (kp.used (by omega)) (oth 4 (by omega) _ hg.vu)
  · exact own _ _ _ (kp.moved (by omega)) (oth 5 (by omega) _ hg.vm)
  · exact own _ _ _ (kp.refused (by omega)) (oth 6 (by omega) _ hg.vr)
  · exact own _ _ _ ho hdv
  · have ext : ∀ sz w l (t : Nat), Own H sz w l → (∀ c, w.blockOf = some c → g c = t) → t ≠ 7 → ∀ c, w.blockOf = some c → (if v.blockOf = some c then 7 else g c) = t := by
      intro sz w l t hw ht hne c hc
      rcases hw with ⟨rfl, _⟩ | ⟨b, es, rfl, hb, _⟩
      · cases hc
      · have hbc : b = c := Option.some.inj hc
        subst hbc
        rw [if_neg (ne b _ hb (by rw [ht b rfl]; exact hne))]
        exact ht b rfl
    refine ⟨fun b => if v.blockOf = some b then 7 else g b, ?_, ?_, ?_, ?_, ?_, ?_, ?_, ?_, ?_⟩
    · show (if _ then _ else _) = _; rw [if_neg hdv]; exact hg.d
    · show (if _ then _ else _) = _; rw [if_neg (ne _ _ h.tab (by rw [hg.rm]; omega))]; exact hg.rm
    · show (if _ then _ else _) = _; rw [if_neg (ne _ _ h.all (by rw [hg.am]; omega))]; exact hg.am
    · exact ext _ _ _ 3 h.order hg.vo (by omega)
    · exact ext _ _ _ 4 h.used hg.vu (by omega)
    · exact ext _ _ _ 5 h.moved hg.vm (by omega)
    · exact ext _ _ _ 6 h.refused hg.vr (by omega)
    · intro c hc; show (if _ then _ else _) = _; rw [if_pos hc]
    · intro i hi; show (if _ then _ else _) = _; rw [if_neg (ne _ _ (h.ents i hi) (by rw [hg.ps i hi]; omega))]; exact hg.ps i hi
  · refine ⟨by simpa using k.len, fun b j hb hout => ?_⟩
    have := k.old b j hb hout.vl
    refine ⟨set_other _ (Ne.symm hout.d) this.1, ⟨hout.d, hout.rm, hout.am, hout.vo, hout.vu, hout.vm, hout.vr, this.2, hout.ps⟩⟩

theorem desk_put_vr {H : Heap} {d : Nat} {A : Addr} (h : H[d]? = some (deskB A)) (v : AV) (hv : v.cells = [v] ∧ v.storable = true) : storeAV H 1 (.ptr d 0 6) v = some (H.set d (deskB { A with vr := v })) := by
  have h2 : [AV.agg (deskL A)][0]? = some (.agg (deskL A)) := rfl
  have h3 : H[d]? = some (.arr 8 [.agg (deskL A)]) := h
  have := store_ptr (n := 1) (x := v) (o := 6) h3 h2 (by rw [hv.1]; rfl) (by rw [hv.1]; simp [hv.2]) (by simp [AV.cells, deskL]) rfl
  rw [this, hv.1]; rfl

theorem Rep.pushRefused {H H1 : Heap} {d : Nat} {A : Addr} {D : Desk} {rs : List Int} (h : Rep H d A D rs) {l : List Int} {v : AV} (ho : Own H1 1 v (l.map I)) (k : Keeps H H1 A.vr v) :
    H1[d]? = some (deskB A) ∧ Rep (H1.set d (deskB { A with vr := v })) d { A with vr := v } D l ∧ Fr H (H1.set d (deskB { A with vr := v })) d A { A with vr := v } := by
  obtain ⟨g, hg⟩ := h.tags
  have kp := h.kept (H' := H1) hg (t := 6) fun b j hb ht => (k.old b j hb fun e => ht (hg.vr b e)).1
  have hd1 := kp.desk (by omega)
  have ne : ∀ b j, H[b]? = some j → g b ≠ 6 → v.blockOf ≠ some b := fun b j hb ht => (k.old b j hb fun e => ht (hg.vr b e)).2
  have hdv : v.blockOf ≠ some d := ne d _ h.desk (by rw [hg.d]; omega)
  have own : ∀ sz w l, Own H1 sz w l → w.blockOf ≠ some d → Own (H1.set d (deskB { A with vr := v })) sz w l := fun sz w l hw hb => hw.setc hb
  have oth : ∀ t : Nat, t ≠ 0 → ∀ w : AV, (∀ c, w.blockOf = some c → g c = t) → w.blockOf ≠ some d := fun t ht w hw e => by have := hw d e; rw [hg.d] at this; omega
  have frm : ∀ b : Nat, b ≠ d → ∀ j, H1[b]? = some j → (H1.set d (deskB { A with vr := v }))[b]? = some j := fun b hb j hj => set_other _ hb hj
  have drm : A.rm ≠ d := fun e => by have := hg.rm; rw [e, hg.d] at this; omega
  have dam : A.am ≠ d := fun e => by have := hg.am; rw [e, hg.d] at this; omega
  refine ⟨hd1, ⟨set_same _ hd1, frm _ drm _ (kp.tab (by omega)), frm _ dam _ (kp.all (by omega)), h.rv, h.rvc, ?_, ?_, ?_, ?_, ?_, h.len, fun i hi => frm _ (fun e => by have := hg.ps i hi; rw [e, hg.d] at this; omega) _ (kp.ents i hi (by omega)), ?_⟩, ?_⟩
  · exact own _ _ _ (kp.order (by omega)) (oth 3 (by omega) _ hg.vo)
  · exact own _ _ _ (kp.used (by omega)) (oth 4 (by omega) _ hg.vu)
  · exact own _ _ _ (kp.moved (by omega)) (oth 5 (by omega) _ hg.vm)
  · exact own _ _ _ ho hdv
  · exact own _ _ _ (kp.late (by omega)) (oth 7 (by omega) _ hg.vl)
  · have ext : ∀ sz w l (t : Nat), Own H sz w l → (∀ c, w.blockOf = some c → g c = t) → t ≠ 6 → ∀ c, w.blockOf = some c → (if v.blockOf = some c then 6 else g c) = t := by
      intro sz w l t hw ht hne c hc
      rcases hw with ⟨rfl, _⟩ | ⟨b, es, rfl, hb, _⟩
      · cases hc
      · have hbc : b = c := Option.some.inj hc
        subst hbc
        rw [if_neg (ne b _ hb (by rw [ht b rfl]; exact hne))]
        exact ht b rfl
    refine ⟨fun b => if v.blockOf = some b then 6 else g b, ?_, ?_, ?_, ?_, ?_, ?_, ?_, ?_, ?_⟩
    · show (if _ then _ else _) = _; rw [if_neg hdv]; exact hg.d
    · show (if _ then _ else _) = _; rw [if_neg (ne _ _ h.tab (by rw [hg.rm]; omega))]; exact hg.rm
    · show (if _ then _ else _) = _; rw [if_neg (ne _ _ h.all (by rw [hg.am]; omega))]; exact hg.am
    · exact ext _ _ _ 3 h.order hg.vo (by omega)
    · exact ext _ _ _ 4 h.used hg.vu (by omega)
    · exact ext _ _ _ 5 h.moved hg.vm (by omega)
    · intro c hc; show (if _ then _ else _) = _; rw [if_pos hc]
    · exact ext _ _ _ 7 h.late hg.vl (by omega)
    · intro i hi; show (if _ then _ else _) = _; rw [if_neg (ne _ _ (h.ents i hi) (by rw [hg.ps i hi]; omega))]; exact hg.ps i hi
  · refine ⟨by simpa using k.len, fun b j hb hout => ?_⟩
    have := k.old b j hb hout.vr
    refine ⟨set_other _ (Ne.symm hout.d) this.1, ⟨hout.d, hout.rm, hout.am, hout.vo, hout.vu, hout.vm, this.2, hout.vl, hout.ps⟩⟩
end Y
end Go.Proofs.YtplginnkececaaaGreatDoor

set_option linter.unusedSimpArgs false
set_option linter.unusedVariables false
namespace Go.Proofs.YtplginnkececaaaGreatDoor
open Go
namespace Y
open X

theorem upd_new {α : Type} {s : Str} {x : α} : ∀ {m : Tab α}, (∀ p ∈ m, p.1 ≠ s) → upd s x m = m ++ [(s, x)]
  | [], _ => rfl
  | (t, v) :: m, h => by
    unfold upd
    rw [if_neg (fun e => h (t, v) (by simp) e.symm), upd_new fun p hp => h p (by simp [hp])]
    rfl

theorem idTab_snoc {α : Type} {es : List Ent} {ps : List α} (h : ps.length = es.length) (e : Ent) (p : α) : idTab (es ++ [e]) (ps ++ [p]) = idTab es ps ++ [(e.ride.id, p)] := by
  unfold idTab
  rw [List.map_append, List.zip_append (by simpa using h.symm)]; rfl

theorem idTab_key {α : Type} {es : List Ent} {ps : List α} {p : Str × α} (h : p ∈ idTab es ps) : ∃ e ∈ es, e.ride.id = p.1 := by
  have := (List.of_mem_zip h).1
  obtain ⟨e, he, h⟩ := List.mem_map.1 this
  exact ⟨e, he, h⟩

theorem desk_put_vo {H : Heap} {d : Nat} {A : Addr} (h : H[d]? = some (deskB A)) (v : AV) (hv : v.cells = [v] ∧ v.storable = true) (ps : List Nat) : storeAV H 1 (.ptr d 0 3) v = some (H.set d (deskB { A with vo := v, ps := ps })) := by
  have h2 : [AV.agg (deskL A)][0]? = some (.agg (deskL A)) := rfl
  have h3 : H[d]? = some (.arr 8 [.agg (deskL A)]) := h
  have := store_ptr (n := 1) (x := v) (o := 3) h3 h2 (by rw [hv.1]; rfl) (by rw [hv.1]; simp [hv.2]) (by simp [AV.cells, deskL]) rfl
  rw [this, hv.1]; rfl

theorem Rep.pushEnt {H : Heap} {d : Nat} {A : Addr} {D : Desk} {rs : List Int} (h : Rep H d A D rs) {p : Nat} {e : Ent} (hp : H[p]? = some (entB e)) (hout : Out d A p) (hid : ∀ x ∈ D.ents, x.ride.id ≠ e.ride.id) (hl : D.ents.length < 1000000) :
    ∃ H4 v' H6, mapUpdateAV H (.one .str) (.map A.am) (.str e.ride.id) (P0 p) = some H4 ∧ H4[d]? = some (deskB A) ∧ appendX (H4 ++ [.arr 1 [P0 p]]) 1 8 A.vo (.slice H4.length 0 1) = some (v', H6) ∧ H6[d]? = some (deskB A) ∧ (v'.cells = [v'] ∧ v'.storable = true) ∧
      Rep (H6.set d (deskB { A with vo := v', ps := A.ps ++ [p] })) d { A with vo := v', ps := A.ps ++ [p] } { D with ents := D.ents ++ [e] } rs ∧ H.length ≤ H6.length ∧
      ∀ b k, H[b]? = some k → Out d A b → b ≠ p → (H6.set d (deskB { A with vo := v', ps := A.ps ++ [p] }))[b]? = some k ∧ Out d { A with vo := v', ps := A.ps ++ [p] } b := by
  obtain ⟨g, hg⟩ := h.tags
  have hupd := update_map P0 e.ride.id p h.all
  rw [upd_new (fun q hq => by obtain ⟨x, hx, e'⟩ := idTab_key hq; rw [← e']; exact hid x hx), ← idTab_snoc h.len] at hupd
  generalize hm : Blk.map (tks (idTab (D.ents ++ [e]) (A.ps ++ [p]))) (tvs P0 (idTab (D.ents ++ [e]) (A.ps ++ [p]))) = M at hupd
  have dam : A.am ≠ d := fun e => by have := hg.am; rw [e, hg.d] at this; omega
  have drm : A.rm ≠ d := fun e => by have := hg.rm; rw [e, hg.d] at this; omega
  have k4 : ∀ b k, H[b]? = some k → b ≠ A.am → (H.set A.am M ++ [Blk.arr 1 [P0 p]])[b]? = some k := fun b k hb hne => app_old _ (set_other _ hne hb)
  have am5 : (H.set A.am M ++ [Blk.arr 1 [P0 p]])[A.am]? = some M := app_old _ (set_same _ h.all)
  have vam : A.vo.blockOf ≠ some A.am := fun e => by have := hg.vo _ e; rw [hg.am] at this; omega
  have ho5 : Own (H.set A.am M ++ [.arr 1 [P0 p]]) 1 A.vo (A.ps.map P0) := (h.order.setc vam).app _
  obtain ⟨v', H6, e1, e2, e3⟩ := ho5.appendL (bytes := 8) (lay_ptr id) p (elems_new (H.set A.am M) (P0 p)) (by omega) (by have := h.len; omega)
  have vd : A.vo.blockOf ≠ some d := fun e => by have := hg.vo _ e; rw [hg.d] at this; omega
  have hd5 := k4 d _ h.desk (Ne.symm dam)
  have hd6 := e3.old d _ hd5 vd
  have hcells := e2.cells
  have k6 : ∀ b k, H[b]? = some k → g b ≠ 0 → g b ≠ 2 → g b ≠ 3 → (H6.set d (deskB { A with vo := v', ps := A.ps ++ [p] }))[b]? = some k ∧ v'.blockOf ≠ some b := by
    intro b k hb h0 h2 h3
    have nd : b ≠ d := fun e => h0 (by rw [e]; exact hg.d)
    have nam : b ≠ A.am := fun e => h2 (by rw [e]; exact hg.am)
    have := e3.old b _ (k4 b k hb nam) (fun e => h3 (hg.vo b e))
    exact ⟨set_other _ nd this.1, this.2⟩
  have ow : ∀ sz w l (t : Nat), Own H sz w l → (∀ c, w.blockOf = some c → g c = t) → t ≠ 0 → t ≠ 2 → t ≠ 3 → Own (H6.set d (deskB { A with vo := v', ps := A.ps ++ [p] })) sz w l ∧ ∀ c, w.blockOf = some c → v'.blockOf ≠ some c ∧ p ≠ c → (if c = p then 8 + A.ps.length else if v'.blockOf = some c then 3 else g c) = t := by
    intro sz w l t hw ht h0 h2 h3
    refine ⟨hw.keep fun c k hc hk => (k6 c k hk (by rw [ht c hc]; exact h0) (by rw [ht c hc]; exact h2) (by rw [ht c hc]; exact h3)).1, fun c hc hv => ?_⟩
    rw [if_neg (Ne.symm hv.2), if_neg hv.1]; exact ht c hc
  have nv : ∀ sz w l (t : Nat), Own H sz w l → (∀ c, w.blockOf = some c → g c = t) → t ≠ 0 → t ≠ 2 → t ≠ 3 → ∀ c, w.blockOf = some c → v'.blockOf ≠ some c := by
    intro sz w l t hw ht h0 h2 h3 c hc
    rcases hw with ⟨rfl, _⟩ | ⟨b, es, rfl, hb, _⟩
    · cases hc
    · have hbc : b = c := Option.some.inj hc
      subst hbc
      exact (k6 b _ hb (by rw [ht b rfl]; exact h0) (by rw [ht b rfl]; exact h2) (by rw [ht b rfl]; exact h3)).2
  have nam6 := e3.old A.am _ am5 vam
  refine ⟨_, v', H6, hupd, set_other _ (Ne.symm dam) h.desk, ?_, hd6.1, hcells, ⟨set_same _ hd6.1, (k6 _ _ h.tab (by rw [hg.rm]; omega) (by rw [hg.rm]; omega) (by rw [hg.rm]; omega)).1, ?_, h.rv, h.rvc, ?_, ?_, ?_, ?_, ?_, by simp [h.len], fun i hi => ?_, ?_⟩, ?_, ?_⟩
  · simpa using e1
  · simp only
    rw [hm]
    exact set_other _ dam nam6.1
  · exact Own.setc e2 hd6.2
  · exact (ow _ _ _ 4 h.used hg.vu (by omega) (by omega) (by omega)).1
  · exact (ow _ _ _ 5 h.moved hg.vm (by omega) (by omega) (by omega)).1
  · exact (ow _ _ _ 6 h.refused hg.vr (by omega) (by omega) (by omega)).1
  · exact (ow _ _ _ 7 h.late hg.vl (by omega) (by omega) (by omega)).1
  · simp only [List.length_append, List.length_singleton] at hi
    by_cases hil : i < A.ps.length
    · have hne := hg.ps i hil
      simp only [List.getElem_append_left hil]
      have : entAt (D.ents ++ [e]) i = entAt D.ents i := by
        unfold entAt; rw [List.getD_eq_getElem?_getD, List.getElem?_append_left (by have := h.len; omega), ← List.getD_eq_getElem?_getD]
      rw [this]
      exact (k6 _ _ (h.ents i hil) (by rw [hne]; omega) (by rw [hne]; omega) (by rw [hne]; omega)).1
    · have hi' : i = A.ps.length := by omega
      subst hi'
      have : entAt (D.ents ++ [e]) A.ps.length = e := by rw [h.len]; simp [entAt]
      simp only [this]
      have hg1 : (A.ps ++ [p])[A.ps.length]'(by simp) = p := by simp
      rw [hg1]
      exact set_other _ (Ne.symm hout.d) (e3.old p _ (k4 p _ hp (Ne.symm hout.am)) hout.vo).1
  · have pr : ∀ sz w l (t : Nat), Own H sz w l → (∀ c, w.blockOf = some c → g c = t) → t ≠ 0 → t ≠ 2 → t ≠ 3 → w.blockOf ≠ some p → ∀ c, w.blockOf = some c → (if c = p then 8 + A.ps.length else if v'.blockOf = some c then 3 else g c) = t := fun sz w l t hw ht h0 h2 h3 hwp c hc =>
      (ow sz w l t hw ht h0 h2 h3).2 c hc ⟨nv sz w l t hw ht h0 h2 h3 c hc, fun e => hwp (by rw [e]; exact hc)⟩
    refine ⟨fun b => if b = p then 8 + A.ps.length else if v'.blockOf = some b then 3 else g b, ?_, ?_, ?_, ?_, ?_, ?_, ?_, ?_, ?_⟩
    · show (if _ then _ else _) = _; rw [if_neg hout.d, if_neg hd6.2]; exact hg.d
    · show (if _ then _ else _) = _
      rw [if_neg hout.rm, if_neg (k6 _ _ h.tab (by rw [hg.rm]; omega) (by rw [hg.rm]; omega) (by rw [hg.rm]; omega)).2]; exact hg.rm
    · show (if _ then _ else _) = _; rw [if_neg hout.am, if_neg nam6.2]; exact hg.am
    · intro c hc
      have hvp : v'.blockOf ≠ some p := (e3.old p _ (k4 p _ hp (Ne.symm hout.am)) hout.vo).2
      show (if _ then _ else _) = _
      rw [if_neg (fun e => hvp (by rw [← e]; exact hc)), if_pos hc]
    · exact pr _ _ _ 4 h.used hg.vu (by omega) (by omega) (by omega) hout.vu
    · exact pr _ _ _ 5 h.moved hg.vm (by omega) (by omega) (by omega) hout.vm
    · exact pr _ _ _ 6 h.refused hg.vr (by omega) (by omega) (by omega) hout.vr
    · exact pr _ _ _ 7 h.late hg.vl (by omega) (by omega) (by omega) hout.vl
    · intro i hi
      simp only [List.length_append, List.length_singleton] at hi
      by_cases hil : i < A.ps.length
      · have hne := hg.ps i hil
        simp only [List.getElem_append_left hil]
        rw [if_neg (fun e => hout.ps (by rw [← e]; exact List.getElem_mem hil)), if_neg (k6 _ _ (h.ents i hil) (by rw [hne]; omega) (by rw [hne]; omega) (by rw [hne]; omega)).2]
        exact hne
      · have hi' : i = A.ps.length := by omega
        subst hi'
        have hg1 : (A.ps ++ [p])[A.ps.length]'(by simp) = p := by simp
        simp only [hg1, if_true]
  · have := e3.len
    simp at this; omega
  · intro b k hb ho hbp
    have := e3.old b _ (k4 b k hb (Ne.symm ho.am)) ho.vo
    refine ⟨set_other _ (Ne.symm ho.d) this.1, ⟨ho.d, ho.rm, ho.am, this.2, ho.vu, ho.vm, ho.vr, ho.vl, ?_⟩⟩
    intro hm'
    rcases List.mem_append.1 hm' with hm' | hm'
    · exact ho.ps hm'
    · simp at hm'; exact hbp hm'


def Desk.usedBy (D : Desk) (r : Ride) : List Int := if D.fits r then D.used.set ((D.room r).getD 0) (D.used.getD ((D.room r).getD 0) 0 + r.size) else D.used

theorem place_ok {H : Heap} {d : Nat} {A : Addr} {D : Desk} {rs : List Int} (h : Rep H d A D rs) (hn : Neat D) {p : Nat} {e : Ent} (hp : H[p]? = some (entB e)) (hf : Fit e.ride) (hv : A.vu.blockOf ≠ some p) (t : Int) :
    ∃ H1, R prog f_request_desk_place [P0 d, P0 p, I t] H = some (.tuple [], H1.set p (entB ⟨⟨e.ride, if D.fits e.ride then 1 else 2, t⟩, e.opn⟩)) ∧ Own H1 1 A.vu ((D.usedBy e.ride).map I) ∧ Keeps H H1 A.vu A.vu ∧ H1.length = H.length ∧ H1[p]? = some (entB e) := by
  suffices hs : ∃ H1, Own H1 1 A.vu ((D.usedBy e.ride).map I) ∧ Keeps H H1 A.vu A.vu ∧ H1.length = H.length ∧ H1[p]? = some (entB e) ∧ Yl (R prog f_request_desk_place [P0 d, P0 p, I t] H) fun v H' => v = .tuple [] ∧ H' = H1.set p (entB ⟨⟨e.ride, if D.fits e.ride then 1 else 2, t⟩, e.opn⟩) by
    obtain ⟨H1, a1, a2, a3, a4, v, H', a5, rfl, rfl⟩ := hs
    exact ⟨H1, a5, a1, a2, a3, a4⟩
  have hsn := h.snap
  have hse : X.snap H deep (P0 p) = some (.vptr (entC e)) := snap_ent hp 10
  have hft := fits_ok (H := H) (v := P0 d) (w := P0 p) hsn hse hn hf
  cases hb : D.fits e.ride with
  | false =>
    refine ⟨H, ?_, .refl _ _, rfl, hp, ?_⟩
    · unfold Desk.usedBy; rw [hb]; exact h.used
    refine r_request_desk_place _ _ _ _ ?_
    have p1 := ent_put hp ⟨⟨e.st.ride, 2, e.st.since⟩, e.opn⟩ 8 1 (I 2) (by omega) rfl rfl rfl
    have p2 := ent_put (set_same (entB ⟨⟨e.st.ride, 2, e.st.since⟩, e.opn⟩) hp) ⟨⟨e.st.ride, 2, t⟩, e.opn⟩ 9 1 (I t) (by omega) rfl rfl rfl
    simp only [hft, hb, p1, p2, SS]
    exact ⟨trivial, by simp⟩
  | true =>
    obtain ⟨k, hr⟩ : ∃ k, D.room e.ride = some k := by
      unfold Desk.fits at hb
      cases hr : D.room e.ride with
      | none => rw [hr] at hb; cases hb
      | some k => exact ⟨k, rfl⟩
    have hk : k < D.used.length := by rw [hn.len]; exact room_lt hr
    have hrm := room_ok (H := H) (v := P0 d) hsn hn.rooms e.ride
    have hrm' : pureCall prog (R prog) f_request_desk_room [P0 d, encRide e.st.ride] H = some (I (k : Int)) := by rw [hrm, hr]; rfl
    have hst := seats_ok (H := H) (v := P0 p) hse hf
    have hu := used_getD hn k
    have hz := size_bound hf
    obtain ⟨q, e1, e2⟩ := h.used.loadL lay_int (i := k) hk
    obtain ⟨q', H1, f1, f2, o1, k1, l1⟩ := h.used.storeL lay_int (i := k) hk (D.used.getD k 0 + e.ride.size)
    have hg : D.used[k] = D.used.getD k 0 := by rw [List.getD_eq_getElem?_getD, List.getElem?_eq_getElem hk]; rfl
    rw [hg] at e2
    have hp1 : H1[p]? = some (entB e) := (k1.old p _ hp hv).1
    refine ⟨H1, ?_, k1, l1, hp1, ?_⟩
    · unfold Desk.usedBy; rw [hb, hr]; exact o1
    refine r_request_desk_place _ _ _ _ ?_
    have p1 := ent_put hp1 ⟨⟨e.st.ride, 1, e.st.since⟩, e.opn⟩ 8 1 (I 1) (by omega) rfl rfl rfl
    have p2 := ent_put (set_same (entB ⟨⟨e.st.ride, 1, e.st.since⟩, e.opn⟩) hp1) ⟨⟨e.st.ride, 1, t⟩, e.opn⟩ 9 1 (I t) (by omega) rfl rfl rfl
    simp only [hft, hb, desk_vu h.desk, ent_ride hp, hrm', e1, e2, hst, SS]
    rw [add64 _ _ (by omega) (by omega)]
    have hq : q = q' := by rw [e1] at f1; exact Option.some.inj f1
    subst hq
    simp only [f2, p1, p2, SS]
    exact ⟨trivial, by simp⟩

theorem place_eq (D : Desk) (i : Nat) (t : Int) : D.place i t = ({ D with used := D.usedBy (entAt D.ents i).ride } : Desk).setEnt i ⟨⟨(entAt D.ents i).ride, if D.fits (entAt D.ents i).ride then 1 else 2, t⟩, (entAt D.ents i).opn⟩ := by
  unfold Desk.place Desk.usedBy
  simp only
  cases D.fits (entAt D.ents i).ride <;> simp [Desk.setEnt, Desk.addUsed]

theorem placeIn_ok {H : Heap} {d : Nat} {A : Addr} {D : Desk} {rs : List Int} (h : Rep H d A D rs) (hn : Neat D) {i : Nat} (hi : i < A.ps.length) (t : Int) :
    ∃ H', R prog f_request_desk_place [P0 d, P0 A.ps[i], I t] H = some (.tuple [], H') ∧ Rep H' d A (D.place i t) rs ∧ Fr H H' d A A := by
  obtain ⟨g, hg⟩ := h.tags
  have hil : i < D.ents.length := by rw [← h.len]; exact hi
  have hv : A.vu.blockOf ≠ some A.ps[i] := fun e => by have := hg.vu _ e; rw [hg.ps i hi] at this; omega
  obtain ⟨H1, e1, e2, e3, e4, e5⟩ := place_ok h hn (h.ents i hi) (hn.fit _ (entAt_mem hil)) hv t
  refine ⟨_, e1, ?_, (Fr.keeps e3).trans (Fr.setEnt hi _)⟩
  rw [place_eq]
  exact (h.setUsed e2 e3).setEnt hi _ rfl

theorem leave_ok {H : Heap} {d : Nat} {A : Addr} {D : Desk} {rs : List Int} (h : Rep H d A D rs) (hn : Neat D) {i : Nat} (hi : i < A.ps.length) (hs : (entAt D.ents i).st.state = 1 → ∃ k, D.room (entAt D.ents i).ride = some k) :
    ∃ H', R prog f_request_desk_leave [P0 d, P0 A.ps[i]] H = some (I (Desk.roomI (D.room (entAt D.ents i).ride)), H') ∧ Rep H' d A (D.leave i) rs ∧ Fr H H' d A A := by
  suffices hh : ∃ H', Rep H' d A (D.leave i) rs ∧ Fr H H' d A A ∧ Yl (R prog f_request_desk_leave [P0 d, P0 A.ps[i]] H) fun v H2 => v = I (Desk.roomI (D.room (entAt D.ents i).ride)) ∧ H2 = H' by
    obtain ⟨H', a1, a2, v, H2, a3, rfl, rfl⟩ := hh
    exact ⟨H2, a3, a1, a2⟩
  have hil : i < D.ents.length := by rw [← h.len]; exact hi
  have he := h.ents i hi
  have hf := hn.fit _ (entAt_mem hil)
  have hrm := room_ok (H := H) (v := P0 d) h.snap hn.rooms (entAt D.ents i).ride
  have hst := seats_ok (H := H) (v := P0 A.ps[i]) (snap_ent he 10) hf
  have hz := size_bound hf
  unfold Desk.leave
  generalize entAt D.ents i = e at he hf hrm hst hz hs ⊢
  simp only
  by_cases h1 : e.st.state = 1
  · rw [if_pos h1]
    obtain ⟨k, hr⟩ := hs h1
    have hk : k < D.used.length := by rw [hn.len]; exact room_lt hr
    have hrm' : pureCall prog (R prog) f_request_desk_room [P0 d, encRide e.st.ride] H = some (I (k : Int)) := by rw [hrm, hr]; rfl
    have hu := used_getD hn k
    obtain ⟨q, e1, e2⟩ := h.used.loadL lay_int (i := k) hk
    obtain ⟨q', H1, f1, f2, o1, k1, l1⟩ := h.used.storeL lay_int (i := k) hk (D.used.getD k 0 + -e.ride.size)
    have hg : D.used[k] = D.used.getD k 0 := by rw [List.getD_eq_getElem?_getD, List.getElem?_eq_getElem hk]; rfl
    rw [hg] at e2
    refine ⟨H1, ?_, Fr.keeps k1, ?_⟩
    · rw [hr]; exact h.setUsed o1 k1
    refine r_request_desk_leave _ _ _ ?_
    simp only [desk_vu h.desk, ent_ride he, ent_state he, hrm', e1, e2, hst, h1, decide_true, SS]
    rw [sub64 _ _ (by omega) (by omega), show D.used.getD k 0 - e.ride.size = D.used.getD k 0 + -e.ride.size by omega]
    have hq : q = q' := by rw [e1] at f1; exact Option.some.inj f1
    subst hq
    simp only [f2, SS]
    exact ⟨by rw [hr]; rfl, trivial⟩
  · rw [if_neg h1]
    refine ⟨H, h, .refl _ _ _, ?_⟩
    refine r_request_desk_leave _ _ _ ?_
    have hrm' : pureCall prog (R prog) f_request_desk_room [P0 d, encRide e.st.ride] H = some (I (Desk.roomI (D.room e.ride))) := hrm
    simp only [ent_ride he, ent_state he, hrm', h1, decide_false, SS]
    exact ⟨trivial, trivial⟩
end Y
end Go.Proofs.YtplginnkececaaaGreatDoor

set_option linter.unusedSimpArgs false
set_option linter.unusedVariables false
namespace Go.Proofs.YtplginnkececaaaGreatDoor
open Go
namespace Y
open X

abbrev HO := Option (AV × Heap)

def InsStep0 (SZ : Nat) (LD : Option Nat) (L0 : AV → AV → AV → AV → AV → AV → Heap → (AV → AV → AV → AV → AV → Heap → HO) → HO) : Prop :=
  ∀ (v0 v1 v2 v3 v8 v9 : AV) (H : Heap) (k2 : AV → AV → AV → AV → AV → Heap → HO) (Q : AV → Heap → Prop), Yl (
(binAV H .gtr (.one .int) v9 v1).bind fun v20 =>
 gB v20 (
(indexV H SZ v0 v9).bind fun v25 =>
(loadAV H LD v25).bind fun v26 =>
(binAV H .sub (.one .int) v9 (.int .i64 1)).bind fun v29 =>
(indexV H SZ v0 v29).bind fun v30 =>
(loadAV H LD v30).bind fun v31 =>
 callK prog (R prog) v3 [v26, v31] H fun v32 H1 =>
(binAV H1 .lss (.one .int) v32 (.int .i64 0)).bind fun v33 =>
 condK v33 (
(binAV H1 .sub (.one .int) v9 (.int .i64 1)).bind fun v41 =>
(binAV H1 .sub (.one .int) v9 (.int .i64 1)).bind fun v44 =>
(indexV H1 SZ v0 v44).bind fun v45 =>
(loadAV H1 LD v45).bind fun v46 =>
(indexV H1 SZ v0 v9).bind fun v49 =>
(loadAV H1 LD v49).bind fun v50 =>
(indexV H1 SZ v0 v9).bind fun v51 =>
(storeAV H1 SZ v51 v46).bind fun H2 =>
(indexV H2 SZ v0 v41).bind fun v52 =>
(storeAV H2 SZ v52 v50).bind fun H3 =>
(binAV H3 .sub (.one .int) v9 (.int .i64 1)).bind fun v36 =>
 L0 v0 v1 v2 v3 v8 v36 H3 k2) (
 k2 v0 v1 v2 v3 v8 H1)) (
 k2 v0 v1 v2 v3 v8 H)) Q → Yl (L0 v0 v1 v2 v3 v8 v9 H k2) Q

def InsStep1 (L0 : AV → AV → AV → AV → AV → AV → Heap → (AV → AV → AV → AV → AV → Heap → HO) → HO) (L1 : AV → AV → AV → AV → AV → Heap → (Heap → HO) → HO) : Prop :=
  ∀ (v0 v1 v2 v3 v8 : AV) (H : Heap) (k0 : Heap → HO) (Q : AV → Heap → Prop), Yl (
(binAV H .lss (.one .int) v8 v2).bind fun v14 =>
 condK v14 (
 L0 v0 v1 v2 v3 v8 v8 H (fun v0_1 v1_1 v2_1 v3_1 v8_1 H4 =>
(binAV H4 .add (.one .int) v8_1 (.int .i64 1)).bind fun v16 =>
 L1 v0_1 v1_1 v2_1 v3_1 v16 H4 k0)) (
 k0 H)) Q → Yl (L1 v0 v1 v2 v3 v8 H k0) Q

def InsStepR (L1 : AV → AV → AV → AV → AV → Heap → (Heap → HO) → HO) (f : Nat) : Prop :=
  ∀ (v0 v1 v2 v3 : AV) (H : Heap) (Q : AV → Heap → Prop), Yl (
(binAV H .add (.one .int) v1 (.int .i64 1)).bind fun v11 =>
 L1 v0 v1 v2 v3 v11 H (fun H5 => some (.tuple [], H5))) Q → Yl (R prog f [v0, v1, v2, v3] H) Q

section
variable {α : Type} {enc : α → AV} {c : α → α → Int} {cmp v : AV} {A : α → Prop} {P : Heap → Prop} {SZ : Nat} {LD : Option Nat}
variable {L0 : AV → AV → AV → AV → AV → AV → Heap → (AV → AV → AV → AV → AV → Heap → HO) → HO} {L1 : AV → AV → AV → AV → AV → Heap → (Heap → HO) → HO}

theorem insInG (h0 : InsStep0 SZ LD L0) (hz : Lay SZ LD enc) (hc : Cmp A P enc cmp c) (hP : Steady P v) {i : AV} {n : AV} {k2 : AV → AV → AV → AV → AV → Heap → Option (AV × Heap)} {Q : AV → Heap → Prop} (r : List α) :
    ∀ (x : α) (s t : List α) (H : Heap), (r.length + s.length + t.length < 1000000) → (∀ a ∈ x :: r, A a) → P H → Own H SZ v ((r.reverse ++ x :: s ++ t).map enc) →
    (∀ H', P H' → Own H' SZ v ((sink c r x s ++ t).map enc) → Keeps H H' v v → H'.length = H.length → Yl (k2 v (I 0) n cmp i H') Q) → Yl (L0 v (I 0) n cmp i (I r.length) H k2) Q := by
  induction r with
  | nil =>
    intro x s t H hl hA hp ho hk
    refine h0 _ _ _ _ _ _ _ _ _ ?_
    simp only [SS, List.length_nil]
    rw [if_neg (by omega)]
    exact hk H hp (by simpa [sink] using ho) (.refl _ _) rfl
  | cons y r ih =>
    intro x s t H hl hA hp ho hk
    refine h0 _ _ _ _ _ _ _ _ _ ?_
    have he : (y :: r).reverse ++ x :: s ++ t = r.reverse ++ y :: x :: (s ++ t) := by simp
    rw [he] at ho
    have hlen : (r.reverse ++ y :: x :: (s ++ t)).length = r.length + (s.length + t.length) + 2 := by simp; omega
    have g1 : (r.reverse ++ y :: x :: (s ++ t))[r.length + 1]'(by omega) = x := by simp [List.getElem_append_right]
    have g0 : (r.reverse ++ y :: x :: (s ++ t))[r.length]'(by omega) = y := by simp [List.getElem_append_right]
    obtain ⟨p1, e1, e2⟩ := ho.loadL hz (i := r.length + 1) (by omega)
    obtain ⟨p0, e3, e4⟩ := ho.loadL hz (i := r.length) (by omega)
    simp only [List.length_cons] at hl
    simp only [SS, List.length_cons]
    rw [if_pos (by omega)]
    simp only [e1, e2, SS]
    rw [pred64 _ _ (by omega) (by omega)]
    simp only [e3, e4, SS, Nat.add_sub_cancel, g0, g1]
    rw [hc x y H _ (hA x (by simp)) (hA y (by simp)) hp]
    simp only [SS]
    by_cases hlt : c x y < 0
    · rw [if_pos hlt, pred64 _ _ (by omega) (by omega)]
      simp only [e3, e4, e1, e2, SS, Nat.add_sub_cancel, g0, g1]
      obtain ⟨q1, H1, f1, f2, o1, k1, l1⟩ := ho.storeL hz (i := r.length + 1) (by omega) y
      obtain ⟨q0, H2, f3, f4, o2, k2', l2⟩ := o1.storeL hz (i := r.length) (by rw [List.length_set]; omega) x
      rw [show p1 = q1 by rw [e1] at f1; exact Option.some.inj f1]
      simp only [f2, f3, f4, SS]
      rw [pred64 _ _ (by omega) (by omega)]
      simp only [SS, Nat.add_sub_cancel]
      have hset : ((r.reverse ++ y :: x :: (s ++ t)).set (r.length + 1) y).set r.length x = r.reverse ++ x :: (y :: s) ++ t := by
        have := swap_at r.reverse y x (s ++ t)
        rw [List.length_reverse] at this
        rw [this]; simp
      rw [hset] at o2
      refine ih x (y :: s) t H2 (by simp; omega) (fun a ha => hA a (by simp at ha ⊢; rcases ha with h | h <;> simp [h])) (hP _ _ (hP _ _ hp k1 l1) k2' l2) o2 fun H' hp' o' kp ll => ?_
      refine hk H' hp' ?_ ((k1.trans k2').trans kp) (by omega)
      simpa [sink, hlt] using o'
    · rw [if_neg hlt]
      refine hk H hp ?_ (.refl _ _) rfl
      simp only [sink, hlt, if_false]
      simpa using ho

theorem insOutG (h0 : InsStep0 SZ LD L0) (h1 : InsStep1 L0 L1) (hz : Lay SZ LD enc) (hc : Cmp A P enc cmp c) (hP : Steady P v) {k0 : Heap → Option (AV × Heap)} {Q : AV → Heap → Prop} (t : List α) :
    ∀ (d : List α) (H : Heap), d.length + t.length < 1000000 → (∀ a ∈ d ++ t, A a) → P H → Own H SZ v ((d ++ t).map enc) → (∀ H', P H' → Own H' SZ v ((sortGo c d t).map enc) → Keeps H H' v v → H'.length = H.length → Yl (k0 H') Q) →
    Yl (L1 v (I 0) (I ((d.length + t.length : Nat) : Int)) cmp (I d.length) H k0) Q := by
  induction t with
  | nil =>
    intro d H hl hA hp ho hk
    refine h1 _ _ _ _ _ _ _ _ ?_
    simp only [SS, List.length_nil]
    rw [if_neg (by omega)]
    exact hk H hp (by simpa [sortGo] using ho) (.refl _ _) rfl
  | cons x t ih =>
    intro d H hl hA hp ho hk
    refine h1 _ _ _ _ _ _ _ _ ?_
    simp only [List.length_cons] at hl ⊢
    simp only [SS]
    rw [if_pos (by omega)]
    have := insInG (v := v) h0 hz hc hP (i := I d.length) (n := I ((d.length + (t.length + 1) : Nat) : Int)) (k2 := fun v0_1 v1_1 v2_1 v3_1 v8_1 H4 =>
      (binAV H4 .add (.one .int) v8_1 (.int .i64 1)).bind fun v16 => L1 v0_1 v1_1 v2_1 v3_1 v16 H4 k0) (Q := Q) d.reverse x [] t H (by simp; omega) (fun a ha => hA a (by simp at ha ⊢; rcases ha with h | h <;> simp [h])) hp (by simpa using ho) (fun H' hp' o' kp ll => by
        rw [succ64 _ _ (by omega)]
        simp only [SS]
        have hsl : (sink c d.reverse x []).length = d.length + 1 := by rw [sink_len]; simp
        have hm : ∀ a ∈ sink c d.reverse x [] ++ t, A a := by
          intro a ha
          refine hA a ?_
          rcases List.mem_append.1 ha with h | h
          · have := (sink_perm c d.reverse x []).subset h
            simp at this
            rcases this with h | h <;> simp [h]
          · simp [h]
        have := ih (sink c d.reverse x []) H' (by omega) hm hp' o' fun H'' hp'' o'' kp' ll' => hk H'' hp'' o'' (kp.trans kp') (by omega)
        rw [hsl, show d.length + 1 + t.length = d.length + (t.length + 1) by omega] at this
        exact this)
    rw [List.length_reverse] at this
    exact this

theorem insG {f : Nat} (h0 : InsStep0 SZ LD L0) (h1 : InsStep1 L0 L1) (hr : InsStepR L1 f) (hz : Lay SZ LD enc) (hc : Cmp A P enc cmp c) (hP : Steady P v) {l : List α} (hl : l.length < 1000000) (hA : ∀ a ∈ l, A a) {H : Heap} (hp : P H) (ho : Own H SZ v (l.map enc)) :
    ∃ H', R prog f [v, I 0, I l.length, cmp] H = some (.tuple [], H') ∧ P H' ∧ Own H' SZ v ((sortI c l).map enc) ∧ Keeps H H' v v ∧ H'.length = H.length := by
  suffices h : Yl (R prog f [v, I 0, I l.length, cmp] H) fun r H' => r = .tuple [] ∧ P H' ∧ Own H' SZ v ((sortI c l).map enc) ∧ Keeps H H' v v ∧ H'.length = H.length by
    obtain ⟨r, H', h1, rfl, h2⟩ := h
    exact ⟨H', h1, h2⟩
  refine hr _ _ _ _ _ _ ?_
  rw [add64 _ _ (by omega) (by omega)]
  simp only [SS]
  cases l with
  | nil =>
    refine h1 _ _ _ _ _ _ _ _ ?_
    simp only [SS, List.length_nil]
    rw [if_neg (by omega)]
    exact yl_some.2 ⟨rfl, hp, ho, .refl _ _, rfl⟩
  | cons x l =>
    have := insOutG (v := v) h0 h1 hz hc hP (k0 := fun H5 => some (.tuple [], H5)) (Q := fun r H' => r = .tuple [] ∧ P H' ∧ Own H' SZ v ((sortI c (x :: l)).map enc) ∧ Keeps H H' v v ∧ H'.length = H.length) l [x] H (by simp at hl ⊢; omega) (by simpa using hA) hp ho (fun H' hp o k ll => yl_some.2 ⟨rfl, hp, o, k, ll⟩)
    simpa [Nat.add_comm] using this
end
end Y
end Go.Proofs.YtplginnkececaaaGreatDoor

set_option linter.unusedSimpArgs false
set_option linter.unusedVariables false
namespace Go.Proofs.YtplginnkececaaaGreatDoor
open Go
namespace Y
open X

section
variable {α : Type} {enc : α → AV} {c : α → α → Int} {cmp v : AV} {A : α → Prop} {P : Heap → Prop}

theorem ins_request_entry (hz : Lay 1 none enc) (hc : Cmp A P enc cmp c) (hP : Steady P v) {l : List α} (hl : l.length < 1000000) (hA : ∀ a ∈ l, A a) {H : Heap} (hp : P H) (ho : Own H 1 v (l.map enc)) :
    ∃ H', R prog f_slices_insertionSortCmpFunc_request_entry [v, I 0, I l.length, cmp] H = some (.tuple [], H') ∧ P H' ∧ Own H' 1 v ((sortI c l).map enc) ∧ Keeps H H' v v ∧ H'.length = H.length :=
  insG (fun v0 v1 v2 v3 v8 v9 H k2 Q h => l_slices_insertionSortCmpFunc_request_entry_0_s v0 v1 v2 v3 v8 v9 H k2 h) (fun v0 v1 v2 v3 v8 H k0 Q h => l_slices_insertionSortCmpFunc_request_entry_1_s v0 v1 v2 v3 v8 H k0 h) (fun v0 v1 v2 v3 H Q h => r_slices_insertionSortCmpFunc_request_entry v0 v1 v2 v3 H h) hz hc hP hl hA hp ho

theorem sort_request_entry (hz : Lay 1 none enc) (hc : Cmp A P enc cmp c) (hP : Steady P v) {l : List α} (hl : l.length ≤ 12) (hA : ∀ a ∈ l, A a) {H : Heap} (hp : P H) (ho : Own H 1 v (l.map enc)) :
    ∃ H', R prog f_slices_SortFunc_request_entry_request_entry [v, cmp] H = some (.tuple [], H') ∧ P H' ∧ Own H' 1 v ((sortI c l).map enc) ∧ Keeps H H' v v ∧ H'.length = H.length := by
  suffices h : Yl (R prog f_slices_SortFunc_request_entry_request_entry [v, cmp] H) fun r H' => r = .tuple [] ∧ P H' ∧ Own H' 1 v ((sortI c l).map enc) ∧ Keeps H H' v v ∧ H'.length = H.length by
    obtain ⟨r, H', h1, rfl, h2⟩ := h
    exact ⟨H', h1, h2⟩
  refine r_slices_SortFunc_request_entry_request_entry _ _ _ ?_
  have hlen : lenX H .slice v = some (I l.length) := by rw [ho.len]; simp
  obtain ⟨k, hb⟩ := bits_len l.length hl H
  obtain ⟨H', h1, h2⟩ := ins_request_entry hz hc hP (by omega) hA hp ho
  simp only [hlen, conv_len (show l.length < 1000000 by omega), hb, SS]
  refine Yl.bind (Q' := fun r H' => P H' ∧ Own H' 1 v ((sortI c l).map enc) ∧ Keeps H H' v v ∧ H'.length = H.length) ?_ fun r H' h => yl_some.2 ⟨rfl, h⟩
  refine r_slices_pdqsortCmpFunc_request_entry _ _ _ _ _ _ ?_
  refine l_slices_pdqsortCmpFunc_request_entry_0_s _ _ _ _ _ _ _ _ ?_
  rw [sub64 _ _ (by omega) (by omega)]
  simp only [SS]
  rw [if_pos (by omega)]
  simp only [h1, SS]
  exact h2
end
end Y
end Go.Proofs.YtplginnkececaaaGreatDoor

set_option linter.unusedSimpArgs false
set_option linter.unusedVariables false
namespace Go.Proofs.YtplginnkececaaaGreatDoor
open Go
namespace Y
open X

structure Good (D : Desk) : Prop where
  inv : Inv (fun _ _ => True) D
  rooms : D.rooms.length < 1000000
  seats : ∀ r ∈ D.rooms, 0 ≤ r.seats ∧ r.seats ≤ 1000000
  fit : ∀ e ∈ D.ents, Fit e.ride
  ents : D.ents.length ≤ 12

theorem mem_entAt {es : List Ent} {e : Ent} (h : e ∈ es) : ∃ i, i < es.length ∧ entAt es i = e := by
  obtain ⟨i, hi, h⟩ := List.getElem_of_mem h
  exact ⟨i, hi, by rw [entAt_get hi, h]⟩

theorem Good.neat {D : Desk} (h : Good D) : Neat D := by
  refine ⟨h.rooms, h.inv.len, fun n hn => ?_, h.fit, h.ents⟩
  obtain ⟨k, hk, rfl⟩ := List.getElem_of_mem hn
  have hkr : k < D.rooms.length := by rw [← h.inv.len]; exact hk
  have h1 := h.inv.used k hkr
  have h2 := h.inv.most k hkr
  have hg : D.used.getD k 0 = D.used[k] := by rw [List.getD_eq_getElem?_getD, List.getElem?_eq_getElem hk]; rfl
  have h3 : 0 ≤ sumE (cost D.rooms k) D.ents := sumE_nonneg fun e he => by
    obtain ⟨i, hi, rfl⟩ := mem_entAt he
    have := h.inv.size i hi
    unfold cost; split <;> omega
  have h4 := h.seats (D.rooms.getD k nilRoom) (by rw [List.getD_eq_getElem?_getD, List.getElem?_eq_getElem hkr]; exact List.getElem_mem hkr)
  rw [hg] at h1 h2
  omega

theorem place_fit {D : Desk} {i : Nat} (hi : i < D.ents.length) (t : Int) (h : ∀ e ∈ D.ents, Fit e.ride) : ∀ e ∈ (D.place i t).ents, Fit e.ride := by
  intro e he
  rw [place_eq] at he
  simp only [Desk.setEnt] at he
  rcases List.mem_or_eq_of_mem_set he with he | rfl
  · exact h e he
  · have := h _ (entAt_mem hi)
    exact this

theorem Good.place {D : Desk} (h : Good D) {i : Nat} (hi : i < D.ents.length) (ho : (entAt D.ents i).opn = true) (hs : (entAt D.ents i).st.state ≠ 1) (t : Int) : Good (D.place i t) := by
  refine ⟨Desk.Inv.weak (Desk.inv_place h.inv hi ho hs t) fun _ _ _ _ _ _ _ => trivial, by rw [Desk.place_rooms]; exact h.rooms, by rw [Desk.place_rooms]; exact h.seats, place_fit hi t h.fit, by rw [Desk.place_len]; exact h.ents⟩

theorem Good.up {D : Desk} (h : Good D) {i : Nat} (hi : i < D.ents.length) (ho : (entAt D.ents i).opn = true) (hs : (entAt D.ents i).st.state = 2) (t : Int) : Good (Desk.up t D i) := by
  unfold Desk.up
  split
  · have := h.place hi ho (by omega) t
    exact ⟨⟨this.inv.len, this.inv.used, this.inv.most, this.inv.size, this.inv.state, this.inv.sure, this.inv.full⟩, this.rooms, this.seats, this.fit, this.ents⟩
  · exact h

def Ext0 (H H' : Heap) : Prop := ∀ (b : Nat) (k : Blk), H[b]? = some k → H'[b]? = some k

theorem Ext0.refl (H : Heap) : Ext0 H H := fun _ _ h => h
theorem Ext0.trans {H H' H'' : Heap} (h : Ext0 H H') (h' : Ext0 H' H'') : Ext0 H H'' := fun b k hb => h' b k (h b k hb)
theorem Ext0.app (H : Heap) (l : List Blk) : Ext0 H (H ++ l) := fun b k hb => app_old l hb
theorem Ext0.len {H H' : Heap} (h : Ext0 H H') : H.length ≤ H'.length := by
  rcases Nat.eq_zero_or_pos H.length with h0 | h0
  · omega
  · have hl : H.length - 1 < H.length := by omega
    have := h _ _ (List.getElem?_eq_getElem hl)
    have := (List.getElem?_eq_some_iff.1 this).1
    omega
theorem Ext0.keeps {H0 H H' : Heap} {v v' : AV} (h : Ext0 H0 H) (k : Keeps H H' v v') (hv : Lo H0.length v) : Ext0 H0 H' := fun b j hb => (k.old b j (h b j hb) fun e => by have := hv b e; have := (List.getElem?_eq_some_iff.1 hb).1; omega).1

def pE (A : Addr) (i : Nat) : AV := P0 (A.ps.getD i 0)

theorem pE_get {A : Addr} {i : Nat} (h : i < A.ps.length) : pE A i = P0 A.ps[i] := by
  unfold pE; rw [List.getD_eq_getElem?_getD, List.getElem?_eq_getElem h]; rfl

theorem waiting_ok {H : Heap} {d : Nat} {A : Addr} {D : Desk} {rs : List Int} (h : Rep H d A D rs) (hn : Neat D) (k : Option Nat) :
    ∃ v H', R prog f_request_desk_waiting [P0 d, I (Desk.roomI k)] H = some (v, H') ∧ Ext0 H H' ∧ Own H' 1 v ((D.waiting k).map (pE A)) ∧ Lo H.length v := by
  refine r_request_desk_waiting _ _ _ ?_
  have hlen : lenX H .slice A.vo = some (I A.ps.length) := by rw [h.order.len]; simp
  simp only [desk_vo h.desk, hlen, SS]
  have key : ∀ (m i : Nat) (H1 : Heap) (v : AV), m + i = A.ps.length → Ext0 H H1 → Own H1 1 v (((List.range i).filter fun j => D.waits k (entAt D.ents j)).map (pE A)) → Lo H.length v →
      Yl (l_request_desk_waiting_0 (P0 d) (I (Desk.roomI k)) v A.vo (I A.ps.length) (I i) H1 (fun v5 H3 => (R prog f_slices_SortFunc_request_entry_request_entry [v5, (.func (.func f_request_byWait) [])] H3).bind fun r4 => some (v5, r4.2)))
        fun v H' => Ext0 H H' ∧ Own H' 1 v ((D.waiting k).map (pE A)) ∧ Lo H.length v := by
    intro m
    induction m with
    | zero =>
      intro i H1 v hm he ho hl
      refine l_request_desk_waiting_0_s _ _ _ _ _ _ _ _ ?_
      obtain rfl : i = A.ps.length := by omega
      simp only [SS]
      rw [if_neg (by omega)]
      have hA : ∀ j ∈ (List.range A.ps.length).filter (fun j => D.waits k (entAt D.ents j)), j < A.ps.length := fun j hj => List.mem_range.1 (List.mem_filter.1 hj).1
      have hle : ((List.range A.ps.length).filter fun j => D.waits k (entAt D.ents j)).length ≤ 12 := by
        refine Nat.le_trans (List.length_filter_le _ _) ?_
        rw [List.length_range, h.len]; exact hn.ents
      obtain ⟨H', e1, e2, e3, e4, e5⟩ := sort_request_entry (A := fun j => j < A.ps.length) (P := Ext0 H) (c := Desk.byWait D.ents) (cmp := .func (.func f_request_byWait) []) (lay_ptr fun j => A.ps.getD j 0) (by
        intro a b H2 K ha hb hp
        rw [callK_pure (by rfl), List.append_nil]
        have r2 := h.mono hp
        have s1 : X.snap H2 deep (P0 (A.ps.getD a 0)) = some (.vptr (entC (entAt D.ents a))) := by
          have := snap_ent (r2.ents a ha) 10
          rwa [← pE_get ha] at this
        have s2 : X.snap H2 deep (P0 (A.ps.getD b 0)) = some (.vptr (entC (entAt D.ents b))) := by
          have := snap_ent (r2.ents b hb) 10
          rwa [← pE_get hb] at this
        rw [byWait_ok s1 s2]
        rfl) (fun H2 H3 hp kp _ => hp.keeps kp hl) hle hA he ho
      simp only [e1, SS]
      refine ⟨e2, ?_, hl⟩
      unfold Desk.waiting
      rw [← h.len]
      exact e3
    | succ m ih =>
      intro i H1 v hm he ho hl
      refine l_request_desk_waiting_0_s _ _ _ _ _ _ _ _ ?_
      have hi : i < A.ps.length := by omega
      have hi12 : i < 12 := by have := h.len; have := hn.ents; omega
      have r1 := h.mono he
      obtain ⟨p, g1, g2⟩ := r1.order.loadL (lay_ptr id) (i := i) hi
      have g2 : loadAV H1 none p = some (P0 A.ps[i]) := g2
      have hx := r1.ents i hi
      have hf := hn.fit _ (entAt_mem (by rw [← h.len]; exact hi))
      have hrm := room_ok (H := H1) (v := P0 d) r1.snap hn.rooms (entAt D.ents i).ride
      have hrange : (List.range (i + 1)).filter (fun j => D.waits k (entAt D.ents j)) = (List.range i).filter (fun j => D.waits k (entAt D.ents j)) ++ if D.waits k (entAt D.ents i) then [i] else [] := by
        rw [List.range_succ, List.filter_append]
        congr 1
        cases hw : D.waits k (entAt D.ents i) <;> simp [hw]
      have hpe := pE_get hi
      simp only [SS]
      rw [if_pos (by omega)]
      simp only [g1, g2, ent_open hx, ent_state hx, ent_ride hx, SS]
      have hrm' : pureCall prog (R prog) f_request_desk_room [P0 d, encRide (entAt D.ents i).st.ride] H1 = some (I (Desk.roomI (D.room (entAt D.ents i).ride))) := hrm
      have no : D.waits k (entAt D.ents i) = false → Yl (l_request_desk_waiting_0 (P0 d) (I (Desk.roomI k)) v A.vo (I A.ps.length) (I ((i + 1 : Nat) : Int)) H1 (fun v5 H3 => (R prog f_slices_SortFunc_request_entry_request_entry [v5, (.func (.func f_request_byWait) [])] H3).bind fun r4 => some (v5, r4.2)))
          fun v H' => Ext0 H H' ∧ Own H' 1 v ((D.waiting k).map (pE A)) ∧ Lo H.length v := by
        intro hw
        refine ih (i + 1) H1 v (by omega) he ?_ hl
        rw [hrange, hw]; simpa using ho
      generalize entAt D.ents i = e at hx hf hrm' hrange no ⊢
      have hroomI : ∀ a b : Option Nat, Desk.roomI a = Desk.roomI b ↔ a = b := by
        intro a b
        constructor
        · intro hab
          rw [← Desk.ofI_roomI a, hab, Desk.ofI_roomI]
        · rintro rfl; rfl
      cases ho1 : e.opn with
      | false =>
        simp only [ho1, SS]
        rw [succ64 _ _ (by omega)]
        simp only [SS]
        exact no (by simp [Desk.waits, ho1])
      | true =>
        simp only [SS]
        by_cases hs : e.st.state = 2
        · rw [if_pos hs]
          simp only [hrm', hroomI, SS]
          by_cases hr : D.room e.ride = k
          · rw [if_pos hr, lit_own (H := H1) (v := P0 A.ps[i]) rfl rfl]
            simp only [SS]
            have hw : D.waits k e = true := by simp [Desk.waits, ho1, hs, hr]
            obtain ⟨v', H2, a1, a2, a3⟩ := (ho.app [.arr 1 [P0 A.ps[i]]]).appendL (bytes := 8) (lay_ptr fun j => A.ps.getD j 0) i (y := .slice H1.length 0 1) (by rw [elems_new]; exact congrArg (fun x => some [x]) hpe.symm) (by omega) (by
              have := List.length_filter_le (fun j => D.waits k (entAt D.ents j)) (List.range i)
              rw [List.length_range] at this
              have := h.len; have := hn.ents; omega)
            simp only [a1, SS]
            rw [succ64 _ _ (by omega)]
            simp only [SS]
            refine ih (i + 1) H2 v' (by omega) ((he.trans (Ext0.app _ _)).keeps a3 hl) ?_ ?_
            · rw [hrange, hw]; exact a2
            · have hle := he.len
              exact (a3.lo hl (by simp; omega)).1
          · rw [if_neg hr, succ64 _ _ (by omega)]
            simp only [SS]
            exact no (by simp [Desk.waits, hr])
        · rw [if_neg hs, succ64 _ _ (by omega)]
          simp only [SS]
          exact no (by simp [Desk.waits, hs])
  exact key A.ps.length 0 H .nilslice (by omega) (.refl _) (.nil _ _) (.nil _)

theorem Fr.ext {H H' : Heap} {d : Nat} {A : Addr} (h : Ext0 H H') : Fr H H' d A A := ⟨h.len, fun b k hb ho => ⟨h b k hb, ho⟩⟩

theorem Own.fr {H H' : Heap} {sz d : Nat} {A A' : Addr} {v : AV} {l : List AV} (h : Own H sz v l) (f : Fr H H' d A A') (ho : ∀ b, v.blockOf = some b → Out d A b) : Own H' sz v l ∧ ∀ b, v.blockOf = some b → Out d A' b := by
  rcases h with ⟨rfl, rfl⟩ | ⟨b, es, rfl, hb, h1, h2⟩
  · exact ⟨.nil _ _, fun b hb => by cases hb⟩
  · have := f.out b _ hb (ho b rfl)
    refine ⟨.inr ⟨b, es, rfl, this.1, h1, h2⟩, fun c hc => ?_⟩
    have hbc : b = c := Option.some.inj hc
    rw [← hbc]; exact this.2

theorem lay_st : Lay 10 (some 10) encSt := Lay.agg (f := fun s : Standing => s.ride.cells ++ [.int .i64 s.state, .int .i64 s.since]) (fun _ => rfl) (fun _ => rfl)

theorem moveUp_ok {H : Heap} {d : Nat} {A : Addr} {D : Desk} {rs : List Int} (h : Rep H d A D rs) (hg : Good D) (hm : D.moved.length < 100000) (k : Option Nat) (t : Int) :
    ∃ A' H', R prog f_request_desk_moveUp [P0 d, I (Desk.roomI k), I t] H = some (.tuple [], H') ∧ Rep H' d A' (D.moveUp k t) rs ∧ A'.ps = A.ps ∧ Fr H H' d A A' ∧ Good (D.moveUp k t) ∧ (D.moveUp k t).moved.length ≤ D.moved.length + 12 := by
  suffices hh : Yl (R prog f_request_desk_moveUp [P0 d, I (Desk.roomI k), I t] H) fun v H' => v = .tuple [] ∧ ∃ A', Rep H' d A' (D.moveUp k t) rs ∧ A'.ps = A.ps ∧ Fr H H' d A A' ∧ Good (D.moveUp k t) ∧ (D.moveUp k t).moved.length ≤ D.moved.length + 12 by
    obtain ⟨v, H', e1, rfl, A', e2⟩ := hh
    exact ⟨A', H', e1, e2⟩
  refine r_request_desk_moveUp _ _ _ _ ?_
  cases k with
  | none =>
    have hr : Desk.roomI none = -1 := rfl
    rw [hr]
    simp only [SS]
    rw [if_pos (by omega)]
    exact yl_some.2 ⟨rfl, A, h, rfl, .refl _ _ _, hg, by show D.moved.length ≤ _; omega⟩
  | some k =>
    have hr : Desk.roomI (some k) = (k : Int) := rfl
    obtain ⟨v, H1, e1, e2, e3, e4⟩ := waiting_ok h hg.neat (some k)
    rw [hr] at e1 ⊢
    simp only [SS]
    rw [if_neg (by omega), e1]
    have hlen : lenX H1 .slice v = some (I (D.waiting (some k)).length) := by rw [e3.len]; simp
    simp only [hlen, SS]
    have hout : ∀ b, v.blockOf = some b → Out d A b := fun b hb => h.out (e4 b hb)
    have hL : ∀ i ∈ D.waiting (some k), i < A.ps.length ∧ (entAt D.ents i).opn = true ∧ (entAt D.ents i).st.state = 2 := by
      intro i hi
      have := Desk.mem_waiting.1 hi
      simp only [Desk.waits, Bool.and_eq_true, decide_eq_true_eq] at this
      exact ⟨by rw [h.len]; exact this.1, this.2.1.1, this.2.1.2⟩
    have hnd := Desk.nodup_waiting D (some k)
    have hle : (D.waiting (some k)).length ≤ 12 := by
      have : (D.waiting (some k)).length ≤ D.ents.length := by
        unfold Desk.waiting
        rw [(sortI_perm _ _).length_eq]
        refine Nat.le_trans (List.length_filter_le _ _) ?_
        rw [List.length_range]; exact Nat.le_refl _
      have := hg.ents; omega
    have hmv : D.moveUp (some k) t = (D.waiting (some k)).foldl (Desk.up t) D := rfl
    rw [hmv]
    generalize D.waiting (some k) = L at e3 hL hnd hle ⊢
    have key : ∀ (M : List Nat) (i : Nat) (A' : Addr) (D' : Desk) (H' : Heap), L.drop i = M → i ≤ L.length → Rep H' d A' D' rs → A'.ps = A.ps → Fr H H' d A A' → Good D' → D'.ents.length = D.ents.length → D'.moved.length ≤ D.moved.length + i → Own H' 1 v (L.map (pE A)) → (∀ b, v.blockOf = some b → Out d A' b) →
        (∀ j ∈ M, (entAt D'.ents j).opn = true ∧ (entAt D'.ents j).st.state = 2) → M.Nodup → M.foldl (Desk.up t) D' = L.foldl (Desk.up t) D →
        Yl (l_request_desk_moveUp_0 (P0 d) (I t) v (I L.length) (I i) H' (fun H6 => some (.tuple [], H6))) fun v H' => v = .tuple [] ∧ ∃ A', Rep H' d A' (L.foldl (Desk.up t) D) rs ∧ A'.ps = A.ps ∧ Fr H H' d A A' ∧ Good (L.foldl (Desk.up t) D) ∧ (L.foldl (Desk.up t) D).moved.length ≤ D.moved.length + 12 := by
      intro M
      induction M with
      | nil =>
        intro i A' D' H' hM hi r hps fr gd hel hml ho hob hw hnd hf
        refine l_request_desk_moveUp_0_s _ _ _ _ _ _ _ ?_
        have : L.length ≤ i := List.drop_eq_nil_iff.1 hM
        simp only [SS]
        rw [if_neg (by omega)]
        simp only [List.foldl_nil] at hf
        rw [← hf]
        exact yl_some.2 ⟨rfl, A', r, hps, fr, gd, by omega⟩
      | cons j M ih =>
        intro i A' D' H' hM hi r hps fr gd hel hml ho hob hw hnd hf
        refine l_request_desk_moveUp_0_s _ _ _ _ _ _ _ ?_
        have hil : i < L.length := by
          rcases Nat.lt_or_ge i L.length with hlt | hge
          · exact hlt
          · rw [List.drop_eq_nil_of_le hge] at hM; cases hM
        rw [List.drop_eq_getElem_cons hil] at hM
        injection hM with hj hM'
        obtain ⟨p, g1, g2⟩ := ho.loadL (lay_ptr fun j => A.ps.getD j 0) (i := i) hil
        have hjm : j ∈ L := hj ▸ List.getElem_mem hil
        have hjp := (hL j hjm).1
        have hjp' : j < A'.ps.length := by rw [hps]; exact hjp
        have g2' : loadAV H' none p = some (P0 A'.ps[j]) := by
          rw [g2]
          show some (pE A L[i]) = _
          rw [hj, pE_get hjp]; simp only [hps]
        have hjd : j < D'.ents.length := by rw [← r.len]; exact hjp'
        have hx := r.ents j hjp'
        have hfj := gd.fit _ (entAt_mem hjd)
        have hft := fits_ok (H := H') (v := P0 d) (w := P0 A'.ps[j]) r.snap (snap_ent hx 10) gd.neat hfj
        obtain ⟨wj1, wj2⟩ := hw j (by simp)
        rw [List.nodup_cons] at hnd
        have hw' : ∀ D2 : Desk, (∀ m, j ≠ m → entAt D2.ents m = entAt D'.ents m) → ∀ m ∈ M, (entAt D2.ents m).opn = true ∧ (entAt D2.ents m).st.state = 2 := by
          intro D2 hD2 m hm
          rw [hD2 m (fun e => hnd.1 (e ▸ hm))]
          exact hw m (by simp [hm])
        have gup := gd.up hjd wj1 wj2 t
        simp only [SS]
        rw [if_pos (by omega)]
        simp only [g1, g2', hft, SS]
        rw [List.foldl_cons] at hf
        cases hfit : D'.fits (entAt D'.ents j).ride with
        | false =>
          simp only [SS]
          rw [succ64 _ _ (by omega)]
          simp only [SS]
          have hup : Desk.up t D' j = D' := by unfold Desk.up; rw [if_neg (by rw [hfit]; simp)]
          rw [hup] at hf
          exact ih (i + 1) A' D' H' hM' (by omega) r hps fr gd hel (by omega) ho hob (hw' D' fun _ _ => rfl) hnd.2 hf
        | true =>
          simp only [SS]
          obtain ⟨H2, b1, b2, b3⟩ := placeIn_ok r gd.neat hjp' t
          have hx2 := b2.ents j hjp'
          have hup : Desk.up t D' j = { D'.place j t with moved := (D'.place j t).moved ++ [(entAt (D'.place j t).ents j).st] } := by unfold Desk.up; rw [if_pos hfit]
          have hmo : (D'.place j t).moved = D'.moved := by rw [place_eq]; rfl
          obtain ⟨v', H3, c1, c2, c3⟩ := b2.moved.appendL (bytes := 112) lay_st (entAt (D'.place j t).ents j).st (y := .vslice [encSt (entAt (D'.place j t).ents j).st]) rfl (by omega) (by rw [hmo]; omega)
          obtain ⟨d1, d2, d3⟩ := b2.pushMoved c2 c3
          have hls : litAV 10 [(.agg [(.str []), (.str []), (.str []), (.str []), (.int .i64 0), (.int .i64 0), (.int .i64 0), (.int .i64 0), (.int .i64 0), (.int .i64 0)])] [(0, encSt (entAt (D'.place j t).ents j).st)] false H2 = some (.vslice [encSt (entAt (D'.place j t).ents j).st], H2) := lit_one rfl rfl rfl
          simp only [b1, desk_vm b2.desk, ent_st hx2, hls, c1, desk_put_vm d1 v' c2.cells, SS]
          rw [succ64 _ _ (by omega)]
          simp only [SS]
          have f2 := ho.fr (b3.trans d3) hob
          rw [← hup] at d2
          refine ih (i + 1) _ _ _ hM' (by omega) d2 hps ((fr.trans b3).trans d3) gup (by rw [Desk.up_len]; exact hel) ?_ f2.1 f2.2 (hw' _ fun m hm => Desk.up_other _ _ hm) hnd.2 hf
          rw [hup]; simp only [List.length_append, List.length_singleton, hmo]; omega
    refine key L 0 A D H1 (by simp) (by omega) (h.mono e2) rfl (Fr.ext e2) hg rfl (by omega) e3 hout (fun j hj => (hL j hj).2) hnd rfl
end Y
end Go.Proofs.YtplginnkececaaaGreatDoor
