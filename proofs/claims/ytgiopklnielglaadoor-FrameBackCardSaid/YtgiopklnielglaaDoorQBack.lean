/- Proved here: the contracts and laws of RowIn, SzIn, FrmU, ProgIn of this claim, each beneath its own remark; conditions: those that each theorem names. -/
import Derived.Test.YtgiopklnielglaaDoorM5
import Derived.Test.YtgiopklnielglaaDoorM2
import Derived.Test.YtgiopklnielglaaDoorM9
import Derived.Test.YtgiopklnielglaaDoorM10
import Derived.SizedLaws
/- A row of rows among the arguments: general. -/
namespace Go.Proofs.YtgiopklnielglaaDoor
open Go Go.ChangeShapes Go.WideShapes Go.ChangeAt Go.RowKit Go.Deep
set_option maxHeartbeats 4000000
set_option maxRecDepth 100000
theorem flat_inv {s : Nat} (hs : 1 ≤ s) : ∀ (l : List (List Value)), (∀ cs ∈ l, cs.length = s) → ∀ (j : Nat) (u : Value), l.flatten[j]? = some u → ∃ i f cs, j = i * s + f ∧ l[i]? = some cs ∧ cs[f]? = some u
  | [], _, j, u, h => by simp at h
  | c :: l, hl, j, u, h => by
    have hc := hl c (.head _)
    rw [List.flatten_cons] at h
    by_cases hj : j < s
    · rw [List.getElem?_append_left (by omega)] at h
      exact ⟨0, j, c, by omega, rfl, h⟩
    · rw [List.getElem?_append_right (by omega), hc] at h
      obtain ⟨i, f, cs, h1, h2, h3⟩ := flat_inv hs l (fun cs hm => hl cs (.tail _ hm)) (j - s) u h
      exact ⟨i + 1, f, cs, by rw [Nat.add_mul]; omega, h2, h3⟩
theorem rows_p {w : World} {v : Value} {s : Nat} {l : List (List Value)} (hs : 1 ≤ s) (h : RowsSl w v s l) (h1 : Rows1 s l) (hn : l ≠ []) : RowsP w v s l := by
  obtain ⟨q, c, rfl, h2, h3, h4⟩ := h
  refine ⟨h1, .inr ?_⟩
  obtain ⟨cs0, hcs0⟩ : ∃ cs, l[0]? = some cs := by cases l with | nil => exact absurd rfl hn | cons a l => exact ⟨a, rfl⟩
  obtain ⟨_, b, off, rfl, _⟩ := h4 0 cs0 hcs0
  refine ⟨b, off, c, rfl, h2, h3, fun j u hu => ?_⟩
  obtain ⟨i, f, cs, rfl, hi, hf⟩ := flat_inv hs l (fun cs hm => (h1 cs hm).1) j u hu
  obtain ⟨_, b', off', e, hc⟩ := h4 i cs hi
  obtain ⟨rfl, rfl, _⟩ := Addr.mk.inj (Option.some.inj e)
  rw [← Nat.add_assoc]
  exact hc f u hf
/-- one cell that reads as a slice -/
theorem rows_cell {H : Type} {enc : TypeId × Value → H} {P : Program} {w : World} {t e : TypeId} {s : Nat} {cs : List Value} (ht : P.underlying t = some (.slice e)) (hs : P.cellsOf e = s) (h1 : 1 ≤ s)
    (h : ReadsAs enc P w t cs) : ∃ v l, cs = [v] ∧ RowsSl w v s l ∧ (l = [] → EmptyV v) ∧ ∀ cs ∈ l, ReadsAs enc P w e cs := by
  obtain ⟨fuel, x, hf⟩ := h
  rcases open_slice ht hf with ⟨hcs, _⟩ | ⟨a, len, cap, m, n, D, Pl, hcs, _, hlc, hcm, hm, _, hel⟩
  · exact ⟨_, [], hcs, ⟨none, 0, rfl, Nat.le_refl _, Nat.zero_le _, fun i cs h => by simp at h⟩, fun _ => .inl rfl, fun cs h => by cases h⟩
  · simp only [if_true] at hm
    rw [hs] at hel
    rw [hm] at hel
    obtain ⟨V, hV⟩ := choose_lt (n := cap) (p := fun i cs => w.cells? 0 (a.add (i * s)) s = some cs ∧ DataW.trod enc P w 0 (fun _ => true) true n e cs = some (D i, Pl i)) (fun i hi => hel i hi)
    have hl : ((List.range len).map V).length = len := by simp
    refine ⟨_, (List.range len).map V, hcs, ⟨some a, cap, by rw [hl], by rw [hl]; exact hlc, hcm, fun i cs hi => ?_⟩, fun he => ?_, fun cs hcs => ?_⟩
    · have hil : i < len := by have := (List.getElem?_eq_some_iff.1 hi).1; simpa using this
      have hcs : V i = cs := by simpa [hil] using hi
      subst hcs
      obtain ⟨_, hlen, hcell⟩ := World.cells?_some (hV i (by omega)).1
      obtain ⟨_, hlen0, hcell0⟩ := World.cells?_some (hV 0 (by omega)).1
      have hc0 := hcell0 0 (by omega)
      rw [List.getElem?_eq_getElem (by omega : 0 < (V 0).length), Go.Deep.add_add] at hc0
      obtain ⟨b, off, spot⟩ := a
      have hspot : spot = none := by simpa [Addr.add] using World.cell?_spot hc0
      subst hspot
      refine ⟨hlen, b, off, rfl, fun f u hu => ?_⟩
      have hfl : f < s := by rw [← hlen]; exact (List.getElem?_eq_some_iff.1 hu).1
      have := hcell f hfl
      rw [Go.Deep.add_add, add_plain, hu] at this
      rw [Nat.add_assoc]
      exact this
    · have h0 : len = 0 := by have := congrArg List.length he; simpa using this
      subst h0
      exact .inr ⟨a, cap, rfl, hcm⟩
    · obtain ⟨i, hi, rfl⟩ := List.mem_map.1 hcs
      have hil := List.mem_range.1 hi
      exact ⟨n, _, (hV i (by omega)).2⟩
/-- rows whose cells are all of a form -/
theorem choose_form {α : Type} [Inhabited α] (f : α → List Value) : ∀ (l : List (List Value)), (∀ cs ∈ l, ∃ x, cs = f x) → ∃ M : List α, l = M.map f
  | [], _ => ⟨[], rfl⟩
  | c :: l, h => by
    obtain ⟨x, rfl⟩ := h c (.head _)
    obtain ⟨M, rfl⟩ := choose_form f l (fun cs hm => h cs (.tail _ hm))
    exact ⟨x :: M, rfl⟩
end Go.Proofs.YtgiopklnielglaaDoor
/- Rows among the arguments whose data are within the reach: how long their inner slices are. -/
namespace Go.Proofs.YtgiopklnielglaaDoor
open Go Go.ChangeShapes Go.WideShapes Go.ChangeAt Go.RowKit Go.Deep
set_option maxHeartbeats 4000000
set_option maxRecDepth 100000
/-- the datum's weights are within the reach -/
def Light {H : Type} (P : Program) (t : TypeId) (d : DataW H) : Prop := ∀ n ∈ d.weights P t, n ≤ reachBytes
theorem weightsAll_mem {H : Type} {P : Program} {e : TypeId} : ∀ {l : List (DataW H)} {d : DataW H}, d ∈ l → ∀ n ∈ d.weights P e, n ∈ DataW.weightsAll P e l
  | d' :: r, d, hd, n, hn => by
    simp only [DataW.weightsAll, List.mem_append]
    rcases List.mem_cons.1 hd with rfl | h
    · exact Or.inl hn
    · exact Or.inr (weightsAll_mem h n hn)
theorem light_each {H : Type} {P : Program} {ts : List TypeId} {ds : List (DataW H)} (h : (DataW.weightsEach P ts ds).all (· ≤ reachBytes) = true) {j : Nat} {t : TypeId} {d : DataW H} (ht : ts[j]? = some t) (hd : ds[j]? = some d) : Light P t d :=
  fun n hn => of_decide_eq_true (List.all_eq_true.1 h n (DataW.weights_mem_each ht hd n hn))
theorem Light.elem {H : Type} {P : Program} {t e : TypeId} {el sp : List (DataW H)} (ht : P.underlying t = some (.slice e)) (h : Light P t (.slice el sp)) {d : DataW H} (hd : d ∈ el) : Light P e d := by
  intro n hn
  refine h n ?_
  simp only [DataW.weights, ht, List.mem_cons, List.mem_append]
  exact Or.inr (Or.inl (weightsAll_mem hd n hn))
theorem Light.len {H : Type} {P : Program} {t e : TypeId} {el sp : List (DataW H)} (ht : P.underlying t = some (.slice e)) (h : Light P t (.slice el sp)) : (el.length + sp.length) * P.bytesOf e ≤ reachBytes := by
  refine h _ ?_
  simp only [DataW.weights, ht, List.mem_cons]
  exact Or.inl trivial
theorem Light.part {H : Type} {P : Program} {t : TypeId} {fs : Array Field} {xs : List (DataW H)} (ht : P.underlying t = some (.struct fs)) (h : Light P t (.agg xs)) {i : Nat} {f : Field} {d : DataW H} (hf : fs[i]? = some f) (hd : xs[i]? = some d) : Light P f.type d := by
  intro n hn
  refine h n ?_
  simp only [DataW.weights, ht]
  exact DataW.weights_mem_each (j := i) (by rw [List.getElem?_map]; simp [hf]) hd n hn
def ReadsLt {H : Type} (enc : TypeId × Value → H) (P : Program) (w : World) (e : TypeId) (cs : List Value) : Prop := ∃ n x, DataW.trod enc P w 0 (fun _ => true) true n e cs = some x ∧ Light P e x.1
theorem ReadsLt.reads {H : Type} {enc : TypeId × Value → H} {P : Program} {w : World} {e : TypeId} {cs : List Value} (h : ReadsLt enc P w e cs) : ReadsAs enc P w e cs := by
  obtain ⟨n, x, h1, _⟩ := h
  exact ⟨n, x, h1⟩
/-- one cell that reads as a slice -/
theorem rows_cell_lt {H : Type} {enc : TypeId × Value → H} {P : Program} {w : World} {t e : TypeId} {s : Nat} {cs : List Value} (ht : P.underlying t = some (.slice e)) (hs : P.cellsOf e = s) (h1 : 1 ≤ s)
    (h : ReadsLt enc P w t cs) : ∃ v l, cs = [v] ∧ RowsSl w v s l ∧ (l = [] → EmptyV v) ∧ l.length * P.bytesOf e ≤ reachBytes ∧ ∀ cs ∈ l, ReadsLt enc P w e cs := by
  obtain ⟨fuel, x, hf, hlt⟩ := h
  rcases open_slice ht hf with ⟨hcs, _⟩ | ⟨a, len, cap, m, n, D, Pl, hcs, _, hlc, hcm, hm, hx, hel⟩
  · exact ⟨_, [], hcs, ⟨none, 0, rfl, Nat.le_refl _, Nat.zero_le _, fun i cs h => by simp at h⟩, fun _ => .inl rfl, by simp, fun cs h => by cases h⟩
  · subst hx
    simp only [if_true] at hm
    rw [hs] at hel
    rw [hm] at hel
    obtain ⟨V, hV⟩ := choose_lt (n := cap) (p := fun i cs => w.cells? 0 (a.add (i * s)) s = some cs ∧ DataW.trod enc P w 0 (fun _ => true) true n e cs = some (D i, Pl i)) (fun i hi => hel i hi)
    have hl : ((List.range len).map V).length = len := by simp
    refine ⟨_, (List.range len).map V, hcs, ⟨some a, cap, by rw [hl], by rw [hl]; exact hlc, hcm, fun i cs hi => ?_⟩, fun he => ?_, ?_, fun cs hcs => ?_⟩
    · have hil : i < len := by have := (List.getElem?_eq_some_iff.1 hi).1; simpa using this
      have hcs : V i = cs := by simpa [hil] using hi
      subst hcs
      obtain ⟨_, hlen, hcell⟩ := World.cells?_some (hV i (by omega)).1
      obtain ⟨_, hlen0, hcell0⟩ := World.cells?_some (hV 0 (by omega)).1
      have hc0 := hcell0 0 (by omega)
      rw [List.getElem?_eq_getElem (by omega : 0 < (V 0).length), Go.Deep.add_add] at hc0
      obtain ⟨b, off, spot⟩ := a
      have hspot : spot = none := by simpa [Addr.add] using World.cell?_spot hc0
      subst hspot
      refine ⟨hlen, b, off, rfl, fun f u hu => ?_⟩
      have hfl : f < s := by rw [← hlen]; exact (List.getElem?_eq_some_iff.1 hu).1
      have := hcell f hfl
      rw [Go.Deep.add_add, add_plain, hu] at this
      rw [Nat.add_assoc]
      exact this
    · have h0 : len = 0 := by have := congrArg List.length he; simpa using this
      subst h0
      exact .inr ⟨a, cap, rfl, hcm⟩
    · rw [hl]
      have h2 := hlt.len ht
      rw [List.length_map, List.length_range] at h2
      exact Nat.le_trans (Nat.mul_le_mul_right _ (Nat.le_add_right _ _)) h2
    · obtain ⟨i, hi, rfl⟩ := List.mem_map.1 hcs
      have hil := List.mem_range.1 hi
      exact ⟨n, _, (hV i (by omega)).2, hlt.elem ht (List.mem_map.2 ⟨i, hi, rfl⟩)⟩
end Go.Proofs.YtgiopklnielglaaDoor
/- FrameBack: the walk. -/
namespace Go.Proofs.YtgiopklnielglaaDoor
open Go.RowKit Arena
set_option maxHeartbeats 8000000
set_option maxRecDepth 100000
/-- the tables lie where they were laid -/
def BackLie (W : World) : Prop := FrmLie W ∧ OpLie W
theorem BackLie.ext {w w' : World} (h : BackLie w) (e : Ext w w') : BackLie w' := ⟨h.1.ext e, h.2.ext e⟩
theorem backLie_of_laid {W : World} {l : List (String × DataW Unit)} (h : laidMetH Tryd.prog l W) (hh : (l.filter fun x => x.2.handleName?.isSome) = [])
    (h1 : ("stockpot/op.rows", Rows.laid_stockpot_op_rows) ∈ l) (h2 : ("stockpot/frame.nought", Rows.laid_stockpot_frame_nought) ∈ l) : BackLie W :=
  ⟨frmLie_of_laid h hh h1 h2, opLie_of_laid h hh h1⟩
/-- a machine as it lies -/
structure McI where
  hp : Hp
  S : List Int
  F : List Fr
  H : List Hd
  s : Value
  f : Value
  h : Value
  st : Int
  r : Int
  co : Int
def McI.val (m : McI) : Value := machV m.hp.base m.hp.half m.hp.space m.hp.top m.s m.f m.h m.st m.r m.co
structure McP (w : World) (m : McI) : Prop where
  s : RowsP w m.s 1 (m.S.map wordC)
  f : RowsP w m.f 4 (m.F.map frC)
  h : RowsP w m.h 3 (m.H.map hdC)
theorem McP.ext {w w' : World} {m : McI} (h : McP w m) (e : Ext w w') : McP w' m := ⟨h.s.ext e, h.f.ext e, h.h.ext e⟩
theorem upd_self (F : List Fr) (X : Nat → Int) (h : ∀ i y, F[i]? = some y → X i = y.self) : upd F X F.length = F := by
  apply List.ext_getElem?
  intro i
  cases hF : F[i]? with
  | none => simp [upd, List.getElem?_mapIdx, hF]
  | some y =>
    rw [upd_at hF, if_pos (List.getElem?_eq_some_iff.1 hF).1, h i y hF]
theorem rowH (H : List Hd) : Rows1 3 (H.map hdC) := by
  intro l hl
  obtain ⟨x, _, rfl⟩ := List.mem_map.1 hl
  exact ⟨rfl, fun u hu => by simp [hdC] at hu; rcases hu with rfl | rfl | rfl <;> rfl⟩
/-- with its own roots it is itself -/
theorem with_self {w : World} {m : McI} (hm : McP w m) {ro : Value} (hr : RowsP w ro 1 ((m.S ++ selfs m.F ++ [m.r]).map wordC)) (lS : m.S.length ≤ 1000000) (lF : m.F.length ≤ 1000000) (lH : m.H.length ≤ 1000000) :
    Calls Tryd.prog 8 #[m.val, .agg #[.int .i64 m.hp.base, .int .i64 m.hp.half, .int .i64 m.hp.space, .int .i64 m.hp.top], ro] w fun e w' => ∃ m' : McI, e = .returned (.tuple #[m'.val, .bool true]) ∧ McP w' m' ∧ m' = { m with s := m'.s, f := m'.f, h := m'.h } ∧ Ext w w' := by
  have hlen : (selfs m.F).length = m.F.length := by simp [selfs]
  have h1 := with_yes (w := w) (s := m.s) (f := m.f) (h := m.h) (ro := ro) (S := m.S) (F := m.F) (H := m.H.map hdC) (R := m.S ++ selfs m.F ++ [m.r]) hm.s hm.f hm.h hr lS lF (by simpa using lH) (by simp [hlen]; omega)
    (fun i => (m.F[i]?.map (·.self)).getD 0) (fun i hi => by
      rw [List.append_assoc, List.getElem?_append_right (by omega), Nat.add_sub_cancel_left, List.getElem?_append_left (by omega)]
      simp [selfs, hi]) m.r (by rw [List.getElem?_append_right (by simp [hlen])]; simp [hlen])
    m.hp.base m.hp.half m.hp.space m.hp.top m.st m.r m.co m.hp.base m.hp.half m.hp.space m.hp.top
  refine h1.mono ?_
  rintro e w' ⟨s, f, h, rfl, hs, hf, hh, hx⟩
  rw [List.append_assoc, List.take_left] at hs
  rw [upd_self m.F _ (fun i y hy => by simp [hy])] at hf
  exact ⟨{ m with s := s, f := f, h := h }, rfl, ⟨hs.p, hf.p, hh.p⟩, rfl, hx⟩
theorem RowsP.take {w : World} {q : Option Addr} {n c k : Nat} {l : List (List Value)} (h : RowsP w (.slice q n c) 1 l) (hk : k ≤ n) : RowsP w (.slice q k c) 1 (l.take k) := by
  obtain ⟨h1, h2⟩ := h
  refine ⟨h1.take k, ?_⟩
  rcases h2 with ⟨h2 | ⟨a, c', h2, hc⟩, rfl⟩ | ⟨b, off, c', h3, h4, h5, h6⟩
  · obtain ⟨rfl, rfl, rfl⟩ := Value.slice.inj h2
    obtain rfl : k = 0 := by omega
    exact .inl ⟨.inl rfl, rfl⟩
  · obtain ⟨rfl, rfl, rfl⟩ := Value.slice.inj h2
    obtain rfl : k = 0 := by omega
    exact .inl ⟨.inr ⟨a, c, rfl, hc⟩, rfl⟩
  · obtain ⟨rfl, rfl, rfl⟩ := Value.slice.inj h3
    have hl : (l.take k).length = k := by rw [List.length_take]; omega
    refine .inr ⟨b, off, c, by rw [hl], by omega, h5, fun j u hu => h6 j u ?_⟩
    rw [flat_take h1, Nat.mul_one] at hu
    have hj : j < k := by have := (List.getElem?_eq_some_iff.1 hu).1; rw [List.length_take] at this; omega
    rwa [List.getElem?_take_of_lt hj] at hu
/-- how many locals the first function has -/
def nLoc (F : List FnI) : Nat := (F[0]?.map (·.f.locals.toNat)).getD 0
theorem lay40_there : thereB (rigR (max 1 (List.replicate 40 (0 : Int)).length)) ⟨3, 20, 0, 0⟩ = true := by decide +kernel
theorem lay40_w64 : ∀ x ∈ rigW (List.replicate 40 (0 : Int)) (List.replicate 40 (0 : Int)).length, W64 x := rigW_mem (fun x hx => by rw [(List.mem_replicate.1 hx).2]; exact w64_zero) _
theorem blk {w w' : World} {b : Nat} {o : Obj} (h : w.heap[b]? = some o) (e : Ext w w') : w'.heap[b]? = some o := (Below.block e b (Array.getElem?_eq_some_iff.1 h).1).trans h
theorem blk_lt {w : World} {b : Nat} {o : Obj} (h : w.heap[b]? = some o) : b < w.heap.size := (Array.getElem?_eq_some_iff.1 h).1
theorem back_walk (x : PgI) (m : McI) (code : Int) (w : World) (hp : PgP w x) (hl : PgLt x) (hm : McP w m) (hk : BackLie w) : Calls Tryd.prog 3 #[.agg #[x.vf, x.vs, x.vo], m.val, .int .i64 code] w (TrueExt w) := by
  have HP := Lib.hid hp; have HL := Lib.hid hl; have HM := Lib.hid hm; have HK := Lib.hid hk
  have HLP := Lib.hid (fun W (e : Ext w W) => largep_is x (hp.ext e) hl)
  have HLM := Lib.hid (fun W (e : Ext w W) => largem_is m.s m.f m.h m.hp.base m.hp.half m.hp.space m.hp.top m.st m.r m.co _ _ _ (hm.ext e).s (hm.ext e).f (hm.ext e).h)
  clear hp hl hm hk
  obtain ⟨F, S, O, vf, vs, vo⟩ := x
  obtain ⟨⟨ba, ha, sp, tp⟩, mS, mF, mH, s, f, h, st, r, co⟩ := m
  unfold McI.val machV
  unfold machV at HLM
  dsimp only at HLM HLP ⊢
  obtain ⟨qf, nf, cf, rfl⟩ : ∃ q n c, vf = .slice q n c := by obtain ⟨q, c, hv, -⟩ := HP.out.pf.at; exact ⟨q, _, c, hv⟩
  obtain ⟨qs, ns, cs, rfl⟩ : ∃ q n c, vs = .slice q n c := by obtain ⟨q, c, hv, -⟩ := HP.out.ps.at; exact ⟨q, _, c, hv⟩
  obtain ⟨qo, no, co', rfl⟩ : ∃ q n c, vo = .slice q n c := by obtain ⟨q, c, hv, -⟩ := HP.out.po.at; exact ⟨q, _, c, hv⟩
  obtain ⟨qS, cS, rfl⟩ : ∃ q c, s = .slice q mS.length c := by obtain ⟨q, c, hv, -⟩ := HM.out.s.at; exact ⟨q, c, by simpa using hv⟩
  obtain ⟨qF, cF, rfl⟩ : ∃ q c, f = .slice q mF.length c := by obtain ⟨q, c, hv, -⟩ := HM.out.f.at; exact ⟨q, c, by simpa using hv⟩
  obtain ⟨qH, cH, rfl⟩ : ∃ q c, h = .slice q mH.length c := by obtain ⟨q, c, hv, -⟩ := HM.out.h.at; exact ⟨q, c, by simpa using hv⟩
  simp only [List.length_map] at HLM
  go_enter Tryd.func3, Tryd.ntmps3
  go_upto_region 1 with fail
  refine wp_alloc2 fun W hE hS b0 b1 => ?_
  obtain ⟨l0, l1, l2⟩ := cells3 b0
  obtain ⟨m0, m1, m2, m3, m4, m5, m6, m7, m8, m9⟩ := cells10 b1
  have HX := Lib.hid hE
  have B0 := Lib.hid b0; have B1 := Lib.hid b1
  clear hE hS b0 b1
  go_wp2_with fail
  refine (HLP.out _ HX.out).mono ?_
  rintro e w1 ⟨t, rfl, hsm, hx1⟩
  have c0 := (Below.block hx1 w.heap.size ((Array.getElem?_eq_some_iff.1 B0.out).1)).trans B0.out
  have c1 := (Below.block hx1 (w.heap.size + 1) ((Array.getElem?_eq_some_iff.1 B1.out).1)).trans B1.out
  have HX1 := Lib.hid (HX.out.trans hx1)
  clear l0 l1 l2 m0 m1 m2 m3 m4 m5 m6 m7 m8 m9 hx1 HX B0 B1 HLP
  obtain ⟨l0, l1, l2⟩ := cells3 c0
  obtain ⟨m0, m1, m2, m3, m4, m5, m6, m7, m8, m9⟩ := cells10 c1
  have C0 := Lib.hid c0; have C1 := Lib.hid c1
  clear c0 c1
  cases t with
  | true =>
    clear HLM hsm
    go_wp2_with fail
    refine (wakes_is _ (HK.out.1.ext HX1.out)).mono ?_
    rintro e w3 ⟨rfl, hx3⟩
    have HX3 := Lib.hid (HX1.out.trans hx3)
    clear hx3
    go_wp2_with fail
    go_ret
    exact ⟨rfl, HX3.out⟩
  | false =>
    obtain ⟨nF, nS, nO⟩ := hsm rfl
    clear hsm
    go_wp2_with fail
    refine (HLM.out _ HX1.out).mono ?_
    rintro e w2 ⟨rfl, hx2⟩
    have c0 := (Below.block hx2 w.heap.size ((Array.getElem?_eq_some_iff.1 C0.out).1)).trans C0.out
    have c1 := (Below.block hx2 (w.heap.size + 1) ((Array.getElem?_eq_some_iff.1 C1.out).1)).trans C1.out
    have HXo := HX1
    clear HX1
    have HX1 := Lib.hid (HXo.out.trans hx2)
    clear l0 l1 l2 m0 m1 m2 m3 m4 m5 m6 m7 m8 m9 hx2 HXo C0 C1 HLM
    obtain ⟨l0, l1, l2⟩ := cells3 c0
    obtain ⟨m0, m1, m2, m3, m4, m5, m6, m7, m8, m9⟩ := cells10 c1
    have C0 := Lib.hid c0; have C1 := Lib.hid c1
    clear c0 c1
    obtain ⟨t, ht⟩ : ∃ t, (decide (400 < mS.length) || decide (120 < mF.length) || decide (100 < mH.length)) = t := ⟨_, rfl⟩
    rw [ht]
    cases t with
    | true =>
      clear ht
      go_wp2_with fail
      refine (wakes_is _ (HK.out.1.ext HX1.out)).mono ?_
      rintro e w3 ⟨rfl, hx3⟩
      have HX3 := Lib.hid (HX1.out.trans hx3)
      clear hx3
      go_wp2_with fail
      go_ret
      exact ⟨rfl, HX3.out⟩
    | false =>
      simp only [Bool.or_eq_false_iff, decide_eq_false_iff_not] at ht
      obtain ⟨⟨n1, n2⟩, n3⟩ := ht
      have N1 := Lib.hid (show mS.length ≤ 400 by omega); have N2 := Lib.hid (show mF.length ≤ 120 by omega); have N3 := Lib.hid (show mH.length ≤ 100 by omega)
      have NO := Lib.hid nO
      clear n1 n2 n3 nF nS nO
      go_wp2_with fail
      have hr := roots_is (h := .slice qH mH.length cH) (HM.out.s.ext HX1.out) (HM.out.f.ext HX1.out) (Nat.le_trans (by simpa using N1.out) (by omega : 400 ≤ 1000000)) (Nat.le_trans (by simpa using N2.out) (by omega : 120 ≤ 1000000)) ba ha sp tp st r co
      unfold machV at hr
      refine hr.mono ?_
      clear hr
      rintro e w3 ⟨vr, rfl, hvr, hx3⟩
      have hvl : (List.map wordC (mS ++ selfs mF ++ [r])).length = mS.length + mF.length + 1 := by simp [selfs]; omega
      obtain ⟨qr, cr, hv, -⟩ := hvr.len
      rw [hvl] at hv
      subst hv
      have c0 := blk C0.out hx3; have c1 := blk C1.out hx3
      have HX3 := Lib.hid (HX1.out.trans hx3)
      have HR := Lib.hid hvr.p
      clear l0 l1 l2 m0 m1 m2 m3 m4 m5 m6 m7 m8 m9 hx3 HX1 C0 C1 hvl hvr
      obtain ⟨m0, m1, m2, m3, m4, m5, m6, m7, m8, m9⟩ := cells10 c1
      have C0 := Lib.hid c0; have C1 := Lib.hid c1
      clear c0 c1
      go_wp2_with fail
      have hr := with_self (m := ⟨⟨ba, ha, sp, tp⟩, mS, mF, mH, .slice qS mS.length cS, .slice qF mF.length cF, .slice qH mH.length cH, st, r, co⟩) (HM.out.ext HX3.out) HR.out (Nat.le_trans (m := 400) N1.out (by omega)) (Nat.le_trans (m := 120) N2.out (by omega)) (Nat.le_trans (m := 100) N3.out (by omega))
      unfold McI.val machV at hr
      dsimp only at hr
      refine hr.mono ?_
      clear hr
      rintro e w4 ⟨⟨hp', S', F', H', s', f', h', st', r', co''⟩, rfl, hm', heq, hx4⟩
      obtain ⟨rfl, rfl, rfl, rfl, -, -, -, rfl, rfl, rfl⟩ := McI.mk.inj heq.symm
      clear heq
      dsimp only
      have KM := Lib.hid (fun W (e : Ext w4 W) => machine_true (hm'.ext e).s (hm'.ext e).f (hm'.ext e).h ((HM.out.ext HX3.out).ext (hx4.trans e)).s ((HM.out.ext HX3.out).ext (hx4.trans e)).f ((HM.out.ext HX3.out).ext (hx4.trans e)).h ba ha sp tp st r co)
      unfold machV at KM
      dsimp only at KM
      obtain ⟨qs', ns', cs', rfl⟩ : ∃ q n c, s' = .slice q n c := by obtain ⟨q, c, hv, -⟩ := hm'.s.at; exact ⟨q, _, c, hv⟩
      obtain ⟨qf', nf', cf', rfl⟩ : ∃ q n c, f' = .slice q n c := by obtain ⟨q, c, hv, -⟩ := hm'.f.at; exact ⟨q, _, c, hv⟩
      obtain ⟨qh', nh', ch', rfl⟩ : ∃ q n c, h' = .slice q n c := by obtain ⟨q, c, hv, -⟩ := hm'.h.at; exact ⟨q, _, c, hv⟩
      have c0 := blk C0.out hx4; have c1 := blk C1.out hx4
      have HX4 := Lib.hid (HX3.out.trans hx4)
      clear m0 m1 m2 m3 m4 m5 m6 m7 m8 m9 hx4 HX3 C0 C1 hm' HR
      have C0 := Lib.hid c0; have C1 := Lib.hid c1
      clear c0 c1
      go_upto_region 5 with fail
      refine wp_alloc1 fun W5 hE hS b0 => ?_
      have c0 := blk C0.out hE; have c1 := blk C1.out hE
      have HX5 := Lib.hid (HX4.out.trans hE)
      have HE5 := Lib.hid hE
      obtain ⟨m0, m1, m2, m3, m4, m5, m6, m7, m8, m9⟩ := cells10 c1
      obtain ⟨z0, z1, z2, z3, z4, z5, z6, z7, z8, z9⟩ := cells10 b0
      have C0 := Lib.hid c0; have C1 := Lib.hid c1
      clear c0 c1 hE hS b0 HX4
      go_wp2_with fail
      refine (KM.out _ HE5.out).mono ?_
      rintro e w6 ⟨rfl, hx6⟩
      have c0 := blk C0.out hx6; have c1 := blk C1.out hx6
      have HXo := HX5
      clear HX5
      have HX5 := Lib.hid (HXo.out.trans hx6)
      clear m0 m1 m2 m3 m4 m5 m6 m7 m8 m9 z0 z1 z2 z3 z4 z5 z6 z7 z8 z9 hx6 HXo C0 C1 KM HE5
      obtain ⟨m0, m1, m2, m3, m4, m5, m6, m7, m8, m9⟩ := cells10 c1
      obtain ⟨l0, l1, l2⟩ := cells3 c0
      have C0 := Lib.hid c0; have C1 := Lib.hid c1
      clear c0 c1
      have tl1 : ((mS.length : Int) + (mF.length : Int) + 1 != (mS.length : Int) + (mF.length : Int) + 1) = false := by simp
      have nb1 := N1.out; have nb2 := N2.out
      go_upto_region 7 with fail
      clear tl1
      have hmk : ∀ W, (Instr.makeSlice 29 (.int .i64 40) (.int .i64 40)).run Tryd.prog W = .ok (.slice (some ⟨W.heap.size, 0, none⟩) 40 40) (W.alloc (.cells (madeCells #[.int .u64 0] 40) 32)) := fun W => mk_u64s 40 (by omega) W
      go_wp2_with fail
      refine at_gen (fun W => RowsP W (.slice (some ⟨w6.heap.size, 0, none⟩) 40 40) 1 ((List.replicate 40 (0 : Int)).map wordC) ∧ Ext w6 W) ⟨by rw [List.map_replicate]; exact (made_own w6 32 (.int .u64 0) 40 w6.heap.size rfl (Nat.le_refl _) (by unfold maxLen; omega)).p, Ext.alloc _ _⟩ ?_
      rintro W7 ⟨hz, hE⟩
      refine (lay_words (WordSl.of_rows hz) (by simp)).mono ?_
      rintro e w7 ⟨pa, ga, bma, qa, gqa, BB, rfl, hB⟩
      have HA := Lib.hid hB.a
      have hx7 := hE.trans hB.ext
      have c0 := blk C0.out hx7; have c1 := blk C1.out hx7
      have HX7 := Lib.hid (HX5.out.trans hx7)
      clear l0 l1 l2 m0 m1 m2 m3 m4 m5 m6 m7 m8 m9 hx7 hE hz hB HX5 C0 C1 hmk
      have C0 := Lib.hid c0; have C1 := Lib.hid c1
      clear c0 c1
      go_upto_region 10 with fail
      refine wp_alloc1 fun W8 hE hS b0 => ?_
      have c0 := blk C0.out hE; have c1 := blk C1.out hE
      have HX8 := Lib.hid (HX7.out.trans hE)
      have TW := Lib.hid b0
      have HA8 := Lib.hid (HA.out.ext hE)
      obtain ⟨l0, l1, l2⟩ := cells3 c0
      have C0 := Lib.hid c0; have C1 := Lib.hid c1
      clear c0 c1 hE hS b0 HX7 HA
      have hst := start_gen (w := W8) (HK.out.2.ext HX8.out) (HX8.out.cell HK.out.1.2.2) ⟨F, S, O, .slice qf nf cf, .slice qs ns cs, .slice qo no co'⟩ (HP.out.ext HX8.out) (nLoc F) (fun hg y hy => by
        obtain ⟨y', hy', h0, -⟩ := goodP_first hg
        have e := Option.some.inj (hy.symm.trans hy')
        subst e
        dsimp only at hy
        unfold nLoc
        rw [hy]
        simp
        omega) 3 20 0 0
      dsimp only at hst
      have HRG := Lib.hid (fun W (e : Ext W8 W) => rcode_good (w := W) ⟨F, S, O, .slice qf nf cf, .slice qs ns cs, .slice qo no co'⟩ (HP.out.ext (HX8.out.trans e)) (Nat.le_trans (m := 3000) NO.out (by omega)))
      dsimp only at HRG
      obtain ⟨g, hge⟩ : ∃ g, goodP (PgI.p ⟨F, S, O, .slice qf nf cf, .slice qs ns cs, .slice qo no co'⟩) = g := ⟨_, rfl⟩
      rw [hge] at hst HRG
      go_wp2_with fail
      refine hst.mono ?_
      clear hst
      cases g with
      | false =>
        rintro e w9 ⟨rfl, hx9⟩
        unfold machV
        have c0 := blk C0.out hx9; have c1 := blk C1.out hx9; have tw := blk TW.out hx9
        have HXa := Lib.hid (HX8.out.trans hx9)
        have HE9 := Lib.hid hx9
        have HA9 := Lib.hid (HA8.out.ext hx9)
        have C0a := Lib.hid c0; have C1a := Lib.hid c1; have TWa := Lib.hid tw
        clear l0 l1 l2 c0 c1 tw hx9 C0 C1 TW HX8 HA8
        go_upto_region 11 with fail
        refine wp_alloc1 fun Wb hE hS b0 => ?_
        have c0 := blk C0a.out hE; have c1 := blk C1a.out hE; have tw := blk TWa.out hE
        have HXb := Lib.hid (HXa.out.trans hE)
        have HEb := Lib.hid (HE9.out.trans hE)
        have HAb := Lib.hid (HA9.out.ext hE)
        have HE1 := Lib.hid hE
        obtain ⟨l0, l1, l2⟩ := cells3 c0
        obtain ⟨z0, z1, z2, z3, z4, z5, z6, z7, z8, z9⟩ := cells10 b0
        obtain ⟨t0, t1⟩ := cells2 tw
        have C0 := Lib.hid c0; have C1 := Lib.hid c1; have TW := Lib.hid tw; have Z0 := Lib.hid b0
        clear c0 c1 tw hE hS b0 HXa HA9 HE9 C0a C1a TWa
        go_wp2_with fail
        refine (HRG.out _ HEb.out).mono ?_
        rintro e wc ⟨rfl, hxc⟩
        have c0 := blk C0.out hxc; have c1 := blk C1.out hxc; have tw := blk TW.out hxc; have b0 := blk Z0.out hxc
        have HXc := Lib.hid (HXb.out.trans hxc)
        have HEc := Lib.hid (HEb.out.trans hxc)
        have HAc := Lib.hid (HAb.out.ext hxc)
        have HE1c := Lib.hid (HE1.out.trans hxc)
        clear l0 l1 l2 z0 z1 z2 z3 z4 z5 z6 z7 z8 z9 t0 t1 hxc C0 C1 TW Z0 HXb HEb HAb HE1
        obtain ⟨l0, l1, l2⟩ := cells3 c0
        obtain ⟨z0, z1, z2, z3, z4, z5, z6, z7, z8, z9⟩ := cells10 b0
        obtain ⟨t0, t1⟩ := cells2 tw
        have C0 := Lib.hid c0; have C1 := Lib.hid c1; have TW := Lib.hid tw; have Z0 := Lib.hid b0
        clear c0 c1 tw b0
        have HXb := HXc; have HEb := HEc; have HAb := HAc; have HE1 := HE1c
        clear HXc HEc HAc HE1c
        go_wp2_with fail
        refine (HRG.out _ HEb.out).mono ?_
        rintro e wc ⟨rfl, hxc⟩
        have c0 := blk C0.out hxc; have c1 := blk C1.out hxc; have tw := blk TW.out hxc; have b0 := blk Z0.out hxc
        have HXc := Lib.hid (HXb.out.trans hxc)
        have HEc := Lib.hid (HEb.out.trans hxc)
        have HAc := Lib.hid (HAb.out.ext hxc)
        have HE1c := Lib.hid (HE1.out.trans hxc)
        clear l0 l1 l2 z0 z1 z2 z3 z4 z5 z6 z7 z8 z9 t0 t1 hxc C0 C1 TW Z0 HXb HEb HAb HE1
        obtain ⟨l0, l1, l2⟩ := cells3 c0
        obtain ⟨z0, z1, z2, z3, z4, z5, z6, z7, z8, z9⟩ := cells10 b0
        obtain ⟨t0, t1⟩ := cells2 tw
        have C0 := Lib.hid c0; have C1 := Lib.hid c1; have TW := Lib.hid tw; have Z0 := Lib.hid b0
        clear c0 c1 tw b0
        have HXb := HXc; have HEb := HEc; have HAb := HAc; have HE1 := HE1c
        clear HXc HEc HAc HE1c
        go_wp2_with fail
        have hfg := fgood_no HAb.out lay40_w64 ⟨3, 20, 0, 0⟩ (by decide) lay40_there rfl (HK.out.2.ext HXb.out) ⟨F, S, O, .slice qf nf cf, .slice qs ns cs, .slice qo no co'⟩ (HP.out.ext HXb.out) hge
        unfold machV at hfg
        dsimp only at hfg
        refine hfg.mono ?_
        clear hfg hge
        rintro e wc ⟨rfl, hxc⟩
        have c0 := blk C0.out hxc; have c1 := blk C1.out hxc; have tw := blk TW.out hxc; have b0 := blk Z0.out hxc
        have HXc := Lib.hid (HXb.out.trans hxc)
        have HEc := Lib.hid (HEb.out.trans hxc)
        have HAc := Lib.hid (HAb.out.ext hxc)
        have HE1c := Lib.hid (HE1.out.trans hxc)
        clear l0 l1 l2 z0 z1 z2 z3 z4 z5 z6 z7 z8 z9 t0 t1 hxc C0 C1 TW Z0 HXb HEb HAb HE1
        obtain ⟨l0, l1, l2⟩ := cells3 c0
        obtain ⟨z0, z1, z2, z3, z4, z5, z6, z7, z8, z9⟩ := cells10 b0
        obtain ⟨t0, t1⟩ := cells2 tw
        have C0 := Lib.hid c0; have C1 := Lib.hid c1; have TW := Lib.hid tw; have Z0 := Lib.hid b0
        clear c0 c1 tw b0
        have HXb := HXc; have HEb := HEc; have HAb := HAc; have HE1 := HE1c
        clear HXc HEc HAc HE1c
        have hxc := Ext.refl wc
        go_upto_region 13 with fail
        have HX9 := Lib.hid (HXb.out.trans hxc)
        have c1 := blk C1.out hxc
        obtain ⟨m0, m1, m2, m3, m4, m5, m6, m7, m8, m9⟩ := cells10 c1
        clear C1
        have C1 := Lib.hid c1
        clear c1 l0 l1 l2 z0 z1 z2 z3 z4 z5 z6 z7 z8 z9 t0 t1 hxc C0 TW Z0 HXb HEb HAb HE1 HRG HP
        rcases List.eq_nil_or_concat mH with hnil | ⟨H0, ⟨hfr, hht, hpc⟩, hcc⟩
        · as_aux_lemma =>
          subst hnil
          have ht := throw_none (HM.out.s.ext HX9.out) (HM.out.f.ext HX9.out) (HM.out.h.ext HX9.out) (Nat.le_trans (m := 400) N1.out (by omega)) (Nat.le_trans (m := 120) (by simpa using N2.out) (by omega)) ba ha sp tp st r co code
          unfold machV at ht
          go_wp2_with fail
          refine ht.mono ?_
          clear ht
          rintro e w10 ⟨h10, rfl, hh10, hx10⟩
          unfold machV
          obtain ⟨qh10, ch10, rfl, -, -⟩ := hh10.len
          rw [List.length_nil]
          have HX10 := Lib.hid (HX9.out.trans hx10)
          have c1 := blk C1.out hx10
          have C1' := Lib.hid c1
          clear hx10 C1 m0 m1 m2 m3 m4 m5 m6 m7 m8 m9 c1 hh10
          go_upto_region 14 with fail
          refine wp_alloc1 fun W11 hE hS b0 => ?_
          have HX11 := Lib.hid (HX10.out.trans hE)
          obtain ⟨m0, m1, m2, m3, m4, m5, m6, m7, m8, m9⟩ := cells10 (blk C1'.out hE)
          obtain ⟨z0, z1, z2, z3, z4, z5, z6, z7, z8, z9⟩ := cells10 b0
          have B0 := Lib.hid b0
          clear hE hS b0 C1' HX10
          go_upto_region 15 with fail
          have r1 := fun d os => cell_regrown z4 d os
          have r2 := fun d os => cell_regrown z5 d os
          have r4 := fun d os => cell_regrown z7 d os
          have r6 := fun d os => cell_regrown z9 d os
          have cA := fun d os => quiet_same (refWrap_is code (Go.Sort.grow (redrawn W11 d) os))
          have cB := fun d os => quiet_ext (wakes_is (Go.Sort.grow (redrawn W11 d) os) (HK.out.1.ext (HX11.out.trans (Ext.regrown W11 d os))))
          have CA := Lib.hid cA; have CB := Lib.hid cB
          clear cA cB m0 m1 m2 m3 m4 m5 m6 m7 m8 m9 z0 z1 z2 z3 z4 z5 z6 z7 z8 z9 B0
          refine wp_region_quiet_below (by kernel_rfl) (by kernel_rfl) ?_
          repeat (first | go_big_quiet_step (first | exact CA.out _ _ | exact CB.out _ _) | quiet_step (first | exact CA.out _ _ | exact CB.out _ _))
          refine wpQuiet_nil ?_
          intro _ hw'
          obtain ⟨⟨dq, osq⟩, hw''⟩ := hw'
          subst hw''
          have HXQ := Lib.hid (HX11.out.trans (Ext.regrown W11 dq osq))
          clear r1 r2 r4 r6 CA CB
          go_wp2_with fail
          go_ret
          exact ⟨rfl, HXQ.out⟩
        · have hlh : mH.length = H0.length + 1 := by rw [hcc]; simp
          have hmm : mH.map hdC = H0.map hdC ++ [hdC ⟨hfr, hht, hpc⟩] := by rw [hcc]; simp
          have hh := HM.out.h.ext HX9.out
          dsimp only at hh
          rw [hmm] at hh
          clear hmm
          have N3' := Lib.hid (show H0.length ≤ 100 by have := N3.out; omega)
          clear N3
          generalize mH.length = nH at *
          subst hlh
          obtain ⟨qh', ch', hvv, -, -, hcell⟩ := hh.at
          obtain ⟨bh, oh, hq, hhc⟩ := hcell H0.length (hdC ⟨hfr, hht, hpc⟩) (by rw [List.getElem?_append_right (by simp)]; simp)
          obtain ⟨rfl, -, rfl⟩ := Value.slice.inj hvv
          subst hq
          have v0 := hhc 0 _ rfl; have v1 := hhc 1 _ rfl; have v2 := hhc 2 _ rfl
          rw [Nat.add_zero] at v0
          have V0 := Lib.hid v0; have V1 := Lib.hid v1; have V2 := Lib.hid v2
          have hs := HM.out.s.ext HX9.out
          have hf := HM.out.f.ext HX9.out
          dsimp only at hs hf
          clear hcell hhc hvv v0 v1 v2
          have nz : ((H0.length : Int) + 1 == 0) = false := beq_false_of_ne (by omega)
          by_cases hbad : hfr < 1 ∨ (mF.length : Int) < hfr ∨ hht < 0 ∨ (mS.length : Int) < hht
          · as_aux_lemma =>
            have ht := throw_bad hs hf hh (by simpa using hbad) (Nat.le_trans (m := 400) N1.out (by omega)) (Nat.le_trans (m := 120) (by simpa using N2.out) (by omega)) (Nat.le_trans (m := 100) (by simpa using N3'.out) (by omega)) ba ha sp tp st r co code
            unfold machV at ht
            clear hs hf hh
            go_wp2_with fail
            refine ht.mono ?_
            clear ht
            rintro e w10 ⟨qs1, qf1, qh1, ns1, nf1, nh1, ks1, kf1, kh1, rfl, hx10⟩
            unfold machV
            have HX10 := Lib.hid (HX9.out.trans hx10)
            have HV := Lib.hid hx10
            have C1' := Lib.hid (blk C1.out hx10)
            clear hx10 C1 m0 m1 m2 m3 m4 m5 m6 m7 m8 m9
            go_upto_region 14 with fail
            refine wp_alloc1 fun W11 hE hS b0 => ?_
            have HX11 := Lib.hid (HX10.out.trans hE)
            have c1 := blk C1'.out hE
            obtain ⟨m0, m1, m2, m3, m4, m5, m6, m7, m8, m9⟩ := cells10 c1
            have C1 := Lib.hid c1
            have B0 := Lib.hid b0
            have v0 := (HV.out.trans hE).cell V0.out; have v1 := (HV.out.trans hE).cell V1.out; have v2 := (HV.out.trans hE).cell V2.out
            clear hE hS b0 C1' HX10 c1 V0 V1 V2 HV
            have nb3 := N3'.out
            go_upto_region 17 with fail
            refine wp_alloc1 fun W12 hE hS b1 => ?_
            have HX12 := Lib.hid (HX11.out.trans hE)
            have c1 := blk C1.out hE
            have c0 := blk B0.out hE
            clear m0 m1 m2 m3 m4 m5 m6 m7 m8 m9 v0 v1 v2
            obtain ⟨m0, m1, m2, m3, m4, m5, m6, m7, m8, m9⟩ := cells10 c1
            obtain ⟨z0, z1, z2, z3, z4, z5, z6, z7, z8, z9⟩ := cells10 c0
            obtain ⟨v0, v1, v2⟩ := cells3 b1
            clear hE hS b1 c1 c0 B0 C1 HX11
            have HB := Lib.hid hbad
            clear hbad
            by_cases u1 : hfr < 1
            · have t1 : decide (hfr < 1) = true := decide_eq_true u1
              go_wp2_with fail
              refine (wakes_is _ (HK.out.1.ext HX12.out)).mono ?_
              rintro e w13 ⟨rfl, hx13⟩
              have HX13 := Lib.hid (HX12.out.trans hx13)
              clear hx13
              go_wp2_with fail
              go_ret
              exact ⟨rfl, HX13.out⟩
            have t1 : decide (hfr < 1) = false := decide_eq_false u1
            by_cases u2 : (mF.length : Int) < hfr
            · have t2 : decide ((mF.length : Int) < hfr) = true := decide_eq_true u2
              go_wp2_with fail
              refine (wakes_is _ (HK.out.1.ext HX12.out)).mono ?_
              rintro e w13 ⟨rfl, hx13⟩
              have HX13 := Lib.hid (HX12.out.trans hx13)
              clear hx13
              go_wp2_with fail
              go_ret
              exact ⟨rfl, HX13.out⟩
            have t2 : decide ((mF.length : Int) < hfr) = false := decide_eq_false u2
            by_cases u3 : hht < 0
            · have t3 : decide (hht < 0) = true := decide_eq_true u3
              go_wp2_with fail
              refine (wakes_is _ (HK.out.1.ext HX12.out)).mono ?_
              rintro e w13 ⟨rfl, hx13⟩
              have HX13 := Lib.hid (HX12.out.trans hx13)
              clear hx13
              go_wp2_with fail
              go_ret
              exact ⟨rfl, HX13.out⟩
            have t3 : decide (hht < 0) = false := decide_eq_false u3
            have u4 : (mS.length : Int) < hht := by have := HB.out; omega
            have t4 : decide ((mS.length : Int) < hht) = true := decide_eq_true u4
            go_wp2_with fail
            refine (wakes_is _ (HK.out.1.ext HX12.out)).mono ?_
            rintro e w13 ⟨rfl, hx13⟩
            have HX13 := Lib.hid (HX12.out.trans hx13)
            clear hx13
            go_wp2_with fail
            go_ret
            exact ⟨rfl, HX13.out⟩
          · as_aux_lemma =>
            obtain ⟨j, rfl⟩ : ∃ j : Nat, hfr = (j : Int) + 1 := ⟨(hfr - 1).toNat, by omega⟩
            obtain ⟨p, rfl⟩ : ∃ p : Nat, hht = (p : Int) := ⟨hht.toNat, by omega⟩
            have hj : j < mF.length := by omega
            have hpl : p ≤ mS.length := by omega
            obtain ⟨y, hy⟩ : ∃ y, mF[j]? = some y := ⟨_, List.getElem?_eq_getElem hj⟩
            have ht := throw_yes (j := j) (p := p) (pc := hpc) (fc := frC y) hs hf hh (by rw [List.getElem?_map, hy]; rfl) hpl (Nat.le_trans (m := 400) N1.out (by omega)) (Nat.le_trans (m := 120) (by simpa using N2.out) (by omega)) (Nat.le_trans (m := 100) (by simpa using N3'.out) (by omega)) ba ha sp tp st r co code
            unfold machV at ht
            have HSo := Lib.hid hs
            clear hs hf hh hbad
            go_wp2_with fail
            refine ht.mono ?_
            clear ht
            rintro e w10 ⟨s10, f10, h10, rfl, ho10, hf10, hh10, hx10⟩
            unfold machV
            have hls : ((mS.take p ++ [intW code]).map wordC).length = p + 1 := by simp; omega
            have hlf : (((mF.map frC).take (j + 1)).set j ((frC y).set 1 (.int .i64 hpc))).length = j + 1 := by simp; omega
            obtain ⟨q10, c10, rfl, hk1, hk2⟩ := ho10.len
            obtain ⟨qf10, cf10, rfl, -, -⟩ := hf10.len
            obtain ⟨qh10, ch10, rfl, -, -⟩ := hh10.len
            rw [hls] at ho10 hk1 ⊢
            rw [hlf] at hf10 ⊢
            rw [List.length_map] at hh10 ⊢
            obtain ⟨gf, rfl, -, p1, -⟩ := hf10.cell (i := j) (f := 1) (u := .int .i64 hpc) (cs := (frC y).set 1 (.int .i64 hpc)) (by rw [List.getElem?_set_self (by simp; omega)]) rfl
            obtain ⟨gs, rfl, -, p2, -⟩ := ho10.cell (i := p) (f := 0) (u := .int .u64 (intW code)) (cs := wordC (intW code)) (by rw [List.map_append, List.getElem?_append_right (by simp; omega)]; simp [Nat.min_eq_left hpl]) rfl
            rw [Nat.add_zero, Nat.mul_one] at p2
            have hw1 := RowsP.take ho10.p (k := p) (by omega)
            rw [List.map_append, List.take_append_of_le_length (by simp; omega), List.map_take, List.take_take, Nat.min_self] at hw1
            have HW1 := Lib.hid hw1
            have P1 := Lib.hid p1; have P2 := Lib.hid p2
            have HX10 := Lib.hid (HX9.out.trans hx10)
            have HV := Lib.hid hx10
            have C1' := Lib.hid (blk C1.out hx10)
            have HSo2 := Lib.hid (HSo.out.ext hx10)
            clear hx10 C1 m0 m1 m2 m3 m4 m5 m6 m7 m8 m9 ho10 hf10 hh10 hls hlf p1 p2 hw1 HSo hy
            go_upto_region 14 with fail
            refine wp_alloc1 fun W11 hE hS b0 => ?_
            have HX11 := Lib.hid (HX10.out.trans hE)
            have c1 := blk C1'.out hE
            obtain ⟨m0, m1, m2, m3, m4, m5, m6, m7, m8, m9⟩ := cells10 c1
            have C1 := Lib.hid c1
            have B0 := Lib.hid b0
            have v0 := (HV.out.trans hE).cell V0.out; have v1 := (HV.out.trans hE).cell V1.out; have v2 := (HV.out.trans hE).cell V2.out
            have HE11 := Lib.hid hE
            clear hE hS b0 C1' HX10 c1 V0 V1 V2 HV
            have nb3 := N3'.out
            go_upto_region 17 with fail
            refine wp_alloc1 fun W12 hE hS b1 => ?_
            have HX12 := Lib.hid (HX11.out.trans hE)
            have HE12 := Lib.hid (HE11.out.trans hE)
            have c1 := blk C1.out hE
            have c0 := blk B0.out hE
            clear m0 m1 m2 m3 m4 m5 m6 m7 m8 m9 v0 v1 v2
            obtain ⟨m0, m1, m2, m3, m4, m5, m6, m7, m8, m9⟩ := cells10 c1
            obtain ⟨z0, z1, z2, z3, z4, z5, z6, z7, z8, z9⟩ := cells10 c0
            obtain ⟨v0, v1, v2⟩ := cells3 b1
            have p1 := HE12.out.cell P1.out
            have p2 := HE12.out.cell P2.out
            have HWa := Lib.hid (HW1.out.ext HE12.out)
            have HWb := Lib.hid ((RowsP.take HSo2.out (k := p) (by omega)).ext HE12.out)
            clear hE hS b1 c1 c0 B0 C1 HX11 HE11 HE12 P1 P2 HW1 HSo2
            have t1 : decide ((j : Int) + 1 < 1) = false := decide_eq_false (by omega)
            have t2 : decide ((mF.length : Int) < (j : Int) + 1) = false := decide_eq_false (by omega)
            have t3 : decide ((p : Int) < 0) = false := decide_eq_false (by omega)
            have t4 : decide (mS.length < p) = false := decide_eq_false (by omega)
            go_upto_region 19 with fail
            have hk1 : ∀ W, (Instr.slice 29 (.slice (some ⟨gs, 0, none⟩) (p + 1) c10) none (some (.int .i64 (p : Int))) none).run Tryd.prog W = .ok (.slice (some ⟨gs, 0, none⟩) p c10) W := fun W => run_take E64 W _ _ _ p (by omega) hk2
            obtain ⟨hS1, hS2⟩ : mS.length ≤ cS ∧ cS ≤ maxLen := by
              obtain ⟨q, c, hv, h1, h2, -⟩ := HM.out.s.at
              dsimp only at hv h1
              obtain ⟨-, -, rfl⟩ := Value.slice.inj hv
              exact ⟨by simpa using h1, h2⟩
            have hk3 : ∀ W, (Instr.slice 29 (.slice qS mS.length cS) none (some (.int .i64 (p : Int))) none).run Tryd.prog W = .ok (.slice qS p cS) W := fun W => run_take E64 W _ _ _ p (by omega) hS2
            have cW := fun d os => quiet_ext ((keep_words (w := Go.Sort.grow (redrawn W12 d) os) (WordSl.of_rows (l := mS.take p) (by rw [List.map_take]; exact HWa.out.ext (Ext.regrown W12 d os))) (WordSl.of_rows (l := mS.take p) (by rw [List.map_take]; exact HWb.out.ext (Ext.regrown W12 d os)))).mono (R' := fun e w' => e = .returned (.bool true) ∧ Ext (Go.Sort.grow (redrawn W12 d) os) w') (fun e' w' h => ⟨by rw [h.1, decide_eq_true rfl], h.2⟩))
            have cI := fun d os => quiet_same (refInt_is code (Go.Sort.grow (redrawn W12 d) os))
            have cK := fun d os => quiet_ext (wakes_is (Go.Sort.grow (redrawn W12 d) os) (HK.out.1.ext (HX12.out.trans (Ext.regrown W12 d os))))
            have CW := Lib.hid cW; have CI := Lib.hid cI; have CK := Lib.hid cK
            have r0 := fun d os => cell_regrown m4 d os
            have r1 := fun d os => cell_regrown m6 d os
            have r2 := fun d os => cell_regrown m7 d os
            have r3 := fun d os => cell_regrown z4 d os
            have r4 := fun d os => cell_regrown z5 d os
            have r5 := fun d os => cell_regrown z6 d os
            have r6 := fun d os => cell_regrown z7 d os
            have r7 := fun d os => cell_regrown v0 d os
            have r8 := fun d os => cell_regrown v1 d os
            have r9 := fun d os => cell_regrown v2 d os
            have ra := fun d os => cell_regrown p1 d os
            have rb := fun d os => cell_regrown p2 d os
            clear HWa HWb C0 t1 t2 t3 t4 cW cI cK m0 m1 m2 m3 m4 m5 m6 m7 m8 m9 z0 z1 z2 z3 z4 z5 z6 z7 z8 z9 v0 v1 v2 p1 p2
            have i1 : (j : Int) < (j : Int) + 1 := by omega
            have i2 : (p : Int) < (p : Int) + 1 := by omega
            have nb4 := N3'.out
            have w1 : IntKind.i64.wrap ((H0.length : Int) + 1 - 1) = (H0.length : Int) := by rw [Int.add_sub_cancel]; exact IntWalk.i64_in _ (by omega)
            have w2 : IntKind.i64.wrap (H0.length : Int) = (H0.length : Int) := IntWalk.i64_in _ (by omega)
            have w3 : IntKind.i64.wrap ((j : Int) + 1 - 1) = (j : Int) := by rw [Int.add_sub_cancel]; exact IntWalk.i64_in _ (by omega)
            have w4 : IntKind.i64.wrap (j : Int) = (j : Int) := IntWalk.i64_in _ (by omega)
            have w5 : IntKind.i64.wrap ((p : Int) + 1) = (p : Int) + 1 := IntWalk.i64_in _ (by omega)
            clear nb4
            refine wp_region_quiet_below (by kernel_rfl) (by kernel_rfl) ?_
            repeat (first | go_big_quiet_step (first | exact CW.out _ _ | exact CI.out _ _ | exact CK.out _ _) | quiet_step (first | exact CW.out _ _ | exact CI.out _ _ | exact CK.out _ _))
            refine wpQuiet_nil ?_
            intro _ hw'
            obtain ⟨⟨dq, osq⟩, hw''⟩ := hw'
            subst hw''
            have HXQ := Lib.hid (HX12.out.trans (Ext.regrown W12 dq osq))
            clear r0 r1 r2 r3 r4 r5 r6 r7 r8 r9 ra rb CW CI CK hk1 hk3
            go_wp2_with fail
            go_ret
            exact ⟨rfl, HXQ.out⟩
      | true =>
        rintro e w9 ⟨s9, f9, rfl, hs9, hf9, hx9⟩
        unfold machV
        obtain ⟨qs9, ns9, cs9, rfl⟩ : ∃ q n c, s9 = .slice q n c := by obtain ⟨q, c, hv, -⟩ := hs9.len; exact ⟨q, _, c, hv⟩
        obtain ⟨qf9, nf9, cf9, rfl⟩ : ∃ q n c, f9 = .slice q n c := by obtain ⟨q, c, hv, -⟩ := hf9.len; exact ⟨q, _, c, hv⟩
        have HS9 := Lib.hid hs9; have HF9 := Lib.hid hf9
        clear hs9 hf9
        have c0 := blk C0.out hx9; have c1 := blk C1.out hx9; have tw := blk TW.out hx9
        have HXa := Lib.hid (HX8.out.trans hx9)
        have HE9 := Lib.hid hx9
        have HA9 := Lib.hid (HA8.out.ext hx9)
        have C0a := Lib.hid c0; have C1a := Lib.hid c1; have TWa := Lib.hid tw
        clear l0 l1 l2 c0 c1 tw hx9 C0 C1 TW HX8 HA8
        go_upto_region 11 with fail
        refine wp_alloc1 fun Wb hE hS b0 => ?_
        have c0 := blk C0a.out hE; have c1 := blk C1a.out hE; have tw := blk TWa.out hE
        have HXb := Lib.hid (HXa.out.trans hE)
        have HEb := Lib.hid (HE9.out.trans hE)
        have HAb := Lib.hid (HA9.out.ext hE)
        have HE1 := Lib.hid hE
        obtain ⟨l0, l1, l2⟩ := cells3 c0
        obtain ⟨z0, z1, z2, z3, z4, z5, z6, z7, z8, z9⟩ := cells10 b0
        obtain ⟨t0, t1⟩ := cells2 tw
        have C0 := Lib.hid c0; have C1 := Lib.hid c1; have TW := Lib.hid tw; have Z0 := Lib.hid b0
        clear c0 c1 tw hE hS b0 HXa HA9 HE9 C0a C1a TWa
        go_wp2_with fail
        refine (HRG.out _ HEb.out).mono ?_
        rintro e wc ⟨rfl, hxc⟩
        have c0 := blk C0.out hxc; have c1 := blk C1.out hxc; have tw := blk TW.out hxc; have b0 := blk Z0.out hxc
        have HXc := Lib.hid (HXb.out.trans hxc)
        have HEc := Lib.hid (HEb.out.trans hxc)
        have HAc := Lib.hid (HAb.out.ext hxc)
        have HE1c := Lib.hid (HE1.out.trans hxc)
        clear l0 l1 l2 z0 z1 z2 z3 z4 z5 z6 z7 z8 z9 t0 t1 hxc C0 C1 TW Z0 HXb HEb HAb HE1
        obtain ⟨l0, l1, l2⟩ := cells3 c0
        obtain ⟨z0, z1, z2, z3, z4, z5, z6, z7, z8, z9⟩ := cells10 b0
        obtain ⟨t0, t1⟩ := cells2 tw
        have C0 := Lib.hid c0; have C1 := Lib.hid c1; have TW := Lib.hid tw; have Z0 := Lib.hid b0
        clear c0 c1 tw b0
        have HXb := HXc; have HEb := HEc; have HAb := HAc; have HE1 := HE1c
        clear HXc HEc HAc HE1c
        go_wp2_with fail
        have hfg := fgood_yes HAb.out lay40_w64 ⟨3, 20, 0, 0⟩ (by decide) lay40_there rfl (HK.out.2.ext HXb.out) (HXb.out.cell HK.out.1.2.2) ⟨F, S, O, .slice qf nf cf, .slice qs ns cs, .slice qo no co'⟩ (HP.out.ext HXb.out) hge (nLoc F) (fun y hy => by
          obtain ⟨y', hy', h0, -⟩ := goodP_first hge
          have e := Option.some.inj (hy.symm.trans hy')
          subst e
          dsimp only at hy
          unfold nLoc
          rw [hy]
          simp
          omega) (HS9.out.ext HE1.out).p (HF9.out.ext HE1.out)
        unfold machV at hfg
        dsimp only at hfg
        refine hfg.mono ?_
        clear hfg hge HS9 HF9
        rintro e wc ⟨rfl, hxc⟩
        have c0 := blk C0.out hxc; have c1 := blk C1.out hxc; have tw := blk TW.out hxc; have b0 := blk Z0.out hxc
        have HXc := Lib.hid (HXb.out.trans hxc)
        have HEc := Lib.hid (HEb.out.trans hxc)
        have HAc := Lib.hid (HAb.out.ext hxc)
        have HE1c := Lib.hid (HE1.out.trans hxc)
        clear l0 l1 l2 z0 z1 z2 z3 z4 z5 z6 z7 z8 z9 t0 t1 hxc C0 C1 TW Z0 HXb HEb HAb HE1
        obtain ⟨l0, l1, l2⟩ := cells3 c0
        obtain ⟨z0, z1, z2, z3, z4, z5, z6, z7, z8, z9⟩ := cells10 b0
        obtain ⟨t0, t1⟩ := cells2 tw
        have C0 := Lib.hid c0; have C1 := Lib.hid c1; have TW := Lib.hid tw; have Z0 := Lib.hid b0
        clear c0 c1 tw b0
        have HXb := HXc; have HEb := HEc; have HAb := HAc; have HE1 := HE1c
        clear HXc HEc HAc HE1c
        go_wp2_with fail
        refine (HRG.out _ HEb.out).mono ?_
        rintro e wc ⟨rfl, hxc⟩
        go_upto_region 13 with fail
        have HX9 := Lib.hid (HXb.out.trans hxc)
        have c1 := blk C1.out hxc
        obtain ⟨m0, m1, m2, m3, m4, m5, m6, m7, m8, m9⟩ := cells10 c1
        clear C1
        have C1 := Lib.hid c1
        clear c1 l0 l1 l2 z0 z1 z2 z3 z4 z5 z6 z7 z8 z9 t0 t1 hxc C0 TW Z0 HXb HEb HAb HE1 HRG HP
        rcases List.eq_nil_or_concat mH with hnil | ⟨H0, ⟨hfr, hht, hpc⟩, hcc⟩
        · as_aux_lemma =>
          subst hnil
          have ht := throw_none (HM.out.s.ext HX9.out) (HM.out.f.ext HX9.out) (HM.out.h.ext HX9.out) (Nat.le_trans (m := 400) N1.out (by omega)) (Nat.le_trans (m := 120) (by simpa using N2.out) (by omega)) ba ha sp tp st r co code
          unfold machV at ht
          go_wp2_with fail
          refine ht.mono ?_
          clear ht
          rintro e w10 ⟨h10, rfl, hh10, hx10⟩
          unfold machV
          obtain ⟨qh10, ch10, rfl, -, -⟩ := hh10.len
          rw [List.length_nil]
          have HX10 := Lib.hid (HX9.out.trans hx10)
          have c1 := blk C1.out hx10
          have C1' := Lib.hid c1
          clear hx10 C1 m0 m1 m2 m3 m4 m5 m6 m7 m8 m9 c1 hh10
          go_upto_region 14 with fail
          refine wp_alloc1 fun W11 hE hS b0 => ?_
          have HX11 := Lib.hid (HX10.out.trans hE)
          obtain ⟨m0, m1, m2, m3, m4, m5, m6, m7, m8, m9⟩ := cells10 (blk C1'.out hE)
          obtain ⟨z0, z1, z2, z3, z4, z5, z6, z7, z8, z9⟩ := cells10 b0
          have B0 := Lib.hid b0
          clear hE hS b0 C1' HX10
          go_upto_region 15 with fail
          have r1 := fun d os => cell_regrown z4 d os
          have r2 := fun d os => cell_regrown z5 d os
          have r4 := fun d os => cell_regrown z7 d os
          have r6 := fun d os => cell_regrown z9 d os
          have cA := fun d os => quiet_same (refWrap_is code (Go.Sort.grow (redrawn W11 d) os))
          have cB := fun d os => quiet_ext (wakes_is (Go.Sort.grow (redrawn W11 d) os) (HK.out.1.ext (HX11.out.trans (Ext.regrown W11 d os))))
          have CA := Lib.hid cA; have CB := Lib.hid cB
          clear cA cB m0 m1 m2 m3 m4 m5 m6 m7 m8 m9 z0 z1 z2 z3 z4 z5 z6 z7 z8 z9 B0
          refine wp_region_quiet_below (by kernel_rfl) (by kernel_rfl) ?_
          repeat (first | go_big_quiet_step (first | exact CA.out _ _ | exact CB.out _ _) | quiet_step (first | exact CA.out _ _ | exact CB.out _ _))
          refine wpQuiet_nil ?_
          intro _ hw'
          obtain ⟨⟨dq, osq⟩, hw''⟩ := hw'
          subst hw''
          have HXQ := Lib.hid (HX11.out.trans (Ext.regrown W11 dq osq))
          clear r1 r2 r4 r6 CA CB
          go_wp2_with fail
          go_ret
          exact ⟨rfl, HXQ.out⟩
        · have hlh : mH.length = H0.length + 1 := by rw [hcc]; simp
          have hmm : mH.map hdC = H0.map hdC ++ [hdC ⟨hfr, hht, hpc⟩] := by rw [hcc]; simp
          have hh := HM.out.h.ext HX9.out
          dsimp only at hh
          rw [hmm] at hh
          clear hmm
          have N3' := Lib.hid (show H0.length ≤ 100 by have := N3.out; omega)
          clear N3
          generalize mH.length = nH at *
          subst hlh
          obtain ⟨qh', ch', hvv, -, -, hcell⟩ := hh.at
          obtain ⟨bh, oh, hq, hhc⟩ := hcell H0.length (hdC ⟨hfr, hht, hpc⟩) (by rw [List.getElem?_append_right (by simp)]; simp)
          obtain ⟨rfl, -, rfl⟩ := Value.slice.inj hvv
          subst hq
          have v0 := hhc 0 _ rfl; have v1 := hhc 1 _ rfl; have v2 := hhc 2 _ rfl
          rw [Nat.add_zero] at v0
          have V0 := Lib.hid v0; have V1 := Lib.hid v1; have V2 := Lib.hid v2
          have hs := HM.out.s.ext HX9.out
          have hf := HM.out.f.ext HX9.out
          dsimp only at hs hf
          clear hcell hhc hvv v0 v1 v2
          have nz : ((H0.length : Int) + 1 == 0) = false := beq_false_of_ne (by omega)
          by_cases hbad : hfr < 1 ∨ (mF.length : Int) < hfr ∨ hht < 0 ∨ (mS.length : Int) < hht
          · as_aux_lemma =>
            have ht := throw_bad hs hf hh (by simpa using hbad) (Nat.le_trans (m := 400) N1.out (by omega)) (Nat.le_trans (m := 120) (by simpa using N2.out) (by omega)) (Nat.le_trans (m := 100) (by simpa using N3'.out) (by omega)) ba ha sp tp st r co code
            unfold machV at ht
            clear hs hf hh
            go_wp2_with fail
            refine ht.mono ?_
            clear ht
            rintro e w10 ⟨qs1, qf1, qh1, ns1, nf1, nh1, ks1, kf1, kh1, rfl, hx10⟩
            unfold machV
            have HX10 := Lib.hid (HX9.out.trans hx10)
            have HV := Lib.hid hx10
            have C1' := Lib.hid (blk C1.out hx10)
            clear hx10 C1 m0 m1 m2 m3 m4 m5 m6 m7 m8 m9
            go_upto_region 14 with fail
            refine wp_alloc1 fun W11 hE hS b0 => ?_
            have HX11 := Lib.hid (HX10.out.trans hE)
            have c1 := blk C1'.out hE
            obtain ⟨m0, m1, m2, m3, m4, m5, m6, m7, m8, m9⟩ := cells10 c1
            have C1 := Lib.hid c1
            have B0 := Lib.hid b0
            have v0 := (HV.out.trans hE).cell V0.out; have v1 := (HV.out.trans hE).cell V1.out; have v2 := (HV.out.trans hE).cell V2.out
            clear hE hS b0 C1' HX10 c1 V0 V1 V2 HV
            have nb3 := N3'.out
            go_upto_region 17 with fail
            refine wp_alloc1 fun W12 hE hS b1 => ?_
            have HX12 := Lib.hid (HX11.out.trans hE)
            have c1 := blk C1.out hE
            have c0 := blk B0.out hE
            clear m0 m1 m2 m3 m4 m5 m6 m7 m8 m9 v0 v1 v2
            obtain ⟨m0, m1, m2, m3, m4, m5, m6, m7, m8, m9⟩ := cells10 c1
            obtain ⟨z0, z1, z2, z3, z4, z5, z6, z7, z8, z9⟩ := cells10 c0
            obtain ⟨v0, v1, v2⟩ := cells3 b1
            clear hE hS b1 c1 c0 B0 C1 HX11
            have HB := Lib.hid hbad
            clear hbad
            by_cases u1 : hfr < 1
            · have t1 : decide (hfr < 1) = true := decide_eq_true u1
              go_wp2_with fail
              refine (wakes_is _ (HK.out.1.ext HX12.out)).mono ?_
              rintro e w13 ⟨rfl, hx13⟩
              have HX13 := Lib.hid (HX12.out.trans hx13)
              clear hx13
              go_wp2_with fail
              go_ret
              exact ⟨rfl, HX13.out⟩
            have t1 : decide (hfr < 1) = false := decide_eq_false u1
            by_cases u2 : (mF.length : Int) < hfr
            · have t2 : decide ((mF.length : Int) < hfr) = true := decide_eq_true u2
              go_wp2_with fail
              refine (wakes_is _ (HK.out.1.ext HX12.out)).mono ?_
              rintro e w13 ⟨rfl, hx13⟩
              have HX13 := Lib.hid (HX12.out.trans hx13)
              clear hx13
              go_wp2_with fail
              go_ret
              exact ⟨rfl, HX13.out⟩
            have t2 : decide ((mF.length : Int) < hfr) = false := decide_eq_false u2
            by_cases u3 : hht < 0
            · have t3 : decide (hht < 0) = true := decide_eq_true u3
              go_wp2_with fail
              refine (wakes_is _ (HK.out.1.ext HX12.out)).mono ?_
              rintro e w13 ⟨rfl, hx13⟩
              have HX13 := Lib.hid (HX12.out.trans hx13)
              clear hx13
              go_wp2_with fail
              go_ret
              exact ⟨rfl, HX13.out⟩
            have t3 : decide (hht < 0) = false := decide_eq_false u3
            have u4 : (mS.length : Int) < hht := by have := HB.out; omega
            have t4 : decide ((mS.length : Int) < hht) = true := decide_eq_true u4
            go_wp2_with fail
            refine (wakes_is _ (HK.out.1.ext HX12.out)).mono ?_
            rintro e w13 ⟨rfl, hx13⟩
            have HX13 := Lib.hid (HX12.out.trans hx13)
            clear hx13
            go_wp2_with fail
            go_ret
            exact ⟨rfl, HX13.out⟩
          · as_aux_lemma =>
            obtain ⟨j, rfl⟩ : ∃ j : Nat, hfr = (j : Int) + 1 := ⟨(hfr - 1).toNat, by omega⟩
            obtain ⟨p, rfl⟩ : ∃ p : Nat, hht = (p : Int) := ⟨hht.toNat, by omega⟩
            have hj : j < mF.length := by omega
            have hpl : p ≤ mS.length := by omega
            obtain ⟨y, hy⟩ : ∃ y, mF[j]? = some y := ⟨_, List.getElem?_eq_getElem hj⟩
            have ht := throw_yes (j := j) (p := p) (pc := hpc) (fc := frC y) hs hf hh (by rw [List.getElem?_map, hy]; rfl) hpl (Nat.le_trans (m := 400) N1.out (by omega)) (Nat.le_trans (m := 120) (by simpa using N2.out) (by omega)) (Nat.le_trans (m := 100) (by simpa using N3'.out) (by omega)) ba ha sp tp st r co code
            unfold machV at ht
            have HSo := Lib.hid hs
            clear hs hf hh hbad
            go_wp2_with fail
            refine ht.mono ?_
            clear ht
            rintro e w10 ⟨s10, f10, h10, rfl, ho10, hf10, hh10, hx10⟩
            unfold machV
            have hls : ((mS.take p ++ [intW code]).map wordC).length = p + 1 := by simp; omega
            have hlf : (((mF.map frC).take (j + 1)).set j ((frC y).set 1 (.int .i64 hpc))).length = j + 1 := by simp; omega
            obtain ⟨q10, c10, rfl, hk1, hk2⟩ := ho10.len
            obtain ⟨qf10, cf10, rfl, -, -⟩ := hf10.len
            obtain ⟨qh10, ch10, rfl, -, -⟩ := hh10.len
            rw [hls] at ho10 hk1 ⊢
            rw [hlf] at hf10 ⊢
            rw [List.length_map] at hh10 ⊢
            obtain ⟨gf, rfl, -, p1, -⟩ := hf10.cell (i := j) (f := 1) (u := .int .i64 hpc) (cs := (frC y).set 1 (.int .i64 hpc)) (by rw [List.getElem?_set_self (by simp; omega)]) rfl
            obtain ⟨gs, rfl, -, p2, -⟩ := ho10.cell (i := p) (f := 0) (u := .int .u64 (intW code)) (cs := wordC (intW code)) (by rw [List.map_append, List.getElem?_append_right (by simp; omega)]; simp [Nat.min_eq_left hpl]) rfl
            rw [Nat.add_zero, Nat.mul_one] at p2
            have hw1 := RowsP.take ho10.p (k := p) (by omega)
            rw [List.map_append, List.take_append_of_le_length (by simp; omega), List.map_take, List.take_take, Nat.min_self] at hw1
            have HW1 := Lib.hid hw1
            have P1 := Lib.hid p1; have P2 := Lib.hid p2
            have HX10 := Lib.hid (HX9.out.trans hx10)
            have HV := Lib.hid hx10
            have C1' := Lib.hid (blk C1.out hx10)
            have HSo2 := Lib.hid (HSo.out.ext hx10)
            clear hx10 C1 m0 m1 m2 m3 m4 m5 m6 m7 m8 m9 ho10 hf10 hh10 hls hlf p1 p2 hw1 HSo hy
            go_upto_region 14 with fail
            refine wp_alloc1 fun W11 hE hS b0 => ?_
            have HX11 := Lib.hid (HX10.out.trans hE)
            have c1 := blk C1'.out hE
            obtain ⟨m0, m1, m2, m3, m4, m5, m6, m7, m8, m9⟩ := cells10 c1
            have C1 := Lib.hid c1
            have B0 := Lib.hid b0
            have v0 := (HV.out.trans hE).cell V0.out; have v1 := (HV.out.trans hE).cell V1.out; have v2 := (HV.out.trans hE).cell V2.out
            have HE11 := Lib.hid hE
            clear hE hS b0 C1' HX10 c1 V0 V1 V2 HV
            have nb3 := N3'.out
            go_upto_region 17 with fail
            refine wp_alloc1 fun W12 hE hS b1 => ?_
            have HX12 := Lib.hid (HX11.out.trans hE)
            have HE12 := Lib.hid (HE11.out.trans hE)
            have c1 := blk C1.out hE
            have c0 := blk B0.out hE
            clear m0 m1 m2 m3 m4 m5 m6 m7 m8 m9 v0 v1 v2
            obtain ⟨m0, m1, m2, m3, m4, m5, m6, m7, m8, m9⟩ := cells10 c1
            obtain ⟨z0, z1, z2, z3, z4, z5, z6, z7, z8, z9⟩ := cells10 c0
            obtain ⟨v0, v1, v2⟩ := cells3 b1
            have p1 := HE12.out.cell P1.out
            have p2 := HE12.out.cell P2.out
            have HWa := Lib.hid (HW1.out.ext HE12.out)
            have HWb := Lib.hid ((RowsP.take HSo2.out (k := p) (by omega)).ext HE12.out)
            clear hE hS b1 c1 c0 B0 C1 HX11 HE11 HE12 P1 P2 HW1 HSo2
            have t1 : decide ((j : Int) + 1 < 1) = false := decide_eq_false (by omega)
            have t2 : decide ((mF.length : Int) < (j : Int) + 1) = false := decide_eq_false (by omega)
            have t3 : decide ((p : Int) < 0) = false := decide_eq_false (by omega)
            have t4 : decide (mS.length < p) = false := decide_eq_false (by omega)
            go_upto_region 19 with fail
            have hk1 : ∀ W, (Instr.slice 29 (.slice (some ⟨gs, 0, none⟩) (p + 1) c10) none (some (.int .i64 (p : Int))) none).run Tryd.prog W = .ok (.slice (some ⟨gs, 0, none⟩) p c10) W := fun W => run_take E64 W _ _ _ p (by omega) hk2
            obtain ⟨hS1, hS2⟩ : mS.length ≤ cS ∧ cS ≤ maxLen := by
              obtain ⟨q, c, hv, h1, h2, -⟩ := HM.out.s.at
              dsimp only at hv h1
              obtain ⟨-, -, rfl⟩ := Value.slice.inj hv
              exact ⟨by simpa using h1, h2⟩
            have hk3 : ∀ W, (Instr.slice 29 (.slice qS mS.length cS) none (some (.int .i64 (p : Int))) none).run Tryd.prog W = .ok (.slice qS p cS) W := fun W => run_take E64 W _ _ _ p (by omega) hS2
            have cW := fun d os => quiet_ext ((keep_words (w := Go.Sort.grow (redrawn W12 d) os) (WordSl.of_rows (l := mS.take p) (by rw [List.map_take]; exact HWa.out.ext (Ext.regrown W12 d os))) (WordSl.of_rows (l := mS.take p) (by rw [List.map_take]; exact HWb.out.ext (Ext.regrown W12 d os)))).mono (R' := fun e w' => e = .returned (.bool true) ∧ Ext (Go.Sort.grow (redrawn W12 d) os) w') (fun e' w' h => ⟨by rw [h.1, decide_eq_true rfl], h.2⟩))
            have cI := fun d os => quiet_same (refInt_is code (Go.Sort.grow (redrawn W12 d) os))
            have cK := fun d os => quiet_ext (wakes_is (Go.Sort.grow (redrawn W12 d) os) (HK.out.1.ext (HX12.out.trans (Ext.regrown W12 d os))))
            have CW := Lib.hid cW; have CI := Lib.hid cI; have CK := Lib.hid cK
            have r0 := fun d os => cell_regrown m4 d os
            have r1 := fun d os => cell_regrown m6 d os
            have r2 := fun d os => cell_regrown m7 d os
            have r3 := fun d os => cell_regrown z4 d os
            have r4 := fun d os => cell_regrown z5 d os
            have r5 := fun d os => cell_regrown z6 d os
            have r6 := fun d os => cell_regrown z7 d os
            have r7 := fun d os => cell_regrown v0 d os
            have r8 := fun d os => cell_regrown v1 d os
            have r9 := fun d os => cell_regrown v2 d os
            have ra := fun d os => cell_regrown p1 d os
            have rb := fun d os => cell_regrown p2 d os
            clear HWa HWb C0 t1 t2 t3 t4 cW cI cK m0 m1 m2 m3 m4 m5 m6 m7 m8 m9 z0 z1 z2 z3 z4 z5 z6 z7 z8 z9 v0 v1 v2 p1 p2
            have i1 : (j : Int) < (j : Int) + 1 := by omega
            have i2 : (p : Int) < (p : Int) + 1 := by omega
            have nb4 := N3'.out
            have w1 : IntKind.i64.wrap ((H0.length : Int) + 1 - 1) = (H0.length : Int) := by rw [Int.add_sub_cancel]; exact IntWalk.i64_in _ (by omega)
            have w2 : IntKind.i64.wrap (H0.length : Int) = (H0.length : Int) := IntWalk.i64_in _ (by omega)
            have w3 : IntKind.i64.wrap ((j : Int) + 1 - 1) = (j : Int) := by rw [Int.add_sub_cancel]; exact IntWalk.i64_in _ (by omega)
            have w4 : IntKind.i64.wrap (j : Int) = (j : Int) := IntWalk.i64_in _ (by omega)
            have w5 : IntKind.i64.wrap ((p : Int) + 1) = (p : Int) + 1 := IntWalk.i64_in _ (by omega)
            clear nb4
            refine wp_region_quiet_below (by kernel_rfl) (by kernel_rfl) ?_
            repeat (first | go_big_quiet_step (first | exact CW.out _ _ | exact CI.out _ _ | exact CK.out _ _) | quiet_step (first | exact CW.out _ _ | exact CI.out _ _ | exact CK.out _ _))
            refine wpQuiet_nil ?_
            intro _ hw'
            obtain ⟨⟨dq, osq⟩, hw''⟩ := hw'
            subst hw''
            have HXQ := Lib.hid (HX12.out.trans (Ext.regrown W12 dq osq))
            clear r0 r1 r2 r3 r4 r5 r6 r7 r8 r9 ra rb CW CI CK hk1 hk3
            go_wp2_with fail
            go_ret
            exact ⟨rfl, HXQ.out⟩
end Go.Proofs.YtgiopklnielglaaDoor
/- A program and a machine among the arguments, as a walk wants them. -/
namespace Go.Proofs.YtgiopklnielglaaDoor
open Go Go.ChangeShapes Go.WideShapes Go.ChangeAt Go.RowKit Go.Deep
set_option maxHeartbeats 4000000
set_option maxRecDepth 100000
theorem rowsP_of {w : World} {v : Value} {s : Nat} {l : List (List Value)} (hs : 1 ≤ s) (hr : RowsSl w v s l) (he : l = [] → EmptyV v) (h1 : Rows1 s l) : RowsP w v s l := by
  cases l with
  | nil => exact ⟨Rows1.nil s, .inl ⟨he rfl, rfl⟩⟩
  | cons x M => exact rows_p hs hr h1 (by simp)
theorem choose_it {α : Type} (p : α → Prop) (f : α → List Value) : ∀ (l : List (List Value)), (∀ cs ∈ l, ∃ x, cs = f x ∧ p x) → ∃ M : List α, l = M.map f ∧ ∀ x ∈ M, p x
  | [], _ => ⟨[], rfl, fun x h => by cases h⟩
  | c :: l, h => by
    obtain ⟨x, rfl, hx⟩ := h c (.head _)
    obtain ⟨M, rfl, hM⟩ := choose_it p f l (fun cs hm => h cs (.tail _ hm))
    exact ⟨x :: M, rfl, fun y hy => by rcases List.mem_cons.1 hy with rfl | hy; exact hx; exact hM y hy⟩
theorem rows1_map {α : Type} {s : Nat} (f : α → List Value) (h : ∀ x, (f x).length = s ∧ ∀ u ∈ f x, u.oneCell' = true) (l : List α) : Rows1 s (l.map f) := by
  intro cs hm
  obtain ⟨x, _, rfl⟩ := List.mem_map.1 hm
  exact h x
theorem ins_reads {H : Type} {enc : TypeId × Value → H} {w : World} {cs : List Value} (h : ReadsAs enc Tryd.prog w 67 cs) : ∃ x : In1, cs = insC x ∧ True := by
  obtain ⟨n, y, h⟩ := h
  obtain ⟨xs, k, rfl, _, hlen, hxl, hf⟩ := DataW.trod_struct Tryd.underlying67 h
  have hc : Tryd.prog.cellsOf 67 = 3 := by kernel_rfl
  rw [hc] at hlen
  match cs, hlen, xs, hxl with
  | [v0, v1, v2], _, [y0, y1, y2], _ =>
    have g0 := hf 0 _ rfl
    have g1 := hf 1 _ rfl
    have g2 := hf 2 _ rfl
    have ci : Tryd.prog.cellsOf 3 = 1 := by kernel_rfl
    simp [ci] at g0 g1 g2
    obtain ⟨a0, e0, _, _⟩ := DataW.trod_int Tryd.underlying3 g0
    obtain ⟨a1, e1, _, _⟩ := DataW.trod_int Tryd.underlying3 g1
    obtain ⟨a2, e2, _, _⟩ := DataW.trod_int Tryd.underlying3 g2
    simp at e0 e1 e2
    subst e0; subst e1; subst e2
    exact ⟨⟨a0, a1, a2⟩, rfl, trivial⟩
theorem code_lt {H : Type} {enc : TypeId × Value → H} {w : World} {cs : List Value} (h : ReadsLt enc Tryd.prog w 59 cs) : ∃ (v : Value) (l : List In1), cs = [v] ∧ RowsP w v 3 (l.map insC) ∧ l.length ≤ 140737488351232 := by
  obtain ⟨v, l, rfl, hr, he, hlen, hl⟩ := rows_cell_lt Tryd.underlying59 (show Tryd.prog.cellsOf 67 = 3 by kernel_rfl) (by omega) h
  rw [show Tryd.prog.bytesOf 67 = 24 by kernel_rfl] at hlen
  obtain ⟨M, rfl, -⟩ := choose_it (fun _ => True) insC l (fun cs hm => ins_reads (hl cs hm).reads)
  refine ⟨v, M, rfl, rowsP_of (by omega) hr he (rows1_map insC (fun x => ⟨rfl, fun u hu => by simp [insC] at hu; rcases hu with rfl | rfl | rfl <;> rfl⟩) M), ?_⟩
  rw [List.length_map] at hlen
  simp only [reachBytes] at hlen
  omega
theorem fn_lt {H : Type} {enc : TypeId × Value → H} {w : World} {cs : List Value} (h : ReadsLt enc Tryd.prog w 61 cs) : ∃ x : FnI, cs = fnC x ∧ (FnP w x ∧ x.f.code.length ≤ 140737488351232 ∧ ∃ q n c, x.v = .slice q n c) := by
  obtain ⟨n, y, h, hlt⟩ := h
  obtain ⟨xs, k, rfl, rfl, hlen, hxl, hf⟩ := DataW.trod_struct Tryd.underlying61 h
  have hc : Tryd.prog.cellsOf 61 = 3 := by kernel_rfl
  rw [hc] at hlen
  match cs, hlen, xs, hxl, hlt with
  | [v0, v1, v2], _, [y0, y1, y2], _, hlt =>
    have g0 := hf 0 _ rfl
    have g1 := hf 1 _ rfl
    have g2 := hf 2 _ rfl
    have ci : Tryd.prog.cellsOf 3 = 1 := by kernel_rfl
    have cs1 : Tryd.prog.cellsOf 59 = 1 := by kernel_rfl
    have hl2 := hlt.part (i := 2) Tryd.underlying61 rfl rfl
    simp [ci, cs1] at g0 g1 g2
    obtain ⟨a0, e0, _, _⟩ := DataW.trod_int Tryd.underlying3 g0
    obtain ⟨a1, e1, _, _⟩ := DataW.trod_int Tryd.underlying3 g1
    obtain ⟨v, l, e2, hp, hln⟩ := code_lt ⟨_, _, g2, hl2⟩
    simp at e0 e1 e2
    subst e0; subst e1; subst e2
    refine ⟨⟨⟨a0, a1, l⟩, v2⟩, rfl, hp, hln, ?_⟩
    obtain ⟨q, c, hv, -⟩ := hp.at
    exact ⟨q, _, c, hv⟩
theorem num_reads {H : Type} {enc : TypeId × Value → H} {w : World} {cs : List Value} (h : ReadsAs enc Tryd.prog w 3 cs) : ∃ x : Int, cs = ncC x ∧ True := by
  obtain ⟨n, y, h⟩ := h
  obtain ⟨a, rfl, _, _⟩ := DataW.trod_int Tryd.underlying3 h
  exact ⟨a, rfl, trivial⟩
theorem cons_lt {H : Type} {enc : TypeId × Value → H} {w : World} {cs : List Value} (h : ReadsLt enc Tryd.prog w 62 cs) : ∃ (v : Value) (l : List Int), cs = [v] ∧ RowsP w v 1 (l.map ncC) ∧ l.length ≤ 140737488351232 := by
  obtain ⟨v, l, rfl, hr, he, hlen, hl⟩ := rows_cell_lt Tryd.underlying62 (show Tryd.prog.cellsOf 3 = 1 by kernel_rfl) (by omega) h
  rw [show Tryd.prog.bytesOf 3 = 8 by kernel_rfl] at hlen
  obtain ⟨M, rfl, -⟩ := choose_it (fun _ => True) ncC l (fun cs hm => num_reads (hl cs hm).reads)
  refine ⟨v, M, rfl, rowsP_of (by omega) hr he (rows1_map ncC (fun x => ⟨rfl, fun u hu => by simp [ncC] at hu; subst hu; rfl⟩) M), ?_⟩
  rw [List.length_map] at hlen
  simp only [reachBytes] at hlen
  omega
theorem fo_lt {H : Type} {enc : TypeId × Value → H} {w : World} {cs : List Value} (h : ReadsLt enc Tryd.prog w 64 cs) : ∃ x : FoI, cs = foC x ∧ (FoP w x ∧ x.f.cons.length ≤ 140737488351232) := by
  obtain ⟨n, y, h, hlt⟩ := h
  obtain ⟨xs, k, rfl, rfl, hlen, hxl, hf⟩ := DataW.trod_struct Tryd.underlying64 h
  have hc : Tryd.prog.cellsOf 64 = 4 := by kernel_rfl
  rw [hc] at hlen
  match cs, hlen, xs, hxl, hlt with
  | [v0, v1, v2, v3], _, [y0, y1, y2, y3], _, hlt =>
    have g0 := hf 0 _ rfl
    have g1 := hf 1 _ rfl
    have g2 := hf 2 _ rfl
    have g3 := hf 3 _ rfl
    have ci : Tryd.prog.cellsOf 3 = 1 := by kernel_rfl
    have cs1 : Tryd.prog.cellsOf 62 = 1 := by kernel_rfl
    have hl2 := hlt.part (i := 3) Tryd.underlying64 rfl rfl
    simp [ci, cs1] at g0 g1 g2 g3
    obtain ⟨a0, e0, _, _⟩ := DataW.trod_int Tryd.underlying3 g0
    obtain ⟨a1, e1, _, _⟩ := DataW.trod_int Tryd.underlying3 g1
    obtain ⟨a2, e2, _, _⟩ := DataW.trod_int Tryd.underlying3 g2
    obtain ⟨v, l, e3, hp, hln⟩ := cons_lt ⟨_, _, g3, hl2⟩
    simp at e0 e1 e2 e3
    subst e0; subst e1; subst e2; subst e3
    exact ⟨⟨⟨a0, a1, a2, l⟩, v3⟩, rfl, hp, hln⟩
theorem st_reads {H : Type} {enc : TypeId × Value → H} {w : World} {cs : List Value} (h : ReadsAs enc Tryd.prog w 9 cs) : ∃ x : ByteArray, cs = stC x ∧ True := by
  obtain ⟨n, y, h⟩ := h
  obtain ⟨a, rfl, _⟩ := DataW.trod_string Tryd.underlying9 h
  exact ⟨a, rfl, trivial⟩
theorem open_prog_lt {H : Type} {enc : TypeId × Value → H} {W : World} {v : Value} {d : DataW H} {ps : List MemPlace} {base : Nat} (hval : Value.okWide Tryd.prog W .any base 26 v) (h : DataW.Trod enc Tryd.prog W 0 (fun _ => true) true 26 v d ps) (hlt : Light Tryd.prog 26 d) : ∃ x : PgI, v = .agg #[x.vf, x.vs, x.vo] ∧ PgP W x ∧ PgLt x := by
  obtain ⟨cs, rfl, _⟩ := okWide_struct Tryd.underlying26 hval
  obtain ⟨fuel, hf⟩ := h
  obtain ⟨xs, k, _, he, hlen, hxl, hq⟩ := DataW.trod_struct Tryd.underlying26 hf
  have hd : d = .agg (xs.map (·.1)) := by have := congrArg Prod.fst he; simpa using this
  subst hd
  have hc : Tryd.prog.cellsOf 26 = 3 := by kernel_rfl
  rw [hc] at hlen
  obtain ⟨cs⟩ := cs
  simp only [Value.cells] at hlen hq
  match cs, hlen, xs, hxl, hlt with
  | [v0, v1, v2], _, [y0, y1, y2], _, hlt =>
    have g0 := hq 0 _ rfl
    have g1 := hq 1 _ rfl
    have g2 := hq 2 _ rfl
    have c0 : Tryd.prog.cellsOf 22 = 1 := by kernel_rfl
    have c1 : Tryd.prog.cellsOf 23 = 1 := by kernel_rfl
    have c2 : Tryd.prog.cellsOf 24 = 1 := by kernel_rfl
    have l0 := hlt.part (i := 0) Tryd.underlying26 rfl rfl
    have l1 := hlt.part (i := 1) Tryd.underlying26 rfl rfl
    have l2 := hlt.part (i := 2) Tryd.underlying26 rfl rfl
    simp [c0, c1, c2] at g0 g1 g2
    obtain ⟨a0, F0, e0, hr0, hE0, hn0, hl0⟩ := rows_cell_lt Tryd.underlying22 (show Tryd.prog.cellsOf 61 = 3 by kernel_rfl) (by omega) ⟨_, _, g0, l0⟩
    obtain ⟨a1, S0, e1, hr1, hE1, hn1, hl1⟩ := rows_cell_lt Tryd.underlying23 (show Tryd.prog.cellsOf 9 = 1 by kernel_rfl) (by omega) ⟨_, _, g1, l1⟩
    obtain ⟨a2, O0, e2, hr2, hE2, hn2, hl2⟩ := rows_cell_lt Tryd.underlying24 (show Tryd.prog.cellsOf 64 = 4 by kernel_rfl) (by omega) ⟨_, _, g2, l2⟩
    obtain ⟨F, rfl, hF⟩ := choose_it (fun x => FnP W x ∧ x.f.code.length ≤ 140737488351232 ∧ ∃ q n c, x.v = .slice q n c) fnC F0 (fun cs hm => fn_lt (hl0 cs hm))
    obtain ⟨S, rfl, -⟩ := choose_it (fun _ => True) stC S0 (fun cs hm => st_reads (hl1 cs hm).reads)
    obtain ⟨O, rfl, hO⟩ := choose_it (fun x => FoP W x ∧ x.f.cons.length ≤ 140737488351232) foC O0 (fun cs hm => fo_lt (hl2 cs hm))
    simp at e0 e1 e2
    subst e0; subst e1; subst e2
    rw [show Tryd.prog.bytesOf 61 = 40 by kernel_rfl] at hn0
    rw [show Tryd.prog.bytesOf 9 = 16 by kernel_rfl] at hn1
    rw [show Tryd.prog.bytesOf 64 = 48 by kernel_rfl] at hn2
    rw [List.length_map] at hn0 hn1 hn2
    simp only [reachBytes] at hn0 hn1 hn2
    refine ⟨⟨F, S, O, v0, v1, v2⟩, rfl, ⟨rowsP_of (by omega) hr0 hE0 ?_, rowsP_of (by omega) hr1 hE1 (rows1_map stC (fun x => ⟨rfl, fun u hu => by simp [stC] at hu; subst hu; rfl⟩) S), rowsP_of (by omega) hr2 hE2 ?_, fun y hy => (hF y hy).1, fun y hy => (hO y hy).1⟩, ⟨by dsimp only; omega, by dsimp only; omega, by dsimp only; omega, fun y hy => (hF y hy).2.1, fun y hy => (hO y hy).2⟩⟩
    · intro cs hm
      obtain ⟨x, hx, rfl⟩ := List.mem_map.1 hm
      obtain ⟨q, n, c, hv⟩ := (hF x hx).2.2
      exact ⟨rfl, fun u hu => by simp [fnC, hv] at hu; rcases hu with rfl | rfl | rfl <;> rfl⟩
    · intro cs hm
      obtain ⟨x, hx, rfl⟩ := List.mem_map.1 hm
      obtain ⟨q, c, hv, -⟩ := (RowsP.at (hO x hx).1)
      exact ⟨rfl, fun u hu => by simp [foC, hv] at hu; rcases hu with rfl | rfl | rfl | rfl <;> rfl⟩
theorem fr_reads {H : Type} {enc : TypeId × Value → H} {w : World} {cs : List Value} (h : ReadsAs enc Tryd.prog w 55 cs) : ∃ x : Fr, cs = frC x ∧ True := by
  obtain ⟨n, y, h⟩ := h
  obtain ⟨xs, k, rfl, _, hlen, hxl, hf⟩ := DataW.trod_struct Tryd.underlying55 h
  have hc : Tryd.prog.cellsOf 55 = 4 := by kernel_rfl
  rw [hc] at hlen
  match cs, hlen, xs, hxl with
  | [v0, v1, v2, v3], _, [y0, y1, y2, y3], _ =>
    have g0 := hf 0 _ rfl
    have g1 := hf 1 _ rfl
    have g2 := hf 2 _ rfl
    have g3 := hf 3 _ rfl
    have ci : Tryd.prog.cellsOf 3 = 1 := by kernel_rfl
    have cu : Tryd.prog.cellsOf 32 = 1 := by kernel_rfl
    simp [ci, cu] at g0 g1 g2 g3
    obtain ⟨a0, e0, _, _⟩ := DataW.trod_int Tryd.underlying3 g0
    obtain ⟨a1, e1, _, _⟩ := DataW.trod_int Tryd.underlying3 g1
    obtain ⟨a2, e2, _, _⟩ := DataW.trod_int Tryd.underlying3 g2
    obtain ⟨a3, e3, _, _⟩ := DataW.trod_int Tryd.underlying32 g3
    simp at e0 e1 e2 e3
    subst e0; subst e1; subst e2; subst e3
    exact ⟨⟨a0, a1, a2, a3⟩, rfl, trivial⟩
theorem hd_reads {H : Type} {enc : TypeId × Value → H} {w : World} {cs : List Value} (h : ReadsAs enc Tryd.prog w 53 cs) : ∃ x : Hd, cs = hdC x ∧ True := by
  obtain ⟨n, y, h⟩ := h
  obtain ⟨xs, k, rfl, _, hlen, hxl, hf⟩ := DataW.trod_struct Tryd.underlying53 h
  have hc : Tryd.prog.cellsOf 53 = 3 := by kernel_rfl
  rw [hc] at hlen
  match cs, hlen, xs, hxl with
  | [v0, v1, v2], _, [y0, y1, y2], _ =>
    have g0 := hf 0 _ rfl
    have g1 := hf 1 _ rfl
    have g2 := hf 2 _ rfl
    have ci : Tryd.prog.cellsOf 3 = 1 := by kernel_rfl
    simp [ci] at g0 g1 g2
    obtain ⟨a0, e0, _, _⟩ := DataW.trod_int Tryd.underlying3 g0
    obtain ⟨a1, e1, _, _⟩ := DataW.trod_int Tryd.underlying3 g1
    obtain ⟨a2, e2, _, _⟩ := DataW.trod_int Tryd.underlying3 g2
    simp at e0 e1 e2
    subst e0; subst e1; subst e2
    exact ⟨⟨a0, a1, a2⟩, rfl, trivial⟩
theorem u64_reads {H : Type} {enc : TypeId × Value → H} {w : World} {cs : List Value} (h : ReadsAs enc Tryd.prog w 32 cs) : ∃ x : Int, cs = wordC x ∧ True := by
  obtain ⟨n, y, h⟩ := h
  obtain ⟨a, rfl, _, _⟩ := DataW.trod_int Tryd.underlying32 h
  exact ⟨a, rfl, trivial⟩
theorem open_mach {H : Type} {enc : TypeId × Value → H} {W : World} {v : Value} {d : DataW H} {ps : List MemPlace} {base : Nat} (hval : Value.okWide Tryd.prog W .any base 34 v) (h : DataW.Trod enc Tryd.prog W 0 (fun _ => true) true 34 v d ps) : ∃ m : McI, v = m.val ∧ McP W m := by
  obtain ⟨cs, rfl, _⟩ := okWide_struct Tryd.underlying34 hval
  obtain ⟨fuel, hf⟩ := h
  obtain ⟨xs, k, _, _, hlen, hxl, hf⟩ := DataW.trod_struct Tryd.underlying34 hf
  have hc : Tryd.prog.cellsOf 34 = 10 := by kernel_rfl
  rw [hc] at hlen
  obtain ⟨cs⟩ := cs
  simp only [Value.cells] at hlen hf
  match cs, hlen, xs, hxl with
  | [v0, v1, v2, v3, v4, v5, v6, v7, v8, v9], _, [y0, y1, y2, y3, y4, y5, y6], _ =>
    have g0 := hf 0 _ rfl
    have g1 := hf 1 _ rfl
    have g2 := hf 2 _ rfl
    have g3 := hf 3 _ rfl
    have g4 := hf 4 _ rfl
    have g5 := hf 5 _ rfl
    have g6 := hf 6 _ rfl
    have ch : Tryd.prog.cellsOf 28 = 4 := by kernel_rfl
    have cw : Tryd.prog.cellsOf 29 = 1 := by kernel_rfl
    have cf : Tryd.prog.cellsOf 30 = 1 := by kernel_rfl
    have cd : Tryd.prog.cellsOf 31 = 1 := by kernel_rfl
    have ci : Tryd.prog.cellsOf 3 = 1 := by kernel_rfl
    have cu : Tryd.prog.cellsOf 32 = 1 := by kernel_rfl
    have c6 : Tryd.prog.cellsOf 2 = 1 := by kernel_rfl
    simp [ch, cw, cf, cd, ci, cu, c6] at g0 g1 g2 g3 g4 g5 g6
    obtain ⟨zs, m, _, _, _, hzl, hg⟩ := DataW.trod_struct Tryd.underlying28 g0
    match zs, hzl with
    | [z0, z1, z2, z3], _ =>
      have k0 := hg 0 _ rfl
      have k1 := hg 1 _ rfl
      have k2 := hg 2 _ rfl
      have k3 := hg 3 _ rfl
      simp [ci] at k0 k1 k2 k3
      obtain ⟨a0, e0, _, _⟩ := DataW.trod_int Tryd.underlying3 k0
      obtain ⟨a1, e1, _, _⟩ := DataW.trod_int Tryd.underlying3 k1
      obtain ⟨a2, e2, _, _⟩ := DataW.trod_int Tryd.underlying3 k2
      obtain ⟨a3, e3, _, _⟩ := DataW.trod_int Tryd.underlying3 k3
      obtain ⟨u4, l4, e4, hr4, hE4, hl4⟩ := rows_cell Tryd.underlying29 (show Tryd.prog.cellsOf 32 = 1 by kernel_rfl) (by omega) ⟨_, _, g1⟩
      obtain ⟨u5, l5, e5, hr5, hE5, hl5⟩ := rows_cell Tryd.underlying30 (show Tryd.prog.cellsOf 55 = 4 by kernel_rfl) (by omega) ⟨_, _, g2⟩
      obtain ⟨u6, l6, e6, hr6, hE6, hl6⟩ := rows_cell Tryd.underlying31 (show Tryd.prog.cellsOf 53 = 3 by kernel_rfl) (by omega) ⟨_, _, g3⟩
      obtain ⟨a7, e7, _, _⟩ := DataW.trod_int Tryd.underlying3 g4
      obtain ⟨a8, e8, _, _⟩ := DataW.trod_int Tryd.underlying32 g5
      obtain ⟨a9, e9, _, _⟩ := DataW.trod_int Tryd.underlying2 g6
      obtain ⟨S, rfl, -⟩ := choose_it (fun _ => True) wordC l4 (fun cs hm => u64_reads (hl4 cs hm))
      obtain ⟨F, rfl, -⟩ := choose_it (fun _ => True) frC l5 (fun cs hm => fr_reads (hl5 cs hm))
      obtain ⟨Hs, rfl, -⟩ := choose_it (fun _ => True) hdC l6 (fun cs hm => hd_reads (hl6 cs hm))
      simp at e0 e1 e2 e3 e4 e5 e6 e7 e8 e9
      subst e0; subst e1; subst e2; subst e3; subst e4; subst e5; subst e6; subst e7; subst e8; subst e9
      exact ⟨⟨⟨a0, a1, a2, a3⟩, S, F, Hs, v4, v5, v6, a7, a8, a9⟩, rfl, rowsP_of (by omega) hr4 hE4 (wordC_rows S),
        rowsP_of (by omega) hr5 hE5 (rows1_map frC (fun x => ⟨rfl, fun u hu => by simp [frC] at hu; rcases hu with rfl | rfl | rfl | rfl <;> rfl⟩) F), rowsP_of (by omega) hr6 hE6 (rowH Hs)⟩
theorem back_walk' {w : World} {v0 v1 : Value} {x : PgI} {m : McI} (h0 : v0 = .agg #[x.vf, x.vs, x.vo] ∧ PgP w x ∧ PgLt x) (h1 : v1 = m.val ∧ McP w m) (code : Int) (hk : BackLie w) :
    Calls Tryd.prog 3 #[v0, v1, .int .i64 code] w (TrueExt w) := by
  obtain ⟨rfl, hp, hl⟩ := h0
  obtain ⟨rfl, hm⟩ := h1
  exact back_walk x m code w hp hl hm hk
end Go.Proofs.YtgiopklnielglaaDoor
