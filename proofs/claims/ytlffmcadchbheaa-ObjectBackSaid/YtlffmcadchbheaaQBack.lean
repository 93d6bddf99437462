/- Proved here: the contracts and laws of ObjLD, BackP, Tw, ObjLI, SzIn, ObjSz, JnBack of this claim, each beneath its own remark; conditions: those that each theorem names. -/
import Derived.Test.YtlffmcadchbheaaM9
import Derived.Deep.CutBlock
import Derived.BigRegion
import Derived.SizedLaws
/- ObjectHeads: the walk. -/
namespace Go.Proofs.Ytlffmcadchbheaa
open Go.RowKit Go.Maps Arena
set_option maxHeartbeats 8000000
set_option maxRecDepth 100000
theorem ohead_is (o : Ob) (c : Nat) (q : Option Addr) (W : World) (h : o.fields.length ≤ 9223372036854775807) : Calls Try.prog 13 #[.agg #[.int .i64 o.kind, .int .i64 o.tag, .slice q o.fields.length c, .string o.text]] W fun e w' => ∃ r, e = .returned (.tuple #[.int .u64 r, .bool (mayO o)]) ∧ (mayO o = true → r = headO o) ∧ (mayO o = false → r = 0) ∧ Ext W w' := by
  cases hm : mayO o with
  | true => exact (head_yes o.kind o.tag o.fields.length c q o.text W h hm).mono fun e w' ⟨h1, h2⟩ => ⟨_, h1, fun _ => rfl, (fun h => by cases h), h2⟩
  | false => exact (head_no o.kind o.tag o.fields.length c q o.text W h hm).mono fun e w' ⟨h1, h2⟩ => ⟨_, h1, (fun h => by cases h), fun _ => rfl, h2⟩
/-- two heads are one just if what they tell is -/
theorem heads_cases {o1 o2 : Ob} (h1 : mayO o1 = true) (h2 : mayO o2 = true) :
    ((o1.kind == o2.kind) = false ∧ (headO o1 == headO o2) = false) ∨
    ((o1.kind == o2.kind) = true ∧ (o1.tag == o2.tag) = false ∧ (headO o1 == headO o2) = false) ∨
    ((o1.kind == o2.kind) = true ∧ (o1.tag == o2.tag) = true ∧ ((o1.fields.length : Int) == (o2.fields.length : Int)) = false ∧ (headO o1 == headO o2) = false) ∨
    ((o1.kind == o2.kind) = true ∧ (o1.tag == o2.tag) = true ∧ ((o1.fields.length : Int) == (o2.fields.length : Int)) = true ∧ ((o1.text.size : Int) == (o2.text.size : Int)) = false ∧ (headO o1 == headO o2) = false) ∨
    ((o1.kind == o2.kind) = true ∧ (o1.tag == o2.tag) = true ∧ ((o1.fields.length : Int) == (o2.fields.length : Int)) = true ∧ ((o1.text.size : Int) == (o2.text.size : Int)) = true ∧ (headO o1 == headO o2) = true) := by
  unfold mayO at h1 h2
  unfold headO headK sizeK
  generalize o1.kind = k1 at *
  generalize o2.kind = k2 at *
  generalize o1.tag = t1 at *
  generalize o2.tag = t2 at *
  generalize o1.fields.length = n1 at *
  generalize o2.fields.length = n2 at *
  generalize o1.text.size = m1 at *
  generalize o2.text.size = m2 at *
  have e1 := mayK_cases h1
  have e2 := mayK_cases h2
  simp only [beq_eq_false_iff_ne, beq_iff_eq, ne_eq]
  by_cases hk : k1 = k2
  · subst hk
    by_cases ht : t1 = t2
    · subst ht
      by_cases hk2 : k1 = 2
      · subst hk2
        rw [if_pos rfl, if_pos rfl]
        omega
      · rw [if_neg hk2, if_neg hk2]
        omega
    · refine .inr (.inl ⟨rfl, ht, ?_⟩)
      split <;> omega
  · refine .inl ⟨hk, ?_⟩
    split <;> split <;> omega
theorem words_cases (o : Ob) :
    ((o.kind == 2) = false ∧ (wordsO o : Int) = 1 + (o.fields.length : Int)) ∨
    ((o.kind == 2) = true ∧ ((o.text.size : Int) % 8 == 0) = true ∧ (wordsO o : Int) = 1 + (o.text.size : Int) / 8) ∨
    ((o.kind == 2) = true ∧ ((o.text.size : Int) % 8 == 0) = false ∧ (wordsO o : Int) = 1 + (o.text.size : Int) / 8 + 1) := by
  unfold wordsO bodyK
  simp only [beq_eq_false_iff_ne, beq_iff_eq, ne_eq]
  generalize o.text.size = m
  generalize o.fields.length = n
  by_cases hk : o.kind = 2
  · rw [if_pos hk]
    refine .inr ?_
    by_cases h8 : (m : Int) % 8 = 0
    · exact .inl ⟨hk, h8, by omega⟩
    · exact .inr ⟨hk, h8, by omega⟩
  · rw [if_neg hk]
    exact .inl ⟨hk, by omega⟩
theorem head_kind {o : Ob} (h : mayO o = true) : headO o % 256 = o.kind := by
  unfold mayO at h
  unfold headO headK
  have := mayK_bounds h
  omega
theorem heads_walk (x y : ObI) (w : World) (hx : ObiP w x) (hy : ObiP w y) : Calls Try.prog 6 #[.agg (obiC x).toArray, .agg (obiC y).toArray] w (TrueExt w) := by
  obtain ⟨o1, v1⟩ := x
  obtain ⟨o2, v2⟩ := y
  obtain ⟨q1, c1, hv1, hl1, hc1, -⟩ := RowsP.at hx.p.1
  obtain ⟨q2, c2, hv2, hl2, hc2, -⟩ := RowsP.at hy.p.1
  dsimp only at hv1 hv2 hl1 hl2
  rw [List.length_map] at hv1 hl1 hv2 hl2
  subst hv1 hv2
  have hs1 := hx.text
  have hs2 := hy.text
  dsimp only at hs1 hs2
  unfold maxLen at hs1 hs2 hc1 hc2
  clear hx hy
  have HL1 := Lib.hid (fun W => long_is o1.kind o1.tag o1.fields.length c1 q1 o1.text W (by omega) (by omega))
  have HL2 := Lib.hid (fun W => long_is o2.kind o2.tag o2.fields.length c2 q2 o2.text W (by omega) (by omega))
  have HH1 := Lib.hid (fun W => ohead_is o1 c1 q1 W (by omega))
  have HH2 := Lib.hid (fun W => ohead_is o2 c2 q2 W (by omega))
  have HM1 := Lib.hid (fun W => refmay_is o1.kind o1.tag o1.fields.length c1 q1 o1.text W)
  have HM2 := Lib.hid (fun W => refmay_is o2.kind o2.tag o2.fields.length c2 q2 o2.text W)
  rw [show mayK o1.kind o1.tag o1.fields.length o1.text.size = mayO o1 from rfl] at HM1
  rw [show mayK o2.kind o2.tag o2.fields.length o2.text.size = mayO o2 from rfl] at HM2
  simp only [obiC]
  obtain ⟨l1, hl1e⟩ : ∃ b, b = (decide (600 < o1.fields.length) || decide (800 < o1.text.size)) := ⟨_, rfl⟩
  obtain ⟨l2, hl2e⟩ : ∃ b, b = (decide (600 < o2.fields.length) || decide (800 < o2.text.size)) := ⟨_, rfl⟩
  rw [← hl1e] at HL1
  rw [← hl2e] at HL2
  have HE1 := Lib.hid hl1e; have HE2 := Lib.hid hl2e
  clear hl1e hl2e hl1 hl2 hc1 hc2 hs1 hs2
  go_enter Try.func6, Try.ntmps6
  go_upto_region 1 with fail
  refine wp_alloc2 fun W hE hS b0 b1 => ?_
  have HX := Lib.hid hE
  obtain ⟨z0, z1, z2, z3⟩ := cells4 b0
  obtain ⟨u0, u1, u2, u3⟩ := cells4 b1
  clear hE hS
  go_wp2_with fail
  refine (HL1.out W).mono ?_
  rintro e w1 ⟨rfl, hx1⟩
  cases l1 with
  | true =>
    have HX1 := Lib.hid (HX.out.trans hx1)
    clear hx1 b0 b1 z0 z1 z2 z3 u0 u1 u2 u3
    go_wp2_with fail
    refine (wakes3 _).mono ?_
    rintro e w2 ⟨rfl, hx2⟩
    have HX2 := Lib.hid (HX1.out.trans hx2)
    clear hx2
    go_wp2
    go_ret
    exact ⟨rfl, HX2.out⟩
  | false =>
    have c0 := (Below.block hx1 _ (Array.getElem?_eq_some_iff.1 b0).1).trans b0
    have c1' := (Below.block hx1 _ (Array.getElem?_eq_some_iff.1 b1).1).trans b1
    have HX1 := Lib.hid (HX.out.trans hx1)
    clear hx1 b0 b1 z0 z1 z2 z3 u0 u1 u2 u3
    obtain ⟨z0, z1, z2, z3⟩ := cells4 c0
    obtain ⟨u0, u1, u2, u3⟩ := cells4 c1'
    go_wp2_with fail
    refine (HL2.out _).mono ?_
    rintro e w2 ⟨rfl, hx2⟩
    cases l2 with
    | true =>
      have HX2 := Lib.hid (HX1.out.trans hx2)
      clear hx2 c0 c1' z0 z1 z2 z3 u0 u1 u2 u3
      go_wp2_with fail
      refine (wakes3 _).mono ?_
      rintro e w3 ⟨rfl, hx3⟩
      have HX3 := Lib.hid (HX2.out.trans hx3)
      clear hx3
      go_wp2
      go_ret
      exact ⟨rfl, HX3.out⟩
    | false =>
      have b0 := (Below.block hx2 _ (Array.getElem?_eq_some_iff.1 c0).1).trans c0
      have b1 := (Below.block hx2 _ (Array.getElem?_eq_some_iff.1 c1').1).trans c1'
      have HX2 := Lib.hid (HX1.out.trans hx2)
      clear hx2 c0 c1' z0 z1 z2 z3 u0 u1 u2 u3
      obtain ⟨z0, z1, z2, z3⟩ := cells4 b0
      obtain ⟨u0, u1, u2, u3⟩ := cells4 b1
      go_wp2_with fail
      refine (HH1.out _).mono ?_
      rintro e w3 ⟨r1, rfl, hr1, -, hx3⟩
      have HR1 := Lib.hid hr1
      clear hr1
      have c0 := (Below.block hx3 _ (Array.getElem?_eq_some_iff.1 b0).1).trans b0
      have c1' := (Below.block hx3 _ (Array.getElem?_eq_some_iff.1 b1).1).trans b1
      have HX3 := Lib.hid (HX2.out.trans hx3)
      clear hx3 b0 b1 z0 z1 z2 z3 u0 u1 u2 u3
      obtain ⟨z0, z1, z2, z3⟩ := cells4 c0
      obtain ⟨u0, u1, u2, u3⟩ := cells4 c1'
      go_wp2_with fail
      refine (HH2.out _).mono ?_
      rintro e w4 ⟨r2, rfl, hr2, -, hx4⟩
      have HR2 := Lib.hid hr2
      clear hr2
      have b0 := (Below.block hx4 _ (Array.getElem?_eq_some_iff.1 c0).1).trans c0
      have b1 := (Below.block hx4 _ (Array.getElem?_eq_some_iff.1 c1').1).trans c1'
      have HX4 := Lib.hid (HX3.out.trans hx4)
      clear hx4 c0 c1' z0 z1 z2 z3 u0 u1 u2 u3
      obtain ⟨z0, z1, z2, z3⟩ := cells4 b0
      obtain ⟨u0, u1, u2, u3⟩ := cells4 b1
      generalize hm1 : mayO o1 = m1 at HM1 HH1 HR1 ⊢
      generalize hm2 : mayO o2 = m2 at HM2 HH2 HR2 ⊢
      have HM1e := Lib.hid hm1; have HM2e := Lib.hid hm2
      clear hm1 hm2
      cases m1 <;> cases m2
      all_goals
        go_wp2_with fail
        refine (HM1.out _).mono ?_
        rintro e w5 ⟨rfl, hx5⟩
        have c0 := (Below.block hx5 _ (Array.getElem?_eq_some_iff.1 b0).1).trans b0
        have c1' := (Below.block hx5 _ (Array.getElem?_eq_some_iff.1 b1).1).trans b1
        have HX5 := Lib.hid (HX4.out.trans hx5)
        clear hx5 b0 b1 z0 z1 z2 z3 u0 u1 u2 u3
        obtain ⟨z0, z1, z2, z3⟩ := cells4 c0
        obtain ⟨u0, u1, u2, u3⟩ := cells4 c1'
        go_wp2_with fail
        refine (HM2.out _).mono ?_
        rintro e w6 ⟨rfl, hx6⟩
        have b0 := (Below.block hx6 _ (Array.getElem?_eq_some_iff.1 c0).1).trans c0
        have b1 := (Below.block hx6 _ (Array.getElem?_eq_some_iff.1 c1').1).trans c1'
        have HX6 := Lib.hid (HX5.out.trans hx6)
        clear hx6 c0 c1' z0 z1 z2 z3 u0 u1 u2 u3
        obtain ⟨z0, z1, z2, z3⟩ := cells4 b0
        obtain ⟨u0, u1, u2, u3⟩ := cells4 b1
        clear HL1 HL2 HH1 HH2 HM1 HM2 HX HX1 HX2 HX3 HX4 HX5
      rotate_left 3
      · go_upto_region 9 with fail
        have hc := heads_cases HM1e.out HM2e.out
        have hw := words_cases o1
        have hkd := head_kind HM1e.out
        have hr1 := HR1.out trivial
        have hr2 := HR2.out trivial
        rw [← hr1] at hkd
        rw [← hr1, ← hr2] at hc
        have HKD := Lib.hid hkd
        have HWO := Lib.hid (fun W => owords_yes o1.kind o1.tag o1.fields.length c1 q1 o1.text W (by
          have := mayK_bounds (show mayK o1.kind o1.tag o1.fields.length o1.text.size = true from HM1e.out)
          omega) HM1e.out)
        rw [show 1 + bodyK o1.kind o1.fields.length o1.text.size = wordsO o1 from rfl] at HWO
        have hb := mayK_bounds (show mayK o1.kind o1.tag o1.fields.length o1.text.size = true from HM1e.out)
        obtain ⟨B1, B2, -, -, B3, B4, -, -⟩ := hb
        have hw64 : W64 r1 := by
          rw [hr1]
          have := mayK_bounds (show mayK o1.kind o1.tag o1.fields.length o1.text.size = true from HM1e.out)
          unfold W64 headO headK
          omega
        obtain ⟨hr64, -⟩ := hw64
        clear hr1 hr2 hkd HR1 HR2 HM1e HM2e HE1 HE2
        generalize hwn : (wordsO o1 : Int) = wn at HWO hw
        clear hwn
        rcases hc with ⟨a1, a5⟩ | ⟨a1, a2, a5⟩ | ⟨a1, a2, a3, a5⟩ | ⟨a1, a2, a3, a4, a5⟩ | ⟨a1, a2, a3, a4, a5⟩
        all_goals rcases hw with ⟨e1, e2⟩ | ⟨e1, e2, e3⟩ | ⟨e1, e2, e3⟩
        all_goals
          go_wp2_with fail
          refine (HWO.out _).mono ?_
          rintro e w7 ⟨rfl, hx7⟩
          subst_eqs
          have c0 := (Below.block hx7 _ (Array.getElem?_eq_some_iff.1 b0).1).trans b0
          have HX7 := Lib.hid (HX6.out.trans hx7)
          have hkd := HKD.out
          clear hx7 b0 b1 z0 z1 z2 z3 u0 u1 u2 u3 HKD HWO
          obtain ⟨z0, z1, z2, z3⟩ := cells4 c0
          go_wp2_with fail
          refine (wakes3 _).mono ?_
          rintro e w8 ⟨rfl, hx8⟩
          have HX8 := Lib.hid (HX7.out.trans hx8)
          clear hx8
          go_wp2
          go_ret
          exact ⟨rfl, HX8.out⟩
      all_goals
        go_wp2_with fail
        refine (wakes3 _).mono ?_
        rintro e w7 ⟨rfl, hx7⟩
        have HX7 := Lib.hid (HX6.out.trans hx7)
        clear hx7
        go_wp2
        go_ret
        exact ⟨rfl, HX7.out⟩
theorem heads_walk' {v1 v2 : Value} {x y : ObI} {w : World} (h1 : v1 = .agg (obiC x).toArray ∧ ObiP w x) (h2 : v2 = .agg (obiC y).toArray ∧ ObiP w y) : Calls Try.prog 6 #[v1, v2] w (TrueExt w) := by
  obtain ⟨rfl, hx⟩ := h1
  obtain ⟨rfl, hy⟩ := h2
  exact heads_walk x y w hx hy
end Go.Proofs.Ytlffmcadchbheaa
/- What ObjectBack's heap holds: plain. -/
namespace Go.Proofs.Ytlffmcadchbheaa
open Go.RowKit Go.Maps Arena
set_option maxRecDepth 100000
/-- the objects' words -/
def wdL (Hs : List (Nat × Ob)) : List Int := Hs.map fun y => ((2 * y.1 : Nat) : Int)
theorem wdL_len (Hs : List (Nat × Ob)) : (wdL Hs).length = Hs.length := by unfold wdL; simp
theorem wdL_at {Hs : List (Nat × Ob)} {k : Nat} (h : k < Hs.length) : (wdL Hs)[k]? = some ((2 * (Hs[k]).1 : Nat) : Int) := by unfold wdL; rw [List.getElem?_map, List.getElem?_eq_getElem h]; rfl
def heapB (n top : Int) : Hp := ⟨3, n, 0, top⟩
theorem heapB_first (n top : Int) : firstN (heapB n top) = 0 := by unfold firstN heapB; simp
theorem heapB_top {n top : Int} (_h : 0 ≤ top) : topN (heapB n top) = top.toNat := by unfold topN; rw [heapB_first]; simp [heapB]
/-- the objects, and what a heap's numbers are -/
structure Held (ws : List Int) (m : Nat) (n top : Int) (Hs : List (Nat × Ob)) : Prop where
  len : ws.length = m + 10
  all : allH ws (rigR m) (heapB n top) = some Hs
  w64 : ∀ x ∈ ws, W64 x
  big : m ≤ 400
theorem rig_good {m : Nat} (h : 1 ≤ m) : Arena.Good (m + 10) (rigR m) := by
  unfold Arena.Good rigR
  refine ⟨by simp, fun r hr => ?_⟩
  simp only [List.mem_cons, List.not_mem_nil, or_false] at hr
  rcases hr with rfl | rfl <;> dsimp only <;> omega
section
variable {ws : List Int} {m : Nat} {n top : Int} {Hs : List (Nat × Ob)}
theorem Held.ok (h : Held ws m n top Hs) : hpOK (heapB n top) ∧ (m : Int) = 2 * n := by
  obtain ⟨ht, _⟩ := allH_there h.all
  obtain ⟨h1, h2⟩ := thereB_ok ht
  refine ⟨h1, ?_⟩
  rw [show (heapB n top).base = 3 from rfl, rig_len] at h2
  exact h2
theorem Held.nums (h : Held ws m n top Hs) : 8 ≤ n ∧ n ≤ 200 ∧ 0 ≤ top ∧ top ≤ n ∧ (m : Int) = 2 * n := by
  obtain ⟨⟨a1, a2, a3, a4, a5, a6⟩, h2⟩ := h.ok
  have := h.big
  unfold heapB at a1 a2 a5 a6
  dsimp only at a1 a2 a5 a6
  omega
theorem Held.good (h : Held ws m n top Hs) : Arena.Good (m + 10) (rigR m) := rig_good (by have := h.nums; omega)
theorem Held.places (h : Held ws m n top Hs) : Hs.Pairwise (fun x y => x.1 < y.1) := objs_places (allS_some (allH_there h.all).2).1
theorem Held.fit (h : Held ws m n top Hs) : ∀ y ∈ Hs, y.1 + wordsO y.2 ≤ 200 ∧ mayO y.2 = true := by
  intro y hy
  obtain ⟨ht, hS⟩ := allH_there h.all
  obtain ⟨ho, _⟩ := allS_some hS
  have h1 := objs_ge ho y hy
  have h2 := (objs_fields ho y hy).1
  rw [semi_len h.good h.len ht] at h1
  have := h.nums
  have h3 : (heapB n top).top.toNat = top.toNat := rfl
  exact ⟨by omega, h2⟩
theorem Held.f64 (h : Held ws m n top Hs) : ∀ y ∈ Hs, ∀ x ∈ y.2.fields, W64 x := by
  intro y hy x hx
  obtain ⟨ht, hS⟩ := allH_there h.all
  obtain ⟨ho, _⟩ := allS_some hS
  exact h.w64 x (semi_mem ((objs_fields ho y hy).2 x hx))
theorem getL_place (hp : Hs.Pairwise (fun x y => x.1 < y.1)) {y : Nat × Ob} (hy : y ∈ Hs) (hb : y.1 ≤ 100000) : getL 0 Hs ((2 * y.1 : Nat) : Int) = some y := by
  unfold getL
  have hi : isIntW ((2 * y.1 : Nat) : Int) = false := decide_eq_false (by omega)
  rw [if_neg (by rw [hi]; intro h; rcases h with h | h; cases h; omega)]
  have he : ((2 * y.1 : Nat) : Int) / 2 = (y.1 : Int) := by omega
  rw [he]
  cases hf : Hs.find? (fun z => decide (((0 + z.1 : Nat) : Int) = (y.1 : Int))) with
  | none =>
    have := List.find?_eq_none.1 hf y hy
    simp at this
  | some z =>
    have h1 := List.mem_of_find?_eq_some hf
    have h2 := List.find?_some hf
    have h3 : z.1 = y.1 := by have h4 : ((0 + z.1 : Nat) : Int) = (y.1 : Int) := of_decide_eq_true h2; omega
    rw [places_inj hp hy h1 h3]
theorem Held.get (h : Held ws m n top Hs) {y : Nat × Ob} (hy : y ∈ Hs) : getH ws (rigR m) (heapB n top) ((2 * y.1 : Nat) : Int) = some y := by
  unfold getH
  rw [h.all, heapB_first]
  exact getL_place h.places hy (by have := (h.fit y hy).1; omega)
/-- may a word be a field here: a number's, or an object's -/
def fldB (Hs : List (Nat × Ob)) (x : Int) : Prop := isIntW x = true ∨ x ∈ wdL Hs
theorem fld_ok (hb : ∀ y ∈ Hs, y.1 ≤ 100000) {x : Int} (h : fldB Hs x) : fieldOK (Hs.map (·.1)) 0 x = true := by
  unfold fieldOK
  rcases h with h | h
  · rw [h]; rfl
  · unfold wdL at h
    obtain ⟨y, hy, rfl⟩ := List.mem_map.1 h
    have := hb y hy
    simp only [Bool.or_eq_true, Bool.and_eq_true, List.any_eq_true, decide_eq_true_eq]
    refine .inr ⟨by omega, y.1, List.mem_map.2 ⟨y, hy, rfl⟩, by omega⟩
theorem Held.putB (h : Held ws m n top Hs) {o : Ob} (hf : ∀ x ∈ o.fields, fldB Hs x) : putB ws (rigR m) (heapB n top) o = (mayO o && decide (top + (wordsO o : Nat) ≤ n)) := by
  rw [putB_some h.all, heapB_first]
  have : o.fields.all (fieldOK (Hs.map (·.1)) 0) = true := List.all_eq_true.2 fun x hx => fld_ok (fun y hy => by have := (h.fit y hy).1; omega) (hf x hx)
  rw [this, Bool.and_true]
  rfl
theorem Held.put (h : Held ws m n top Hs) {o : Ob} (hf : ∀ x ∈ o.fields, fldB Hs x) (h64 : ∀ x ∈ o.fields, W64 x) (hm : mayO o = true) (hfit : top + (wordsO o : Nat) ≤ n) :
    Held (putWs ws (rigR m) (heapB n top) o) m n (top + (wordsO o : Nat)) (Hs ++ [(top.toNat, o)]) := by
  have hb : Go.Proofs.Ytlffmcadchbheaa.putB ws (rigR m) (heapB n top) o = true := by rw [h.putB hf, hm, decide_eq_true hfit]; rfl
  exact ⟨by unfold putWs; rw [setRun_len]; exact h.len, allH_put h.good h.len h.all hb, putWs_64 hb h.w64 h64, h.big⟩
theorem wdL_put (Hs : List (Nat × Ob)) (t : Nat) (o : Ob) : wdL (Hs ++ [(t, o)]) = wdL Hs ++ [((2 * t : Nat) : Int)] := by unfold wdL; simp
theorem wdL_upd (a i : Nat) (v : Int) (Hs : List (Nat × Ob)) : wdL (Hs.map (updF a i v)) = wdL Hs := by
  unfold wdL
  rw [List.map_map]
  exact List.map_congr_left fun y _ => by simp only [Function.comp_apply, updF_fst]
/-- one object's field is set, and no other's -/
theorem upd_set (hp : Hs.Pairwise (fun x y => x.1 < y.1)) {k : Nat} (hk : k < Hs.length) (i : Nat) (v : Int) : Hs.map (updF (Hs[k]).1 i v) = Hs.set k ((Hs[k]).1, { (Hs[k]).2 with fields := (Hs[k]).2.fields.set i v }) := by
  apply List.ext_getElem?
  intro j
  rw [List.getElem?_map]
  by_cases hj : j < Hs.length
  · rw [List.getElem?_eq_getElem hj]
    by_cases hjk : k = j
    · subst hjk
      rw [List.getElem?_set_self hj]
      simp only [Option.map_some, updF, if_true]
    · rw [List.getElem?_set_ne hjk, List.getElem?_eq_getElem hj]
      simp only [Option.map_some]
      unfold updF
      rw [if_neg]
      intro e
      rcases Nat.lt_or_gt_of_ne hjk with h | h
      · have := List.pairwise_iff_getElem.1 hp k j hk hj h; omega
      · have := List.pairwise_iff_getElem.1 hp j k hj hk h; omega
  · rw [List.getElem?_eq_none (by omega), List.getElem?_eq_none (by rw [List.length_set]; omega)]
    rfl
theorem Held.set_yes (h : Held ws m n top Hs) {k : Nat} (hk : k < Hs.length) {i v : Int} (hi : 0 ≤ i) (hi2 : i < ((Hs[k]).2.fields.length : Int)) (hv : v ∈ wdL Hs) (hv64 : W64 v) :
    (setAt ws (rigR m) (heapB n top) ((2 * (Hs[k]).1 : Nat) : Int) i v).isSome = true ∧ Held (wsOf ws (rigR m) 3 (setAt ws (rigR m) (heapB n top) ((2 * (Hs[k]).1 : Nat) : Int) i v) v) m n top (Hs.set k ((Hs[k]).1, { (Hs[k]).2 with fields := (Hs[k]).2.fields.set i.toNat v })) := by
  have hy := List.getElem_mem hk
  have hfit := fun y hy => (h.fit y hy).1
  have hg : getL (firstN (heapB n top)) Hs ((2 * (Hs[k]).1 : Nat) : Int) = some Hs[k] := by rw [heapB_first]; exact getL_place h.places hy (by have := hfit _ hy; omega)
  have hok : fieldOK (Hs.map (·.1)) (firstN (heapB n top)) v = true := by rw [heapB_first]; exact fld_ok (fun y hy => by have := hfit y hy; omega) (.inr hv)
  obtain ⟨h1, h2⟩ := allH_set h.good h.len h.all hg hi hi2 hok
  refine ⟨by rw [h1]; rfl, ?_, ?_, ?_, h.big⟩
  · unfold wsOf
    split
    · exact h.len
    · rw [setWs_len]; exact h.len
  · rw [← upd_set h.places hk]
    exact h2
  · exact wsOf_64 h.w64 hv64
theorem Held.set_no (h : Held ws m n top Hs) {k : Nat} (hk : k < Hs.length) {i v : Int} (hi : ((Hs[k]).2.fields.length : Int) ≤ i) : setAt ws (rigR m) (heapB n top) ((2 * (Hs[k]).1 : Nat) : Int) i v = none := by
  unfold setAt
  rw [h.all]
  simp only
  rw [heapB_first, getL_place h.places (List.getElem_mem hk) (by have := (h.fit _ (List.getElem_mem hk)).1; omega)]
  simp only
  rw [if_neg (by omega)]
theorem wdL_64 (h : Held ws m n top Hs) : ∀ x ∈ wdL Hs, W64 x := by
  intro x hx
  unfold wdL at hx
  obtain ⟨y, hy, rfl⟩ := List.mem_map.1 hx
  have := (h.fit y hy).1
  unfold W64
  omega
end
theorem held_start {n : Int} (h1 : 8 ≤ n) (h2 : n ≤ 160) {m : Nat} (hm : (m : Int) = 2 * n) : Held (rigW (List.replicate m 0) m) m n 0 [] := by
  refine ⟨by rw [rigW_len _ _ (by simp)]; simp, ?_, rigW_mem (by intro x hx; rw [(List.mem_replicate.1 hx).2]; exact w64_zero) _, by omega⟩
  have ht : thereB (rigR m) (heapB n 0) = true := by
    unfold thereB
    rw [show (heapB n 0).base = 3 from rfl, rig_len]
    simp only [Bool.and_eq_true, decide_eq_true_eq]
    exact ⟨⟨h1, by show n ≤ 2000; omega, by show (0 : Int) ≤ 0; omega, by show (0 : Int) ≤ 1; omega, by show (0 : Int) ≤ 0; omega, by show (0 : Int) ≤ n; omega⟩, hm⟩
  unfold allH
  rw [if_pos ht]
  have hs : semi (rigW (List.replicate m 0) m) (rigR m) (heapB n 0) = [] := by unfold semi; rw [show (heapB n 0).top.toNat = 0 from rfl, List.take_zero]
  rw [hs]
  unfold allS
  rw [objs_nil]
  rfl
end Go.Proofs.Ytlffmcadchbheaa
/- A rig in use: both arenas, the block that holds them, and a heap's numbers. -/
namespace Go.Proofs.Ytlffmcadchbheaa
open Go.RowKit Go.Maps Arena
set_option maxHeartbeats 4000000
set_option maxRecDepth 100000
/-- what is newer turns, too -/
theorem Turn.newer {bs cs : List Nat} {a b c : World} (h : Turn bs a b) (k : Turn cs b c) (hc : ∀ x ∈ cs, a.heap.size ≤ x) : Turn bs a c :=
  ⟨k.os.trans h.os, k.tape.trans h.tape, k.output.trans h.output, Nat.le_trans h.size k.size, fun i hi hb => (k.block i (Nat.lt_of_lt_of_le hi h.size) (fun hm => by have := hc i hm; omega)).trans (h.block i hi hb)⟩
structure Tw (w3 W : World) (p g bm q gq B n t0 t1 : Nat) (vR : Value) (ws : List Int) (R : List (Nat × Nat)) (h : Hp) : Prop where
  a : ArenaAt W p g bm n ws R
  r : RefAt W q gq B n ws vR R
  r0 : ∃ ws0, RefAt w3 q gq B n ws0 vR R
  two : W.heap[t0]? = some (.cells #[.pointer (some ⟨p, 0, none⟩), .pointer (some ⟨q, 0, none⟩)] 36 (0, 0))
  hp : W.heap[t1]? = some (.cells #[.int .i64 h.base, .int .i64 h.half, .int .i64 h.space, .int .i64 h.top] 24 (0, 0))
  t : Turn [g, gq] w3 W
  lt : p < q ∧ g < q ∧ bm < q ∧ p < gq ∧ g < gq ∧ bm < gq
  st : w3.heap.size ≤ t0 ∧ t0 < t1
  bs : B ≤ w3.heap.size
section
variable {w3 W W' : World} {p g bm q gq B n t0 t1 : Nat} {vR : Value} {ws ws' : List Int} {R : List (Nat × Nat)} {h h' : Hp}
theorem Tw.low (k : Tw w3 W p g bm q gq B n t0 t1 vR ws R h) : p < w3.heap.size ∧ g < w3.heap.size ∧ bm < w3.heap.size ∧ q < w3.heap.size ∧ gq < w3.heap.size := by
  obtain ⟨ws0, h0⟩ := k.r0
  obtain ⟨h1, h2⟩ := h0.lt
  obtain ⟨l1, l2, l3, l4, l5, l6⟩ := k.lt
  omega
theorem Tw.ext (k : Tw w3 W p g bm q gq B n t0 t1 vR ws R h) (e : Ext W W') : Tw w3 W' p g bm q gq B n t0 t1 vR ws R h :=
  ⟨k.a.ext e, k.r.ext e, k.r0, (Below.block e _ (Array.getElem?_eq_some_iff.1 k.two).1).trans k.two, (Below.block e _ (Array.getElem?_eq_some_iff.1 k.hp).1).trans k.hp, k.t.trans (Turn.of_ext e), k.lt, k.st, k.bs⟩
/-- what is newer than the rig turns -/
theorem Tw.other (k : Tw w3 W p g bm q gq B n t0 t1 vR ws R h) {bs : List Nat} (t : Turn bs W W') (hb : ∀ b ∈ bs, w3.heap.size ≤ b ∧ b ≠ t0 ∧ b ≠ t1) : Tw w3 W' p g bm q gq B n t0 t1 vR ws R h := by
  obtain ⟨m1, m2, m3, m4, m5⟩ := k.low
  obtain ⟨ws0, h0⟩ := k.r0
  refine ⟨k.a.turn t (fun hm => ?_) (fun hm => ?_) (fun hm => ?_), k.r.turn_new h0 t fun b hm => (hb b hm).1, k.r0, (t.block _ (Array.getElem?_eq_some_iff.1 k.two).1 fun hm => (hb _ hm).2.1 rfl).trans k.two,
    (t.block _ (Array.getElem?_eq_some_iff.1 k.hp).1 fun hm => (hb _ hm).2.2 rfl).trans k.hp, ⟨t.os.trans k.t.os, t.tape.trans k.t.tape, t.output.trans k.t.output, Nat.le_trans k.t.size t.size, fun i hi hn => (t.block i (Nat.lt_of_lt_of_le hi k.t.size) fun hm => ?_).trans (k.t.block i hi hn)⟩, k.lt, k.st, k.bs⟩
  · have := (hb _ hm).1; omega
  · have := (hb _ hm).1; omega
  · have := (hb _ hm).1; omega
  · have := (hb _ hm).1; omega
/-- the heap's numbers are written -/
theorem Tw.fill (k : Tw w3 W p g bm q gq B n t0 t1 vR ws R h) (c : W'.heap[t1]? = some (.cells #[.int .i64 h'.base, .int .i64 h'.half, .int .i64 h'.space, .int .i64 h'.top] 24 (0, 0))) (t : Turn [t1] W W') : Tw w3 W' p g bm q gq B n t0 t1 vR ws R h' := by
  obtain ⟨m1, m2, m3, m4, m5⟩ := k.low
  obtain ⟨s1, s2⟩ := k.st
  obtain ⟨ws0, h0⟩ := k.r0
  refine ⟨k.a.turn t (by simp; omega) (by simp; omega) (by simp; omega), k.r.turn_new h0 t fun b hm => by rw [List.mem_singleton.1 hm]; omega, k.r0, t.keep k.two (by omega), c,
    ⟨t.os.trans k.t.os, t.tape.trans k.t.tape, t.output.trans k.t.output, Nat.le_trans k.t.size t.size, fun i hi hn => (t.block i (Nat.lt_of_lt_of_le hi k.t.size) fun hm => ?_).trans (k.t.block i hi hn)⟩, k.lt, k.st, k.bs⟩
  rw [List.mem_singleton.1 hm] at hi; omega
/-- behind the program's writing, ahead of the reference's -/
theorem Tw.mid (k : Tw w3 W p g bm q gq B n t0 t1 vR ws R h) (t : Turn [g] W W') : RefAt W' q gq B n ws vR R ∧ W'.heap[t0]? = some (.cells #[.pointer (some ⟨p, 0, none⟩), .pointer (some ⟨q, 0, none⟩)] 36 (0, 0)) ∧
    W'.heap[t1]? = some (.cells #[.int .i64 h.base, .int .i64 h.half, .int .i64 h.space, .int .i64 h.top] 24 (0, 0)) ∧ B ≤ W'.heap.size := by
  obtain ⟨m1, m2, m3, m4, m5⟩ := k.low
  obtain ⟨l1, l2, l3, l4, l5, l6⟩ := k.lt
  obtain ⟨s1, s2⟩ := k.st
  have := k.r.qB
  refine ⟨k.r.turn t (by simp; omega) (by simp; omega) (by simp; omega), t.keep k.two (by omega), t.keep k.hp (by omega), ?_⟩
  have := k.bs
  have := k.t.size
  have := t.size
  omega
/-- both have written -/
theorem Tw.both {W5 W6 : World} (k : Tw w3 W p g bm q gq B n t0 t1 vR ws R h) (a : ArenaAt W5 p g bm n ws' R) (t : Turn [g] W W5) (r : RefAt W6 q gq B n ws' vR R) (u : Turn [gq] W5 W6) : Tw w3 W6 p g bm q gq B n t0 t1 vR ws' R h := by
  obtain ⟨m1, m2, m3, m4, m5⟩ := k.low
  obtain ⟨l1, l2, l3, l4, l5, l6⟩ := k.lt
  obtain ⟨s1, s2⟩ := k.st
  exact ⟨a.turn u (by simp; omega) (by simp; omega) (by simp; omega), r, k.r0, u.keep (t.keep k.two (by omega)) (by omega), u.keep (t.keep k.hp (by omega)) (by omega), (k.t.trans (t.mono (by simp))).trans (u.mono (by simp)), k.lt, k.st, k.bs⟩
/-- the rig is used up: what was ahead of it is as it was -/
theorem Tw.done {w : World} (k : Tw w3 W p g bm q gq B n t0 t1 vR ws R h) (e : Ext w w3) (hg : w.heap.size ≤ g) : Ext w W := by
  obtain ⟨l1, l2, l3, l4, l5, l6⟩ := k.lt
  exact Turn.after e k.t (by intro b hb; simp at hb; omega)
end
/-- the same words on both sides -/
theorem same_tw {w3 W : World} {p g bm q gq B n t0 t1 m : Nat} {vR : Value} {ws : List Int} {h : Hp} (k : Tw w3 W p g bm q gq B n t0 t1 vR ws (rigR m) h) (hm : 1 ≤ m) (hz : ws.take 3 = [0, 0, 0]) : Calls Try.prog 25 #[.agg #[.pointer (some ⟨p, 0, none⟩), .pointer (some ⟨q, 0, none⟩)], .int .i64 3] W fun e w' => e = .returned (.bool true) ∧ Ext W w' := by
  obtain ⟨m1, m2, m3, m4, m5⟩ := k.low
  refine same_yes (w0 := { W with heap := #[] }) (B := B) ⟨k.a, ⟨vR, k.r⟩, k.lt, ?_, Nat.le_trans k.bs k.t.size, ?_⟩ hm hz
  · exact ⟨Nat.zero_le _, Nat.zero_le _, Nat.zero_le _⟩
  · exact ⟨rfl, rfl, rfl, Nat.zero_le _, fun i hi => absurd hi (Nat.not_lt_zero _)⟩
end Go.Proofs.Ytlffmcadchbheaa
/- ObjectBack: the walk. -/
namespace Go.Proofs.Ytlffmcadchbheaa
open Go Go.ChangeShapes Go.WideShapes Go.ChangeAt Go.RowKit Go.Deep Go.Maps Arena
set_option maxHeartbeats 8000000
set_option maxRecDepth 100000
theorem own_words_big {w : World} {v : Value} {l : List Int} (h : RowsP w v 1 (l.map wordC)) (hl : l.length * 8 ≤ 140737488351232) : Calls Try.prog 39 #[v] w fun e w' => ∃ v', e = .returned v' ∧ OwnP w' w.heap.size 29 v' 1 (l.map wordC) ∧ Ext w w' := by
  have HV := Lib.hid h
  obtain ⟨q, c, rfl, h1, h2, hc⟩ := RowsP.at h
  rw [List.length_map] at h1 HV ⊢
  clear h hc
  go_enter Try.func39, Try.ntmps39
  go_wp2_with (refine wpList_append_rows E64 (by rfl) _ _ (by rfl) w.heap.size (.slice (some ⟨w.heap.size, 0, none⟩) 0 0) (.slice q l.length c) [] (l.map wordC) (by rfl) (own_empty1 w _) (by rfl) (RowsP.ext HV.out (Ext.alloc _ _)) (by simp; unfold maxLen; omega) (by simp; omega) (by simp) ?_)
  intro v2 w2 ho2 hg2 hb2 _
  have hx2 : Ext w w2 := Below.grown (Below.alloc (Ext.refl w) (by omega) _) hg2 (by simp) (fun b hb => by simp [Value.ownBlock] at hb; omega)
  have HO2 := Lib.hid ho2
  have HX2 := Lib.hid hx2
  clear ho2 hg2 hb2 hx2
  go_wp2
  go_ret
  exact ⟨v2, rfl, HO2.out, HX2.out⟩
theorem own_object_big {w : World} {kd tg : Int} {v : Value} {s : ByteArray} {l : List Int} (h : RowsP w v 1 (l.map wordC)) (hl : l.length * 8 ≤ 140737488351232) : Calls Try.prog 12 #[.agg #[.int .i64 kd, .int .i64 tg, v, .string s]] w fun e w' => ∃ v', e = .returned (.agg #[.int .i64 kd, .int .i64 tg, v', .string s]) ∧ OwnP w' w.heap.size 29 v' 1 (l.map wordC) ∧ Ext w w' := by
  have HV := Lib.hid h
  obtain ⟨q, c, rfl, h1, h2, -⟩ := RowsP.at h
  rw [List.length_map] at h1 HV ⊢
  clear h
  go_enter Try.func12, Try.ntmps12
  go_wp2_with fail
  refine at_alloc2 fun W hE hS b0 b1 => ?_
  have HE := Lib.hid hE
  have HB0 := Lib.hid b0; have HB1 := Lib.hid b1
  refine (own_words_big (HV.out.ext hE) hl).mono ?_; rintro e w1 ⟨v', rfl, ho, hx1⟩
  obtain ⟨qn, cn, rfl, h3, h4⟩ := ho.len
  rw [List.length_map] at h3 ho ⊢
  have HO := Lib.hid ho
  have hs0 : w.heap.size < W.heap.size := by omega
  have hs1 : w.heap.size + 1 < W.heap.size := by omega
  have r0 := Below.block hx1 _ hs0; rw [b0] at r0
  have r1 := Below.block hx1 _ hs1; rw [b1] at r1
  have c2 := (show w1.cell? ⟨w.heap.size, 2, none⟩ = some (.slice q l.length c) by simp [World.cell?, r0])
  have f2 := (show w1.frozen? ⟨w.heap.size, 2, none⟩ = false by simp [World.frozen?, r0])
  have c0 := (show w1.cell? ⟨w.heap.size, 0, none⟩ = some (.int .i64 kd) by simp [World.cell?, r0])
  have c1 := (show w1.cell? ⟨w.heap.size, 1, none⟩ = some (.int .i64 tg) by simp [World.cell?, r0])
  have c3 := (show w1.cell? ⟨w.heap.size, 3, none⟩ = some (.string s) by simp [World.cell?, r0])
  have g0 := (show w1.cell? ⟨w.heap.size + 1, 0, none⟩ = some (.int .i64 0) by simp [World.cell?, r1])
  have g1 := (show w1.cell? ⟨w.heap.size + 1, 1, none⟩ = some (.int .i64 0) by simp [World.cell?, r1])
  have g2 := (show w1.cell? ⟨w.heap.size + 1, 2, none⟩ = some (.slice none 0 0) by simp [World.cell?, r1])
  have g3 := (show w1.cell? ⟨w.heap.size + 1, 3, none⟩ = some (.string ⟨#[]⟩) by simp [World.cell?, r1])
  have k0 := (show w1.frozen? ⟨w.heap.size + 1, 0, none⟩ = false by simp [World.frozen?, r1])
  have k1 := (show w1.frozen? ⟨w.heap.size + 1, 1, none⟩ = false by simp [World.frozen?, r1])
  have k2 := (show w1.frozen? ⟨w.heap.size + 1, 2, none⟩ = false by simp [World.frozen?, r1])
  have k3 := (show w1.frozen? ⟨w.heap.size + 1, 3, none⟩ = false by simp [World.frozen?, r1])
  clear b0 b1 HB0 HB1 hE hS ho
  go_wp2_with fail
  have r2 : (w1.setCell ⟨w.heap.size, 2, none⟩ (.slice qn l.length cn)).heap[w.heap.size + 1]? = some (Obj.cells #[.int .i64 0, .int .i64 0, .slice none 0 0, .string ⟨#[]⟩] 28 (0, 0)) := by rw [Below.heap_setCell _ _ _ _ (by simp)]; exact r1
  refine post_fill4 r2 (fun W4 hr4 ht4 hz4 => ?_)
  have y0 := (show W4.cell? ⟨w.heap.size + 1, 0, none⟩ = some (.int .i64 kd) by simp [World.cell?, hr4])
  have y1 := (show W4.cell? ⟨w.heap.size + 1, 1, none⟩ = some (.int .i64 tg) by simp [World.cell?, hr4])
  have y2 := (show W4.cell? ⟨w.heap.size + 1, 2, none⟩ = some (.slice qn l.length cn) by simp [World.cell?, hr4])
  have y3 := (show W4.cell? ⟨w.heap.size + 1, 3, none⟩ = some (.string s) by simp [World.cell?, hr4])
  have t1 : Turn [w.heap.size, w.heap.size + 1] w1 W4 := Turn.trans ((Turn.refl _ _).setCell (.inl (by simp)) _) (ht4.mono (by simp))
  refine bodyPost_ret (v := .agg #[.int .i64 kd, .int .i64 tg, .slice qn l.length cn, .string s]) (by simp [results, Try.results12, go_sem, y0, y1, y2, y3]) rfl ⟨_, rfl, ?_, ?_⟩
  · refine OwnP.mono (HO.out.turn t1 (fun b hb => ?_)) (by omega)
    have := (HO.out.own b hb).1
    simp only [List.mem_cons, List.not_mem_nil, or_false]
    omega
  · exact Turn.after (HE.out.trans hx1) t1 (by intro b hb; simp at hb; omega)
def odd1 (x : Int) : Int := bits .or .u64 x 1
theorem odd1_is {x : Int} (h : W64 x) : odd1 x = 2 * (x / 2) + 1 := by
  obtain ⟨h0, h1⟩ := h
  obtain ⟨n, rfl⟩ := Int.eq_ofNat_of_zero_le h0
  unfold odd1
  have e1 : ∀ y : Nat, y % 2 = 0 → y < 18446744073709551616 → bits .or .u64 (y : Int) 1 = ((y + 1 : Nat) : Int) := fun y hy hl => by
    have := or_apart' 1 1 y (by omega) (by omega) (by omega) hl
    rw [Nat.add_comm] at this
    exact this
  by_cases h2 : n % 2 = 0
  · rw [e1 n h2 (by omega)]
    omega
  · have e2 := e1 (n - 1) (by omega) (by omega)
    rw [show ((n - 1 + 1 : Nat) : Int) = (n : Int) by omega] at e2
    rw [show (n : Int) = bits .or .u64 ((n - 1 : Nat) : Int) 1 from e2.symm]
    have hb : ∀ a b : Nat, a < 18446744073709551616 → b < 18446744073709551616 → bits .or .u64 (a : Int) (b : Int) = ((a ||| b : Nat) : Int) := fun a b ha hb => u64_or_nat a b ha hb
    rw [show (1 : Int) = ((1 : Nat) : Int) from rfl] at e2 ⊢
    rw [hb _ _ (by omega) (by omega)] at e2 ⊢
    have e3 : ((n - 1) ||| 1) = n := by omega
    rw [e3, hb _ _ (by omega) (by omega)]
    have e4 : n ||| 1 = n := by
      conv => lhs; rw [← e3, Nat.or_assoc, Nat.or_self]
      exact e3
    rw [e4]
    omega
theorem odd1_int {x : Int} (h : W64 x) : isIntW (odd1 x) = true ∧ W64 (odd1 x) := by
  rw [odd1_is h]
  unfold W64 at h ⊢
  unfold isIntW
  exact ⟨decide_eq_true (by omega), by omega⟩
/-- a row that is an object, its fields of the call's own, and not where the words lie -/
def RowO (W : World) (B0 : Nat) (vw : Value) (o : Ob) (r : List Value) : Prop := ∃ q c, r = [.int .i64 o.kind, .int .i64 o.tag, .slice q o.fields.length c, .string o.text] ∧ OwnP W B0 29 (.slice q o.fields.length c) 1 (o.fields.map wordC) ∧ ∀ b, (Value.slice q o.fields.length c).ownBlock = some b → vw.ownBlock ≠ some b
/-- the words, and the objects, that are held -/
structure Hv (W : World) (B0 : Nat) (vw vh : Value) (Hs : List (Nat × Ob)) (rows : List (List Value)) : Prop where
  wd : OwnP W B0 29 vw 1 ((wdL Hs).map wordC)
  hv : OwnP W B0 28 vh 4 rows
  len : rows.length = Hs.length
  row : ∀ (i : Nat) (y : Nat × Ob) (r : List Value), Hs[i]? = some y → rows[i]? = some r → RowO W B0 vw y.2 r
theorem RowO.ext {W W' : World} {B0 : Nat} {vw : Value} {o : Ob} {r : List Value} (h : RowO W B0 vw o r) (e : Ext W W') : RowO W' B0 vw o r := by
  obtain ⟨q, c, h1, h2, h3⟩ := h
  exact ⟨q, c, h1, h2.ext e, h3⟩
theorem Hv.ext {W W' : World} {B0 : Nat} {vw vh : Value} {Hs : List (Nat × Ob)} {rows : List (List Value)} (h : Hv W B0 vw vh Hs rows) (e : Ext W W') : Hv W' B0 vw vh Hs rows :=
  ⟨h.wd.ext e, h.hv.ext e, h.len, fun i y r hy hr => (h.row i y r hy hr).ext e⟩
theorem OwnP.low {w w' : World} {base : Nat} {T : TypeId} {v : Value} {s : Nat} {l : List (List Value)} (h : OwnP w base T v s l) {g : Nat} (t : Turn [g] w w') (hg : g < base) : OwnP w' base T v s l :=
  h.turn t fun b hb hm => by
    have := (h.own b hb).1
    rw [List.mem_singleton.1 hm] at this
    omega
theorem Hv.low {W W' : World} {B0 : Nat} {vw vh : Value} {Hs : List (Nat × Ob)} {rows : List (List Value)} (h : Hv W B0 vw vh Hs rows) {g : Nat} (t : Turn [g] W W') (hg : g < B0) : Hv W' B0 vw vh Hs rows :=
  ⟨h.wd.low t hg, h.hv.low t hg, h.len, fun i y r hy hr => by
    obtain ⟨q, c, h1, h2, h3⟩ := h.row i y r hy hr
    exact ⟨q, c, h1, h2.low t hg, h3⟩⟩
theorem Hv.nil (W : World) (B0 : Nat) : Hv W B0 (.slice none 0 0) (.slice none 0 0) [] [] := ⟨OwnP.nil _ _ _ _, OwnP.nil _ _ _ _, rfl, fun i y r h => by simp at h⟩
/-- the arena's side, what it holds, and what is held of it -/
structure Bk (w1 W : World) (p g bm t0 t1 q m : Nat) (n top : Int) (ws : List Int) (Hs : List (Nat × Ob)) (vw vh : Value) (rows : List (List Value)) : Prop where
  k : Wk w1 W p g bm t0 t1 q (m + 10) ws (rigR m) (heapB n top)
  d : Held ws m n top Hs
  v : Hv W (t1 + 1) vw vh Hs rows
theorem Bk.ext {w1 W W' : World} {p g bm t0 t1 q m : Nat} {n top : Int} {ws : List Int} {Hs : List (Nat × Ob)} {vw vh : Value} {rows : List (List Value)} (b : Bk w1 W p g bm t0 t1 q m n top ws Hs vw vh rows) (e : Ext W W') : Bk w1 W' p g bm t0 t1 q m n top ws Hs vw vh rows := ⟨b.k.ext e, b.d, b.v.ext e⟩
theorem Bk.done {w w1 W : World} {p g bm t0 t1 q m : Nat} {n top : Int} {ws : List Int} {Hs : List (Nat × Ob)} {vw vh : Value} {rows : List (List Value)} (b : Bk w1 W p g bm t0 t1 q m n top ws Hs vw vh rows) (e : Ext w w1) (hg : w.heap.size ≤ g) (h0 : w1.heap.size ≤ t1) : Ext w W :=
  Turn.after e b.k.t (by
    intro x hx
    have := Below.size e
    simp only [List.mem_cons, List.not_mem_nil, or_false] at hx
    rcases hx with rfl | rfl <;> omega)
theorem OwnP.at_blk {w : World} {base : Nat} {T : TypeId} {v : Value} {s : Nat} {l : List (List Value)} (h : OwnP w base T v s l) (hn : 0 < l.length) : ∃ b c, v = .slice (some ⟨b, 0, none⟩) l.length c ∧ base ≤ b ∧ b < w.heap.size ∧ l.length ≤ c ∧ c ≤ maxLen := by
  rcases h.forms with ⟨_, rfl⟩ | ⟨g, cap, cur, h1, hb, hg, h2, h3, _⟩
  · simp at hn
  · exact ⟨g, cap, h1, hb, (Array.getElem?_eq_some_iff.1 hg).1, h2, h3⟩
theorem grown_from {a b c : World} {row : Option Nat} (e : Ext a b) (h : b.grownBy c row) : a.grownBy c row :=
  ⟨h.os.trans (Below.os e), h.tape.trans (Below.tape e), h.output.trans (Below.output e), Nat.le_trans (Below.size e) h.size, fun k hk hn => (h.block k (Nat.lt_of_lt_of_le hk (Below.size e)) hn).trans (Below.block e k hk)⟩
theorem own_differs {w : World} {B B' : Nat} {T T' : TypeId} {v v' : Value} {s s' : Nat} {l l' : List (List Value)} (h : OwnP w B T v s l) (h' : OwnP w B' T' v' s' l') (hT : T ≠ T') : ∀ b, v.ownBlock = some b → v'.ownBlock ≠ some b := by
  intro b hb e
  rcases h'.forms with ⟨rfl, _⟩ | ⟨g, cap, cur, rfl, _, hg, _⟩
  · simp [Value.ownBlock] at e
  · simp only [Value.ownBlock, Option.some.injEq] at e
    subst e
    exact h.not_at hg hT hb
theorem Wk.grown {w1 W W' : World} {p g bm t0 t1 q n : Nat} {ws : List Int} {R : List (Nat × Nat)} {h : Hp} {row : Option Nat} (k : Wk w1 W p g bm t0 t1 q n ws R h) (hg : W.grownBy W' row) (hr : ∀ b, row = some b → t1 < b) (h0 : w1.heap.size ≤ t1) : Wk w1 W' p g bm t0 t1 q n ws R h := by
  obtain ⟨l1, l2, l3, l4⟩ := k.lt
  cases row with
  | none => exact k.ext (Turn.ext (Turn.of_grown hg (fun b e => by cases e)))
  | some b =>
    have hb := hr b rfl
    have t : Turn [b] W W' := Turn.of_grown hg fun b' e => .inl (by rw [← Option.some.inj e]; simp)
    exact ⟨k.a.turn t (by simp; omega) (by simp; omega) (by simp; omega), k.t.newer t (by intro x hx; rw [List.mem_singleton.1 hx]; omega), t.keep k.two (by omega), t.keep k.hp (by omega), k.lt⟩
/-- the words have got one more -/
theorem hv_words {W Wc wa : World} {B0 : Nat} {vw vh va : Value} {Hs : List (Nat × Ob)} {rows : List (List Value)} (h : Hv W B0 vw vh Hs rows) (e : Ext W Wc) (hga : Wc.grownBy wa vw.ownBlock) (hba : va.ownBlock = vw.ownBlock ∨ va.ownBlock = some Wc.heap.size) :
    W.grownBy wa vw.ownBlock ∧ OwnP wa B0 28 vh 4 rows ∧ (∀ (i : Nat) (y : Nat × Ob) (r : List Value), Hs[i]? = some y → rows[i]? = some r → RowO wa B0 va y.2 r) ∧
    ∀ (o : Ob) (r : List Value), RowO W B0 vw o r → RowO wa B0 va o r := by
  have hg := grown_from e hga
  have hrow : ∀ (o : Ob) (r : List Value), RowO W B0 vw o r → RowO wa B0 va o r := by
    rintro o r ⟨q, c, h1, h2, h3⟩
    refine ⟨q, c, h1, h2.grown hg fun b hb => h3 b hb, fun b hb => ?_⟩
    rcases hba with hb' | hb'
    · rw [hb']; exact h3 b hb
    · rw [hb']
      intro e'
      have h4 := (h2.own b hb).2
      have h5 := Below.size e
      have := Option.some.inj e'
      omega
  exact ⟨hg, h.hv.grown hg fun b hb e' => own_differs h.hv h.wd (by decide) b hb e', fun i y r hy hr => hrow _ _ (h.row i y r hy hr), hrow⟩
/-- and the objects one more -/
theorem hv_both {wa Wd wb : World} {B0 t : Nat} {va vh vb : Value} {Hs : List (Nat × Ob)} {rows : List (List Value)} {o : Ob} {r : List Value} (hoa : OwnP wa B0 29 va 1 ((wdL (Hs ++ [(t, o)])).map wordC)) (hvh : OwnP wa B0 28 vh 4 rows) (hlen : rows.length = Hs.length)
    (hrows : ∀ (i : Nat) (y : Nat × Ob) (r : List Value), Hs[i]? = some y → rows[i]? = some r → RowO wa B0 va y.2 r) (hr : RowO wa B0 va o r) (e : Ext wa Wd) (hgb : Wd.grownBy wb vh.ownBlock) (hob : OwnP wb B0 28 vb 4 (rows ++ [r])) : Hv wb B0 va vb (Hs ++ [(t, o)]) (rows ++ [r]) := by
  have hg := grown_from e hgb
  have hrow : ∀ (o : Ob) (r : List Value), RowO wa B0 va o r → RowO wb B0 va o r := by
    rintro o r ⟨q, c, h1, h2, h3⟩
    exact ⟨q, c, h1, h2.grown hg fun b hb e' => own_differs h2 hvh (by decide) b hb e', h3⟩
  refine ⟨hoa.grown hg fun b hb e' => own_differs hoa hvh (by decide) b hb e', hob, by simp [hlen], fun i y r' hy hr' => ?_⟩
  by_cases hi : i < Hs.length
  · rw [List.getElem?_append_left hi] at hy
    rw [List.getElem?_append_left (by omega)] at hr'
    exact hrow _ _ (hrows i y r' hy hr')
  · have hi2 : i = Hs.length := by
      have := (List.getElem?_eq_some_iff.1 hy).1
      simp at this
      omega
    subst hi2
    rw [List.getElem?_append_right (Nat.le_refl _), Nat.sub_self] at hy
    rw [← hlen, List.getElem?_append_right (Nat.le_refl _), Nat.sub_self] at hr'
    simp at hy hr'
    subst hy hr'
    exact hrow _ _ hr
/-- one of the objects is another one now -/
theorem hv_set {W W' : World} {B0 k gh n c : Nat} {vw : Value} {Hs : List (Nat × Ob)} {rows : List (List Value)} (h : Hv W B0 vw (.slice (some ⟨gh, 0, none⟩) n c) Hs rows) {y : Nat × Ob} {r' : List Value} {o' : Ob} (hy : Hs[k]? = some y) (t : Turn [gh] W W')
    (hown : OwnP W' B0 28 (.slice (some ⟨gh, 0, none⟩) n c) 4 (rows.set k r')) (hro : RowO W' B0 vw o' r') : Hv W' B0 vw (.slice (some ⟨gh, 0, none⟩) n c) (Hs.set k (y.1, o')) (rows.set k r') := by
  have hkl : k < Hs.length := (List.getElem?_eq_some_iff.1 hy).1
  have hwd : wdL (Hs.set k (y.1, o')) = wdL Hs := by
    unfold wdL
    rw [List.map_set]
    apply List.ext_getElem?
    intro i
    by_cases hik : k = i
    · subst hik
      rw [List.getElem?_set_self (by simpa using hkl), List.getElem?_map, hy]
      rfl
    · rw [List.getElem?_set_ne hik]
  have hne : ∀ {v : Value} {T : TypeId} {s : Nat} {l : List (List Value)}, OwnP W B0 T v s l → T ≠ 28 → ∀ b, v.ownBlock = some b → b ∉ [gh] := by
    intro v T s l ho hT b hb hm
    rw [List.mem_singleton.1 hm] at hb
    exact own_differs ho h.hv hT _ hb rfl
  refine ⟨by rw [hwd]; exact h.wd.turn t (hne h.wd (by decide)), hown, by rw [List.length_set, List.length_set]; exact h.len, fun i z r hz hr => ?_⟩
  by_cases hik : k = i
  · subst hik
    rw [List.getElem?_set_self hkl] at hz
    rw [List.getElem?_set_self (by rw [h.len]; exact hkl)] at hr
    rw [← Option.some.inj hz, ← Option.some.inj hr]
    exact hro
  · rw [List.getElem?_set_ne hik] at hz hr
    obtain ⟨q, c', h1, h2, h3⟩ := h.row i z r hz hr
    exact ⟨q, c', h1, h2.turn t (hne h2 (by decide)), h3⟩
theorem Wk.turnB {w1 W W' : World} {p g bm t0 t1 q n b : Nat} {ws : List Int} {R : List (Nat × Nat)} {h : Hp} (k : Wk w1 W p g bm t0 t1 q n ws R h) (t : Turn [b] W W') (hb : t1 < b) (h0 : w1.heap.size ≤ t1) : Wk w1 W' p g bm t0 t1 q n ws R h :=
  k.grown (row := some b) ⟨t.os, t.tape, t.output, t.size, fun i hi hn => t.block i hi fun hm => hn (by rw [List.mem_singleton.1 hm])⟩ (fun b' e => by rw [← Option.some.inj e]; exact hb) h0
/-- a row's four cells are written -/
theorem row_four {w : World} {B0 gh n c k : Nat} {T : TypeId} {rows : List (List Value)} {a0 a1 a2 a3 b0 b1 b2 b3 : Value} (h : OwnP w B0 T (.slice (some ⟨gh, 0, none⟩) n c) 4 rows) (hr : rows[k]? = some [a0, a1, a2, a3]) (h0 : b0.oneCell' = true) (h1 : b1.oneCell' = true) (h2 : b2.oneCell' = true) (h3 : b3.oneCell' = true) :
    OwnP ((((w.setCell ⟨gh, k * 4, none⟩ b0).setCell ⟨gh, k * 4 + 1, none⟩ b1).setCell ⟨gh, k * 4 + 2, none⟩ b2).setCell ⟨gh, k * 4 + 3, none⟩ b3) B0 T (.slice (some ⟨gh, 0, none⟩) n c) 4 (rows.set k [b0, b1, b2, b3]) := by
  have hk : k < rows.length := (List.getElem?_eq_some_iff.1 hr).1
  have s0 := h.store (i := k) (f := 0) hr (by omega) h0
  have s1 := s0.store (i := k) (f := 1) (cs := [b0, a1, a2, a3]) (by rw [List.getElem?_set_self hk]; rfl) (by omega) h1
  rw [List.set_set] at s1
  have s2 := s1.store (i := k) (f := 2) (cs := [b0, b1, a2, a3]) (by rw [List.getElem?_set_self hk]; rfl) (by omega) h2
  rw [List.set_set] at s2
  have s3 := s2.store (i := k) (f := 3) (cs := [b0, b1, b2, a3]) (by rw [List.getElem?_set_self hk]; rfl) (by omega) h3
  rw [List.set_set] at s3
  exact s3
/-- an object is got, whatever was made since -/
theorem get_later {w1 W0 : World} {p g bm t0 t1 q m : Nat} {n top : Int} {ws : List Int} {Hs : List (Nat × Ob)} {vw vh : Value} {rows : List (List Value)} (b : Bk w1 W0 p g bm t0 t1 q m n top ws Hs vw vh rows) {y : Nat × Ob} (hy : y ∈ Hs) {x : Int} (hx : x = ((2 * y.1 : Nat) : Int)) (h64 : W64 x) (W : World) (e : Ext W0 W) :
    Calls Try.prog 14 #[.pointer (some ⟨p, 0, none⟩), .agg #[.int .i64 (heapB n top).base, .int .i64 (heapB n top).half, .int .i64 (heapB n top).space, .int .i64 (heapB n top).top], .int .u64 x] W fun e w' =>
      ∃ q c, e = .returned (.tuple #[.agg #[.int .i64 y.2.kind, .int .i64 y.2.tag, .slice q y.2.fields.length c, .string y.2.text], .bool true]) ∧ OwnP w' W.heap.size 29 (.slice q y.2.fields.length c) 1 (y.2.fields.map wordC) ∧ Ext W0 w' ∧ Ext W w' := by
  subst hx
  refine (get_is (b.ext e).k.a (heapB n top) (show (Lit.int .i64 (3 : Int)).wf = true by decide) b.d.w64 h64).mono ?_
  rintro e' w' ⟨v, rfl, hx, -, h1⟩
  obtain ⟨q, c, rfl, ho⟩ := h1 y (b.d.get hy)
  rw [b.d.get hy]
  exact ⟨q, c, rfl, ho, e.trans hx, hx⟩
theorem Ext.cells6k {w w' : World} (e : Ext w w') {a0 a1 a2 a3 a4 a5 : Addr} {v0 v1 v2 v3 v4 v5 : Value} (h : w.cell? a0 = some v0 ∧ w.cell? a1 = some v1 ∧ w.cell? a2 = some v2 ∧ w.cell? a3 = some v3 ∧ w.cell? a4 = some v4 ∧ w.cell? a5 = some v5) : w'.cell? a0 = some v0 ∧ w'.cell? a1 = some v1 ∧ w'.cell? a2 = some v2 ∧ w'.cell? a3 = some v3 ∧ w'.cell? a4 = some v4 ∧ w'.cell? a5 = some v5 :=
  ⟨e.cell h.1, e.cell h.2.1, e.cell h.2.2.1, e.cell h.2.2.2.1, e.cell h.2.2.2.2.1, e.cell h.2.2.2.2.2⟩
theorem cells6s {w : World} {t0 t1 gw a b : Nat} {v0 v1 v2 v3 v4 v5 u0 u1 u2 u3 : Value} (h : w.cell? ⟨t0, 0, none⟩ = some v0 ∧ w.cell? ⟨t1, 0, none⟩ = some v1 ∧ w.cell? ⟨t1, 1, none⟩ = some v2 ∧ w.cell? ⟨t1, 2, none⟩ = some v3 ∧ w.cell? ⟨t1, 3, none⟩ = some v4 ∧ w.cell? ⟨gw, a, none⟩ = some v5) (h0 : t0 ≠ b) (h1 : t1 ≠ b) (h2 : gw ≠ b) :
    ((((w.setCell ⟨b, 0, none⟩ u0).setCell ⟨b, 1, none⟩ u1).setCell ⟨b, 2, none⟩ u2).setCell ⟨b, 3, none⟩ u3).cell? ⟨t0, 0, none⟩ = some v0 ∧ ((((w.setCell ⟨b, 0, none⟩ u0).setCell ⟨b, 1, none⟩ u1).setCell ⟨b, 2, none⟩ u2).setCell ⟨b, 3, none⟩ u3).cell? ⟨t1, 0, none⟩ = some v1 ∧ ((((w.setCell ⟨b, 0, none⟩ u0).setCell ⟨b, 1, none⟩ u1).setCell ⟨b, 2, none⟩ u2).setCell ⟨b, 3, none⟩ u3).cell? ⟨t1, 1, none⟩ = some v2 ∧
    ((((w.setCell ⟨b, 0, none⟩ u0).setCell ⟨b, 1, none⟩ u1).setCell ⟨b, 2, none⟩ u2).setCell ⟨b, 3, none⟩ u3).cell? ⟨t1, 2, none⟩ = some v3 ∧ ((((w.setCell ⟨b, 0, none⟩ u0).setCell ⟨b, 1, none⟩ u1).setCell ⟨b, 2, none⟩ u2).setCell ⟨b, 3, none⟩ u3).cell? ⟨t1, 3, none⟩ = some v4 ∧ ((((w.setCell ⟨b, 0, none⟩ u0).setCell ⟨b, 1, none⟩ u1).setCell ⟨b, 2, none⟩ u2).setCell ⟨b, 3, none⟩ u3).cell? ⟨gw, a, none⟩ = some v5 := by
  have t : Turn [b] w ((((w.setCell ⟨b, 0, none⟩ u0).setCell ⟨b, 1, none⟩ u1).setCell ⟨b, 2, none⟩ u2).setCell ⟨b, 3, none⟩ u3) := ((((Turn.refl [b] w).setCell (.inl (by simp)) u0).setCell (.inl (by simp)) u1).setCell (.inl (by simp)) u2).setCell (.inl (by simp)) u3
  exact ⟨t.cell (by simpa using h0) h.1, t.cell (by simpa using h1) h.2.1, t.cell (by simpa using h1) h.2.2.1, t.cell (by simpa using h1) h.2.2.2.1, t.cell (by simpa using h1) h.2.2.2.2.1, t.cell (by simpa using h2) h.2.2.2.2.2⟩
/-- behind the region of a get: the new block holds the object -/
structure GetEnd (wr W : World) (b : Nat) (o : Ob) (q : Option Addr) (c : Nat) : Prop where
  blk : W.heap[b]? = some (.cells #[.int .i64 o.kind, .int .i64 o.tag, .slice q o.fields.length c, .string o.text] 28 (0, 0))
  x : Ext wr W
  ws : WordSl W (.slice q o.fields.length c) o.fields
theorem GetEnd.fill {wr w9 : World} {B b : Nat} {o : Ob} {q : Option Addr} {c : Nat} {x0 x1 x2 x3 : Value} (hx : Ext wr w9) (ho : OwnP w9 B 29 (.slice q o.fields.length c) 1 (o.fields.map wordC)) (hb : wr.heap.size ≤ b) (hB : b < B) (nb : w9.heap[b]? = some (.cells #[x0, x1, x2, x3] 28 (0, 0))) :
    GetEnd wr ((((w9.setCell ⟨b, 0, none⟩ (.int .i64 o.kind)).setCell ⟨b, 1, none⟩ (.int .i64 o.tag)).setCell ⟨b, 2, none⟩ (.slice q o.fields.length c)).setCell ⟨b, 3, none⟩ (.string o.text)) b o q c := by
  obtain ⟨h1, h2, -⟩ := fill4 nb (.int .i64 o.kind) (.int .i64 o.tag) (.slice q o.fields.length c) (.string o.text)
  refine ⟨h1, Turn.after hx h2 (by intro x hm; rw [List.mem_singleton.1 hm]; exact hb), WordSl.of_rows (ho.turn h2 fun x hx hm => ?_).p⟩
  have := (ho.own x hx).1
  rw [List.mem_singleton.1 hm] at this
  omega
theorem GetEnd.made {wr w9 : World} {B : Nat} {o : Ob} {q : Option Addr} {c : Nat} (hx : Ext wr w9) (ho : OwnP w9 B 29 (.slice q o.fields.length c) 1 (o.fields.map wordC)) :
    GetEnd wr (w9.alloc (.cells #[.int .i64 o.kind, .int .i64 o.tag, .slice q o.fields.length c, .string o.text] 28 (0, 0))) w9.heap.size o q c :=
  ⟨heap_alloc_new _ _, hx.trans (Ext.alloc _ _), WordSl.of_rows (ho.ext (Ext.alloc _ _)).p⟩
theorem EObj : ElemT Try.prog 71 28 4 56 := ⟨Try.underlying71, ⟨.agg #[.int .i64 0, .int .i64 0, .slice none 0 0, .string ⟨#[]⟩], by kernel_rfl, rfl⟩, by decide⟩
theorem back_walk (x : Int) (v v2 : Value) (L : List ObI) (S : List (Int × Int × Int)) (w : World) (hx : 0 ≤ x ∧ x ≤ 255) (hL : ObsP w v L) (hLs : ∀ y ∈ L, y.o.fields.length * 8 ≤ 140737488351232) (hS : RowsSl w v2 3 (S.map fun s => [.int .u8 s.1, .int .u8 s.2.1, .int .u8 s.2.2])) (hS8 : ∀ s ∈ S, (0 ≤ s.1 ∧ s.1 ≤ 255) ∧ (0 ≤ s.2.1 ∧ s.2.1 ≤ 255) ∧ (0 ≤ s.2.2 ∧ s.2.2 ≤ 255)) :
    Calls Try.prog 5 #[.int .u8 x, v, v2] w (TrueExt w) := by
  have HL := Lib.hid hL; have HS := Lib.hid hS; have HS8 := Lib.hid hS8; have HLS := Lib.hid hLs
  obtain ⟨qs, cs, rfl, hls, hcs, -⟩ := hL.1
  obtain ⟨q2, c2, rfl, hl2, hc2, -⟩ := hS
  rw [List.length_map] at hls HL hl2 HS ⊢
  rw [List.length_map]
  unfold maxLen at hcs hc2
  obtain ⟨hx0, hx1⟩ := hx
  obtain ⟨n, hn⟩ : ∃ n : Int, n = 8 + x % 150 := ⟨_, rfl⟩
  obtain ⟨m, hm⟩ := Int.eq_ofNat_of_zero_le (show 0 ≤ 2 * n by omega)
  have hnb : 8 ≤ n ∧ n ≤ 157 := by omega
  obtain ⟨hn1, hn2⟩ := hnb
  have hmb : 16 ≤ m ∧ m ≤ 314 := by omega
  obtain ⟨hm1, hm2⟩ := hmb
  clear hL hS8 hLs
  have hmk := run_make_row' (P := Try.prog) 22 29 (.int .u64 0) 8 Try.underlying22 info_u64 rfl .i64 .i64 m (by omega) (by omega)
  go_enter Try.func5, Try.ntmps5
  go_upto_region 2 with fail
  rw [← hn]
  have HM := Lib.hid hm
  clear hn
  go_wp2_with fail
  refine (lay_words (make_words w m (by omega) _) (by simp; omega)).mono ?_; rintro e w1 ⟨p, g, bm, q, gq, B, rfl, hB⟩
  rw [List.length_replicate, Nat.max_eq_right (by omega)] at hB
  have HB := Lib.hid hB
  clear hB hmk
  go_upto_region 3 with fail
  refine wp_alloc1 fun W2 hE2 hS2 b2 => ?_
  by_cases hbig : 30 < L.length ∨ 30 < S.length
  · have HX1 := Lib.hid ((Ext.alloc _ _).trans (HB.out.ext.trans hE2))
    rcases Bool.eq_false_or_eq_true (decide ((30 : Int) < (L.length : Int))) with d0 | d0
    · clear hbig b2 hE2 hS2
      go_wp2_with fail
      refine (wakes3 _).mono ?_
      rintro e w3 ⟨rfl, hx3⟩
      have HX3 := Lib.hid (HX1.out.trans hx3)
      clear hx3
      go_wp2
      go_ret
      exact ⟨rfl, HX3.out⟩
    · have d1 : decide ((30 : Int) < (S.length : Int)) = true := by
        have := of_decide_eq_false d0
        exact decide_eq_true (by omega)
      clear hbig b2 hE2 hS2
      go_wp2_with fail
      refine (wakes3 _).mono ?_
      rintro e w3 ⟨rfl, hx3⟩
      have HX3 := Lib.hid (HX1.out.trans hx3)
      clear hx3
      go_wp2
      go_ret
      exact ⟨rfl, HX3.out⟩
  · have d0 : decide ((30 : Int) < (L.length : Int)) = false := decide_eq_false (by omega)
    have d1 : decide ((30 : Int) < (S.length : Int)) = false := decide_eq_false (by omega)
    have hL30 : L.length ≤ 30 := by omega
    have hS30 : S.length ≤ 30 := by omega
    clear hbig
    go_upto_region 6 with fail
    refine wp_alloc1 fun W3 hE3 hS3 b3 => ?_
    have hlt := HB.out.a.lt
    have hgw : w.heap.size ≤ g := by
      have h1 := HB.out.ge.2.1
      have h2 := Below.size (Ext.alloc w (Obj.cells (madeCells #[Value.int IntKind.u64 0] m) 29))
      omega
    have HX1 := Lib.hid ((Ext.alloc w (Obj.cells (madeCells #[Value.int IntKind.u64 0] m) 29)).trans HB.out.ext)
    rw [hS2] at b3
    have hK : Wk w1 W3 p g bm w1.heap.size (w1.heap.size + 1) q (m + 10) (rigW (List.replicate m 0) m) (rigR m) (heapB n 0) :=
      ⟨(HB.out.a.ext hE2).ext hE3, (Turn.of_ext hE2).trans (Turn.of_ext hE3), (Below.block hE3 _ (Array.getElem?_eq_some_iff.1 b2).1).trans b2, b3, by omega, by omega, by omega, by omega⟩
    have HBK := Lib.hid (show Bk w1 W3 p g bm w1.heap.size (w1.heap.size + 1) q m n 0 (rigW (List.replicate m 0) m) [] (.slice none 0 0) (.slice none 0 0) [] from ⟨hK, held_start hn1 (by omega) (by omega), Hv.nil _ _⟩)
    have h01 : w1.heap.size < w1.heap.size + 1 := by omega
    clear hK hE2 hE3 hS2 hS3 b2 b3 HB d0 d1 hlt
    have HT0 := Lib.hid (Nat.le_refl w1.heap.size)
    generalize ht0 : w1.heap.size = t0 at HBK h01 ⊢
    have HT0 := Lib.hid ht0
    generalize ht1 : t0 + 1 = t1 at HBK h01 ⊢
    have HT1 := Lib.hid ht1
    clear ht0 ht1
    go_wp2_with fail
    go_loopw [14, 12, 13] (fun i vw vh wr => ∃ (j : Nat) (ws : List Int) (top : Int) (Hs : List (Nat × Ob)) (rows : List (List Value)), j ≤ L.length ∧ i = .int .i64 j ∧ Hs.length ≤ j ∧ Bk w1 wr p g bm t0 t1 q m n top ws Hs vw vh rows) (fun i _ _ _ => L.length - (intOf i).toNat)
    case atStart => exact ⟨0, _, _, _, _, by omega, rfl, by simp, HBK.out⟩
    case round =>
      obtain ⟨j, ws, top, Hs, rows, hj, rfl, hHs, hBk⟩ := hrel
      obtain ⟨tn, rfl⟩ := Int.eq_ofNat_of_zero_le hBk.d.nums.2.2.1
      have HK := Lib.hid hBk
      clear hBk HBK
      obtain ⟨qw, cw, rfl, hw1, hw2⟩ := HK.out.v.wd.len
      rw [List.length_map, wdL_len] at hw1 HK ⊢
      obtain ⟨qh, ch, rfl, hh1, hh2⟩ := HK.out.v.hv.len
      rw [HK.out.v.len] at hh1 HK ⊢
      unfold maxLen at hw2 hh2
      have hxw : Ext w wr := Turn.after HX1.out HK.out.k.t (by
        intro b hb
        have h1 := HT0.out
        have h2 := Below.size HX1.out
        simp only [List.mem_cons, List.not_mem_nil, or_false] at hb
        rcases hb with rfl | rfl <;> omega)
      have HXW := Lib.hid hxw
      by_cases hlt : j < L.length
      · as_aux_lemma => --<<A
        have i1 : (j : Int) < (L.length : Int) := by omega
        have HO := Lib.hid (HL.out.2 _ (List.getElem_mem hlt))
        obtain ⟨q9, c9, e1, -, -, hcell⟩ := HL.out.1
        obtain ⟨rfl, -, rfl⟩ := Value.slice.inj e1
        obtain ⟨hl8, b8, off8, rfl, hc8⟩ := hcell j (obiC L[j]) (by rw [List.getElem?_map, List.getElem?_eq_getElem hlt]; rfl)
        clear hcell e1 hl8
        have HOS := Lib.hid (HLS.out _ (List.getElem_mem hlt))
        generalize L[j] = xo at *
        obtain ⟨o, ov⟩ := xo
        obtain ⟨qf, cf, hvf, hlf, hcf, -⟩ := RowsP.at HO.out.p.1
        dsimp only at hvf hlf
        rw [List.length_map] at hvf hlf
        subst hvf
        have hsf := HO.out.text
        dsimp only at hsf
        unfold maxLen at hsf hcf
        have s0 := hxw.cell (hc8 0 _ rfl)
        have s1 := hxw.cell (hc8 1 _ rfl)
        have s2 := hxw.cell (hc8 2 _ rfl)
        have s3 := hxw.cell (hc8 3 _ rfl)
        dsimp only at s0 s1 s2 s3
        rw [Nat.add_zero] at s0
        clear hc8 hxw
        have hfb : o.fields.length * 8 ≤ 140737488351232 := HOS.out
        go_wp2_with fail
        refine (own_object_big (HO.out.p.1.ext HXW.out) (by dsimp only; omega)).mono ?_
        rintro e w4 ⟨vo, rfl, hoo, hx4⟩
        dsimp only at hoo
        obtain ⟨qo, co, rfl, hlo, hco⟩ := hoo.len
        rw [List.length_map] at hlo hoo ⊢
        unfold maxLen at hco
        have HK4 := Lib.hid (HK.out.ext hx4)
        have HOO := Lib.hid hoo
        have HX4 := Lib.hid hx4
        clear hoo hx4 s0 s1 s2 s3
        go_upto_region 12 with fail
        refine wp_alloc1 fun W5 hE5 hS5 b5 => ?_
        have HK5 := Lib.hid (HK4.out.ext hE5)
        have HOO5 := Lib.hid (HOO.out.ext hE5)
        have HX5 := Lib.hid (HX4.out.trans hE5)
        have hsz4 : wr.heap.size ≤ w4.heap.size := Below.size HX4.out
        have hb5 : t1 < w4.heap.size := (Array.getElem?_eq_some_iff.1 HK4.out.k.hp).1
        have hown5 := fun b hb => (HOO.out.own b hb)
        have HOWN := Lib.hid hown5
        clear hE5 hS5 HK4 HOO HX4 hown5
        generalize hg15 : w4.heap.size = t15 at *
        obtain ⟨z0, z1, z2, z3⟩ := cells4 b5
        have HL1 := Lib.hid (fun W => long_is o.kind o.tag o.fields.length co qo o.text W (by omega) (by omega))
        obtain ⟨l1, hl1e⟩ : ∃ b, b = (decide (600 < o.fields.length) || decide (800 < o.text.size)) := ⟨_, rfl⟩
        rw [← hl1e] at HL1
        have HE1 := Lib.hid hl1e
        clear hl1e
        go_wp2_with fail
        refine (HL1.out _).mono ?_
        rintro e w6 ⟨rfl, hx6⟩
        cases l1 with
        | true =>
          have HK6 := Lib.hid (HK5.out.ext hx6)
          clear hx6 b5 z0 z1 z2 z3
          go_wp2_with fail
          refine (wakes3 _).mono ?_
          rintro e w7 ⟨rfl, hx7⟩
          have HK7 := Lib.hid (HK6.out.ext hx7)
          clear hx7 HK6
          go_wp2
          go_ret
          exact ⟨rfl, HK7.out.done HX1.out hgw (by have := HT0.out; omega)⟩
        | false =>
          have hof : o.fields.length ≤ 600 ∧ o.text.size ≤ 800 := by
            have := HE1.out
            simp at this
            omega
          obtain ⟨hof, hos⟩ := hof
          have HK6 := Lib.hid (HK5.out.ext hx6)
          have HOO6 := Lib.hid (HOO5.out.ext hx6)
          have HX6 := Lib.hid (HX5.out.trans hx6)
          have b6 := (Below.block hx6 _ (Array.getElem?_eq_some_iff.1 b5).1).trans b5
          have B6 := Lib.hid b6
          clear hx6 b5 b6 z0 z1 z2 z3 HL1 HE1 HK5 HOO5 HX5 hfb
          go_wp2_with fail
          clear hg15
          generalize wr = wq at *
          go_loopw [16] (fun i wx => ∃ (k : Nat) (F : List Int), k ≤ o.fields.length ∧ i = .int .i64 k ∧ F.length = o.fields.length ∧ OwnP wx wq.heap.size 29 (.slice qo o.fields.length co) 1 (F.map wordC) ∧ (∀ (a : Nat) (y : Int), a < k → F[a]? = some y → fldB Hs y) ∧ (∀ y ∈ F, W64 y) ∧ Ext wq wx ∧
            wx.heap[t15]? = some (.cells #[.int .i64 o.kind, .int .i64 o.tag, .slice qo o.fields.length co, .string o.text] 28 (0, 0))) (fun i _ => o.fields.length - (intOf i).toNat)
          case atStart => exact ⟨0, o.fields, by omega, rfl, rfl, HOO6.out, (fun a y h _ => by omega), HO.out.p.2, HX6.out, B6.out⟩
          case round =>
            obtain ⟨k, F, hk, rfl, hFl, hO, hgood, hF64, hxk, hb15⟩ := hrel
            have HKk := Lib.hid (HK.out.ext hxk)
            have HOk := Lib.hid hO; have HGD := Lib.hid hgood; have HF64 := Lib.hid hF64; have HXk := Lib.hid hxk; have HB15 := Lib.hid hb15; have HFL := Lib.hid hFl
            obtain ⟨z0, z1, z2, z3⟩ := cells4 hb15
            clear hO hgood hF64 hxk hb15 hFl
            by_cases hlt3 : k < o.fields.length
            · have hkF : k < F.length := by rw [HFL.out]; exact hlt3
              have hy64 := HF64.out _ (List.getElem_mem hkF)
              obtain ⟨go, rfl, hgo1, hcy, hfy⟩ := HOk.out.cell (i := k) (f := 0) (cs := wordC F[k]) (u := .int .u64 F[k]) (by rw [List.getElem?_map, List.getElem?_eq_getElem hkF]; rfl) rfl
              rw [Nat.add_zero, Nat.mul_one] at hcy hfy
              have hgo2 : go < t15 := (HOWN.out go rfl).2
              have hfin : ∀ u : Int, W64 u → fldB Hs u → ∃ F' : List Int, F'.length = o.fields.length ∧ OwnP (wr.setCell ⟨go, k, none⟩ (.int .u64 u)) wq.heap.size 29 (.slice (some ⟨go, 0, none⟩) o.fields.length co) 1 (F'.map wordC) ∧ (∀ (a : Nat) (y : Int), a < k + 1 → F'[a]? = some y → fldB Hs y) ∧ (∀ y ∈ F', W64 y) ∧ Ext wq (wr.setCell ⟨go, k, none⟩ (.int .u64 u)) ∧
                  (wr.setCell ⟨go, k, none⟩ (.int .u64 u)).heap[t15]? = some (.cells #[.int .i64 o.kind, .int .i64 o.tag, .slice (some ⟨go, 0, none⟩) o.fields.length co, .string o.text] 28 (0, 0)) := by
                intro u hu hfu
                have hst := HOk.out.store (i := k) (f := 0) (cs := wordC F[k]) (u := .int .u64 u) (by rw [List.getElem?_map, List.getElem?_eq_getElem hkF]; rfl) (by omega) rfl
                rw [show (wordC F[k]).set 0 (.int .u64 u) = wordC u from rfl, ← List.map_set, Nat.add_zero, Nat.mul_one] at hst
                have ht := Turn.setCell (Turn.refl [go] wr) (a := ⟨go, k, none⟩) (.inl (by simp)) (.int .u64 u)
                refine ⟨F.set k u, by rw [List.length_set]; exact HFL.out, hst, fun a y ha hy => ?_, fun y hy => ?_, Turn.after HXk.out ht (by intro b hb; rw [List.mem_singleton.1 hb]; exact hgo1), ht.keep HB15.out (by omega)⟩
                · by_cases hak : k = a
                  · subst hak
                    rw [List.getElem?_set_self hkF] at hy
                    rw [← Option.some.inj hy]
                    exact hfu
                  · rw [List.getElem?_set_ne hak] at hy
                    exact HGD.out a y (by omega) hy
                · rcases List.mem_or_eq_of_mem_set hy with hy | rfl
                  · exact HF64.out y hy
                  · exact hu
              have HFIN := Lib.hid hfin
              have HY64 := Lib.hid hy64
              clear hfin
              obtain ⟨hy0, hy1⟩ := hy64
              generalize F[k] = y at *
              have i3 : (k : Int) < (o.fields.length : Int) := by omega
              go_wp2_with fail
              refine (refIsInt_is HY64.out _).mono ?_
              rintro e w7 ⟨rfl, rfl⟩
              generalize hint : isIntW y = iy
              have HINT := Lib.hid hint
              clear hint
              cases iy with
              | true =>
                obtain ⟨F', h1, h2, h3, h4, h5, h6⟩ := HFIN.out _ (odd1_int HY64.out).2 (.inl (odd1_int HY64.out).1)
                have HN := Lib.hid (And.intro h1 (And.intro h2 (And.intro h3 (And.intro h4 (And.intro h5 h6)))))
                clear h1 h2 h3 h4 h5 h6
                unfold odd1 at HN
                go_wp2
                exact ⟨⟨k + 1, F', by omega, by go_num, HN.out.1, HN.out.2.1, HN.out.2.2.1, HN.out.2.2.2.1, HN.out.2.2.2.2.1, HN.out.2.2.2.2.2⟩, by simp [intOf]; omega⟩
              | false =>
                by_cases hh0 : Hs.length = 0
                · have d0 : ¬ 0 < Hs.length := by omega
                  obtain ⟨F', h1, h2, h3, h4, h5, h6⟩ := HFIN.out _ (odd1_int HY64.out).2 (.inl (odd1_int HY64.out).1)
                  have HN := Lib.hid (And.intro h1 (And.intro h2 (And.intro h3 (And.intro h4 (And.intro h5 h6)))))
                  clear h1 h2 h3 h4 h5 h6 hh0
                  unfold odd1 at HN
                  go_wp2
                  exact ⟨⟨k + 1, F', by omega, by go_num, HN.out.1, HN.out.2.1, HN.out.2.2.1, HN.out.2.2.2.1, HN.out.2.2.2.2.1, HN.out.2.2.2.2.2⟩, by simp [intOf]; omega⟩
                · have d0 : 0 < Hs.length := by omega
                  have hh1' : (0 : Int) < (Hs.length : Int) := by omega
                  obtain ⟨rn, hrn⟩ := Int.eq_ofNat_of_zero_le (Int.emod_nonneg (y % 64) (show (Hs.length : Int) ≠ 0 by omega))
                  have hrl : rn < Hs.length := by have := Int.emod_lt_of_pos (y % 64) hh1'; omega
                  obtain ⟨gw, rfl, hgw1, hcw, hfw⟩ := HKk.out.v.wd.cell (i := rn) (f := 0) (cs := wordC ((2 * (Hs[rn]).1 : Nat) : Int)) (u := .int .u64 ((2 * (Hs[rn]).1 : Nat) : Int)) (by rw [List.getElem?_map, wdL_at hrl]; rfl) rfl
                  rw [Nat.add_zero, Nat.mul_one] at hcw hfw
                  have hmw : ((2 * (Hs[rn]).1 : Nat) : Int) ∈ wdL Hs := List.mem_of_getElem? (wdL_at hrl)
                  obtain ⟨F', h1, h2, h3, h4, h5, h6⟩ := HFIN.out _ (wdL_64 HKk.out.d _ hmw) (.inr hmw)
                  have HN := Lib.hid (And.intro h1 (And.intro h2 (And.intro h3 (And.intro h4 (And.intro h5 h6)))))
                  clear h1 h2 h3 h4 h5 h6 hmw
                  generalize ((2 * (Hs[rn]).1 : Nat) : Int) = wv at *
                  have hrn2 : (rn : Int) < (Hs.length : Int) := by omega
                  go_upto_region 18 with fail
                  go_region
                  go_wp2
                  exact ⟨⟨k + 1, F', by omega, by go_num, HN.out.1, HN.out.2.1, HN.out.2.2.1, HN.out.2.2.2.1, HN.out.2.2.2.2.1.trans (Ext.drew _), HN.out.2.2.2.2.2⟩, by simp [intOf]; omega⟩
            · obtain rfl : k = o.fields.length := by omega
              have hmo : mayO ⟨o.kind, o.tag, F, o.text⟩ = mayO o := by unfold mayO; dsimp only; rw [HFL.out]
              have hwo : wordsO ⟨o.kind, o.tag, F, o.text⟩ = wordsO o := by unfold wordsO; dsimp only; rw [HFL.out]
              have hpb : putB ws (rigR m) (heapB n tn) ⟨o.kind, o.tag, F, o.text⟩ = (mayO o && decide ((tn : Int) + (wordsO o : Nat) ≤ n)) := by
                rw [HKk.out.d.putB (o := ⟨o.kind, o.tag, F, o.text⟩) (fun y hy => by
                  obtain ⟨a, ha, rfl⟩ := List.getElem_of_mem hy
                  exact HGD.out a _ (by rw [← HFL.out]; exact ha) (List.getElem?_eq_getElem ha)), hmo, hwo]
              go_upto_region 20 with fail
              by_cases hmay : mayO o = true
              · by_cases hfit : (tn : Int) + (wordsO o : Nat) ≤ n
                · have HMAY := Lib.hid hmay
                  have hw4 : wordsO o ≤ 401 := by
                    have hb := (mayK_bounds (show mayK o.kind o.tag o.fields.length o.text.size = true from HMAY.out)).2.2.2.2.2.2.2
                    unfold wordsO
                    omega
                  have hpbt : putB ws (rigR m) (heapB n tn) ⟨o.kind, o.tag, F, o.text⟩ = true := by rw [hpb, hmay, decide_eq_true hfit]; rfl
                  have hD' := HKk.out.d.put (o := ⟨o.kind, o.tag, F, o.text⟩) (fun y hy => by
                    obtain ⟨a, ha, rfl⟩ := List.getElem_of_mem hy
                    exact HGD.out a _ (by rw [← HFL.out]; exact ha) (List.getElem?_eq_getElem ha)) HF64.out (by rw [hmo]; exact hmay) (by rw [hwo]; exact hfit)
                  rw [hwo, Int.toNat_natCast] at hD'
                  have hrow := HOk.out.rowStay (g := g) (by have := HK.out.k.a.lt; omega)
                  obtain ⟨kk, hkk⟩ : ∃ kk : Int, kk = ((2 * tn : Nat) : Int) := ⟨_, rfl⟩
                  have hput := put_yes (w := wr) HKk.out.k.a (heapB n tn) (heapB n (tn + (wordsO o : Nat))) (show (Lit.int .i64 (3 : Int)).wf = true by decide) HKk.out.d.w64 ⟨o.kind, o.tag, F, o.text⟩ co qo (by dsimp only; rw [HFL.out]; exact hrow) HF64.out (by dsimp only; rw [HFL.out]; omega) hpbt (by rw [← hwo]; rfl) rfl kk (by rw [heapB_top (by omega), hkk]; rfl)
                  dsimp only at hput
                  rw [HFL.out] at hput
                  obtain ⟨ws', hws'⟩ : ∃ ws', ws' = putWs ws (rigR m) (heapB n tn) ⟨o.kind, o.tag, F, o.text⟩ := ⟨_, rfl⟩
                  rw [← hws'] at hput hD'
                  have HPUT := Lib.hid hput; have HD' := Lib.hid hD'; have HKKE := Lib.hid hkk
                  clear hput hrow hpbt hpb hD' hws'
                  obtain ⟨x0, x1⟩ := cells2 HKk.out.k.two
                  obtain ⟨y0, y1, y2, y3⟩ := cells4 HKk.out.k.hp
                  have CP0 := Lib.hid (fun W => refPlace_is (n := tn) (by have := HKk.out.d.nums; omega) W)
                  rw [← hkk] at CP0
                  clear hkk
                  go_wp2_with fail
                  refine HPUT.out.mono ?_
                  rintro e w7 ⟨rfl, hA7, hT7⟩
                  have hglow : g < t0 ∧ t0 < t1 := by have := HK.out.k.lt; omega
                  have HK7 := Lib.hid (HKk.out.k.put hA7 hT7)
                  have HV7 := Lib.hid (HKk.out.v.low hT7 (by omega))
                  have HOB7 := Lib.hid (HOk.out.low hT7 (by have := HK.out.k.a.lt; omega))
                  have b7 := hT7.keep HB15.out (by omega)
                  clear hA7 hT7 HPUT x0 x1 y0 y1 y2 y3 z0 z1 z2 z3
                  go_upto_region 21 with fail
                  refine wp_alloc1 fun W8 hE8 hS8 b8' => ?_
                  have HK8 := Lib.hid (HK7.out.ext hE8)
                  have HV8 := Lib.hid (HV7.out.ext hE8)
                  have HOB8 := Lib.hid (HOB7.out.ext hE8)
                  have b8'' := (Below.block hE8 _ (Array.getElem?_eq_some_iff.1 b7).1).trans b7
                  have ht1w : t1 < w7.heap.size := (Array.getElem?_eq_some_iff.1 HK7.out.hp).1
                  have ht15w : t15 < w7.heap.size := (Array.getElem?_eq_some_iff.1 b7).1
                  clear hE8 hS8 HK7 HV7 HOB7 b7
                  generalize hg17 : w7.heap.size = t17 at *
                  clear hg17
                  obtain ⟨z0, z1, z2, z3⟩ := cells4 b8''
                  obtain ⟨y0, y1, y2, y3⟩ := cells4 HK8.out.hp
                  obtain ⟨v0, v1, v2, v3⟩ := cells4 b8'
                  generalize hwo2 : wordsO o = wo at *
                  have HWO := Lib.hid hwo2
                  have rz0 := fun d os => cell_regrown z0 d os
                  have rz1 := fun d os => cell_regrown z1 d os
                  have rz2 := fun d os => cell_regrown z2 d os
                  have rz3 := fun d os => cell_regrown z3 d os
                  have ry3 := fun d os => cell_regrown (show W8.cell? ⟨t1, 3, none⟩ = some (.int .i64 (tn : Int)) from y3) d os
                  have CM := Lib.hid (fun d os => quiet_ext (refmay_is o.kind o.tag o.fields.length co qo o.text (Go.Sort.grow (redrawn W8 d) os)))
                  rw [show mayK o.kind o.tag o.fields.length o.text.size = true from HMAY.out] at CM
                  have CR := Lib.hid (fun d os => quiet_ext (rwords_yes o.kind o.tag o.fields.length co qo o.text (Go.Sort.grow (redrawn W8 d) os) HMAY.out))
                  rw [show 1 + bodyK o.kind o.fields.length o.text.size = wo from HWO.out] at CR
                  have hnum := HKk.out.d.nums
                  obtain ⟨-, -, -, hnum4, -⟩ := hnum
                  have HY := Lib.hid (And.intro v3 (And.intro y3 trivial))
                  clear z0 z1 z2 z3 y0 y1 y2 y3 v0 v1 v2 v3 hwo2
                  refine wp_region_quiet_below (by kernel_rfl) (by kernel_rfl) ?_
                  repeat (first | go_big_quiet_step (first | exact CM.out _ _ | exact CR.out _ _) | quiet_step (first | exact CM.out _ _ | exact CR.out _ _))
                  refine wpQuiet_nil ?_
                  intro _ hw'
                  obtain ⟨⟨dq, osq⟩, hw''⟩ := hw'
                  subst hw''
                  obtain ⟨W9, hW9, hx9⟩ : ∃ W9, W9 = Go.Sort.grow (redrawn W8 dq) osq ∧ Ext W8 W9 := ⟨_, rfl, Ext.regrown W8 dq osq⟩
                  rw [← hW9]
                  have HK9 := Lib.hid (HK8.out.ext hx9)
                  have HV9 := Lib.hid (HV8.out.ext hx9)
                  have HOB9 := Lib.hid (HOB8.out.ext hx9)
                  have b15 := (Below.block hx9 _ (Array.getElem?_eq_some_iff.1 b8'').1).trans b8''
                  have b17 := (Below.block hx9 _ (Array.getElem?_eq_some_iff.1 b8').1).trans b8'
                  clear hW9 hx9 rz0 rz1 rz2 rz3 ry3 CM CR HK8 HV8 HOB8 b8'' b8' HY
                  go_upto_region 24 with fail
                  obtain ⟨z0, z1, z2, z3⟩ := cells4 b15
                  obtain ⟨y0, y1, y2, y3⟩ := cells4 HK9.out.hp
                  obtain ⟨v0, v1, v2, v3⟩ := cells4 b17
                  have rz0 := fun d os => cell_regrown z0 d os
                  have rz1 := fun d os => cell_regrown z1 d os
                  have rz2 := fun d os => cell_regrown z2 d os
                  have rz3 := fun d os => cell_regrown z3 d os
                  have ry3 := fun d os => cell_regrown (show W9.cell? ⟨t1, 3, none⟩ = some (.int .i64 (tn : Int)) from y3) d os
                  have rv3 := fun d os => cell_regrown (show W9.cell? ⟨t17, 3, none⟩ = some (.int .i64 ((tn : Int) + ((wo : Nat) : Int))) from v3) d os
                  have CP := Lib.hid (fun d os => quiet_same (CP0.out (Go.Sort.grow (redrawn W9 d) os)))
                  have CW := Lib.hid (fun d os => quiet_ext (owords_yes o.kind o.tag o.fields.length co qo o.text (Go.Sort.grow (redrawn W9 d) os) (by omega) HMAY.out))
                  rw [show 1 + bodyK o.kind o.fields.length o.text.size = wo from HWO.out] at CW
                  have hkb : (kk != kk) = false := by simp
                  have hwb : ((tn : Int) + ((wo : Nat) : Int) != (tn : Int) + ((wo : Nat) : Int)) = false := by simp
                  clear z0 z1 z2 z3 y0 y1 y2 y3 v0 v1 v2 v3
                  refine wp_region_quiet_below (by kernel_rfl) (by kernel_rfl) ?_
                  repeat (first | go_big_quiet_step (first | exact CP.out _ _ | exact CW.out _ _) | quiet_step (first | exact CP.out _ _ | exact CW.out _ _))
                  refine wpQuiet_nil ?_
                  intro _ hw'
                  obtain ⟨⟨dq2, osq2⟩, hw''⟩ := hw'
                  subst hw''
                  obtain ⟨W10, hW10, hx10⟩ : ∃ W10, W10 = Go.Sort.grow (redrawn W9 dq2) osq2 ∧ Ext W9 W10 := ⟨_, rfl, Ext.regrown W9 dq2 osq2⟩
                  rw [← hW10]
                  have HK10 := Lib.hid (HK9.out.ext hx10)
                  have HV10 := Lib.hid (HV9.out.ext hx10)
                  have HOB10 := Lib.hid (HOB9.out.ext hx10)
                  have b15' := (Below.block hx10 _ (Array.getElem?_eq_some_iff.1 b15).1).trans b15
                  have b17' := (Below.block hx10 _ (Array.getElem?_eq_some_iff.1 b17).1).trans b17
                  clear hW10 hx10 rz0 rz1 rz2 rz3 ry3 rv3 CP CW HK9 HV9 HOB9 b15 b17
                  obtain ⟨y0, y1, y2, y3⟩ := cells4 HK10.out.hp
                  obtain ⟨v0, v1, v2, v3⟩ := cells4 b17'
                  have f0 := free_at HK10.out.hp (i := 0)
                  have f1 := free_at HK10.out.hp (i := 1)
                  have f2 := free_at HK10.out.hp (i := 2)
                  have f3 := free_at HK10.out.hp (i := 3)
                  go_upto_region 27 with fail
                  refine wp_fill4 HK10.out.hp fun W11 c11 hT11 hS11 => ?_
                  have HK11 := Lib.hid (HK10.out.fill (h' := heapB n (tn + ((wo : Nat) : Int))) c11 hT11)
                  have HV11 := Lib.hid (HV10.out.low hT11 (by omega))
                  have ht1q : t1 < wq.heap.size := (Array.getElem?_eq_some_iff.1 HK.out.k.hp).1
                  have HOB11 := Lib.hid (HOB10.out.low hT11 (by omega))
                  have b15 := hT11.keep b15' (by omega)
                  clear hS11 c11 hT11 HK10 HV10 HOB10 b15' b17' y0 y1 y2 y3 v0 v1 v2 v3 f0 f1 f2 f3
                  have HROW := Lib.hid (show RowO W11 (t1 + 1) (.slice qw Hs.length cw) ⟨o.kind, o.tag, F, o.text⟩ [.int .i64 o.kind, .int .i64 o.tag, .slice qo o.fields.length co, .string o.text] from ⟨qo, co, by dsimp only; rw [HFL.out], by dsimp only; rw [HFL.out]; exact HOB11.out.mono (by omega), fun b hb e => by
                    dsimp only at hb
                    rw [HFL.out] at hb
                    have h1 := (HOWN.out b hb).1
                    have h2 := (HK.out.v.wd.own b e).2
                    omega⟩)
                  have hW11 : t1 < W11.heap.size := (Array.getElem?_eq_some_iff.1 HK11.out.hp).1
                  have hlen := HK.out.v.len
                  have HLEN := Lib.hid hlen
                  have hH30 : Hs.length ≤ 30 := by omega
                  obtain ⟨z0, z1, z2, z3⟩ := cells4 b15
                  clear hlen
                  have n15 := (Array.getElem?_eq_some_iff.1 b15).1
                  go_region_law (first
                    | (refine step_append_rows E64 (by rfl) _ _ (by rfl) (t1 + 1) (.slice qw Hs.length cw) _ ((wdL Hs).map wordC) [wordC kk] (by rfl) (HV11.out.wd.ext (by first | exact Ext.alloc _ _ | exact (Ext.alloc _ _).trans (Ext.alloc _ _) | exact (Ext.drew _).trans (Ext.alloc _ _) | exact ((Ext.drew _).trans (Ext.alloc _ _)).trans (Ext.alloc _ _))) (by rfl) (rows_of_block (cs := #[.int .u64 kk]) (by first | exact heap_alloc_new _ _ | exact (blocks2 _ _ _).2.2.2 | exact (Below.block (Ext.alloc _ _) _ (by first | (simp; done) | (simp; omega))).trans (heap_alloc_new _ _)) rfl (by intro u hu; simp at hu; subst hu; rfl)) (by simp [wdL_len]; unfold maxLen; omega) (by simp [wdL_len]; omega) (by simp; omega) ?_; intro va wa hoa hga hba hna; have hw := hv_words HV11.out (by first | exact Ext.alloc _ _ | exact (Ext.alloc _ _).trans (Ext.alloc _ _) | exact (Ext.drew _).trans (Ext.alloc _ _) | exact ((Ext.drew _).trans (Ext.alloc _ _)).trans (Ext.alloc _ _)) hga hba; have b15a := (hw.1.block t15 (Array.getElem?_eq_some_iff.1 b15).1 (fun e => HV11.out.wd.not_at b15 (by decide) e.symm)).trans b15; obtain ⟨k0, k1, k2, k3⟩ := cells4 b15a; have hsza := hw.1.size;
                        (try (have nbB : wa.heap[W11.heap.size]? = some (Obj.cells #[.int .i64 o.kind, .int .i64 o.tag, .slice qo o.fields.length co, .string o.text] 28 (0, 0)) := (hga.block _ (by first | (simp; done) | (simp; omega)) (fun e => by have := (HV11.out.wd.own _ e.symm).2; omega)).trans ((Below.block (Ext.alloc _ _) _ (by first | (simp; done) | (simp; omega))).trans (heap_alloc_new _ _)))); (try (have nbB : wa.heap[W11.heap.size + 1]? = some (Obj.cells #[.int .i64 o.kind, .int .i64 o.tag, .slice qo o.fields.length co, .string o.text] 28 (0, 0)) := (hga.block _ (by first | (simp; done) | (simp; omega)) (fun e => by have := (HV11.out.wd.own _ e.symm).2; omega)).trans (blocks2 _ _ _).2.2.2)))
                    | (refine step_append_rows EObj (by rfl) _ _ (by rfl) (t1 + 1) (.slice qh Hs.length ch) _ rows [[.int .i64 o.kind, .int .i64 o.tag, .slice qo o.fields.length co, .string o.text]] (by rfl) (hw.2.1.ext (by first | exact Ext.refl _ | exact Ext.alloc _ _ | exact Ext.drew _ | exact (Ext.drew _).trans (Ext.alloc _ _))) (by rfl) (rows_of_block (cs := #[.int .i64 o.kind, .int .i64 o.tag, .slice qo o.fields.length co, .string o.text]) (by first | exact heap_alloc_new _ _ | exact nbB) rfl (by intro u hu; simp at hu; rcases hu with rfl | rfl | rfl | rfl <;> rfl)) (by rw [HLEN.out]; first | omega | (simp; unfold maxLen; omega)) (by rw [HLEN.out]; first | omega | (simp; omega)) (by first | omega | (simp; omega)) ?_; intro vb wb hob hgb hbb hnb))
                  all_goals
                    have h0w : w1.heap.size ≤ t1 := by have := HT0.out; omega
                    have hfinB : Bk w1 wb p g bm t0 t1 q m n ((tn : Int) + ((wo : Nat) : Int)) ws' (Hs ++ [(tn, ⟨o.kind, o.tag, F, o.text⟩)]) va vb (rows ++ [[.int .i64 o.kind, .int .i64 o.tag, .slice qo o.fields.length co, .string o.text]]) := by
                      refine ⟨?_, HD'.out, hv_both (by rw [wdL_put, List.map_append, ← HKKE.out]; exact hoa) hw.2.1 HLEN.out hw.2.2.1 (hw.2.2.2 _ _ HROW.out) (by first | exact Ext.refl _ | exact Ext.alloc _ _ | exact Ext.drew _ | exact (Ext.drew _).trans (Ext.alloc _ _)) hgb hob⟩
                      exact ((HK11.out.grown hw.1 (fun b hb => (HV11.out.wd.own b hb).1) h0w).ext (by first | exact Ext.refl _ | exact Ext.alloc _ _ | exact Ext.drew _ | exact (Ext.drew _).trans (Ext.alloc _ _))).grown hgb (fun b hb => (HV11.out.hv.own b hb).1) h0w
                    have HFB := Lib.hid hfinB
                    clear hfinB hoa hga hba hna hw hob hgb hbb hnb b15a k0 k1 k2 k3 z0 z1 z2 z3
                    go_wp2
                    exact ⟨⟨j + 1, ws', _, _, _, by omega, by go_num, by simp; omega, HFB.out⟩, by simp [intOf]; omega⟩
                · have HMAY := Lib.hid hmay
                  have hrow := HOk.out.rowStay (g := g) (by have := HK.out.k.a.lt; omega)
                  have hput := put_nay (w := wr) HKk.out.k.a (heapB n tn) (show (Lit.int .i64 (3 : Int)).wf = true by decide) HKk.out.d.w64 ⟨o.kind, o.tag, F, o.text⟩ co qo (by dsimp only; rw [HFL.out]; exact hrow) HF64.out (by dsimp only; rw [HFL.out]; omega) (by rw [hpb]; simp only [Bool.and_eq_false_iff, decide_eq_false_iff_not]; exact .inr hfit)
                  dsimp only at hput
                  rw [HFL.out] at hput
                  have HPUT := Lib.hid hput
                  clear hput hrow
                  obtain ⟨x0, x1⟩ := cells2 HKk.out.k.two
                  obtain ⟨y0, y1, y2, y3⟩ := cells4 HKk.out.k.hp
                  go_wp2_with fail
                  refine HPUT.out.mono ?_
                  rintro e w7 ⟨rfl, hA7, hT7⟩
                  have hglow : g < t0 ∧ t0 < t1 := by have := HK.out.k.lt; omega
                  have HK7 := Lib.hid (show Bk w1 w7 p g bm t0 t1 q m n tn ws Hs (.slice qw Hs.length cw) (.slice qh Hs.length ch) rows from ⟨HKk.out.k.put hA7 hT7, HKk.out.d, HKk.out.v.low hT7 (by omega)⟩)
                  have b7 := hT7.keep HB15.out (by omega)
                  clear hA7 hT7 HPUT x0 x1 y0 y1 y2 y3
                  go_upto_region 21 with fail
                  refine wp_alloc1 fun W8 hE8 hS8 b8' => ?_
                  have HK8 := Lib.hid (HK7.out.ext hE8)
                  have b8'' := (Below.block hE8 _ (Array.getElem?_eq_some_iff.1 b7).1).trans b7
                  clear hE8 hS8 b8' HK7 b7
                  obtain ⟨z0, z1, z2, z3⟩ := cells4 b8''
                  obtain ⟨y0, y1, y2, y3⟩ := cells4 HK8.out.k.hp
                  have rz0 := fun d os => cell_regrown z0 d os
                  have rz1 := fun d os => cell_regrown z1 d os
                  have rz2 := fun d os => cell_regrown z2 d os
                  have rz3 := fun d os => cell_regrown z3 d os
                  have ry3 := fun d os => cell_regrown (show W8.cell? ⟨t1, 3, none⟩ = some (.int .i64 (tn : Int)) from y3) d os
                  have CM := Lib.hid (fun d os => quiet_ext (refmay_is o.kind o.tag o.fields.length co qo o.text (Go.Sort.grow (redrawn W8 d) os)))
                  rw [show mayK o.kind o.tag o.fields.length o.text.size = true from HMAY.out] at CM
                  have CR := Lib.hid (fun d os => quiet_ext (rwords_yes o.kind o.tag o.fields.length co qo o.text (Go.Sort.grow (redrawn W8 d) os) HMAY.out))
                  rw [show 1 + bodyK o.kind o.fields.length o.text.size = wordsO o from rfl] at CR
                  have hnum := HKk.out.d.nums
                  obtain ⟨-, -, -, hnum4, -⟩ := hnum
                  have dfit : n < (tn : Int) + ((wordsO o : Nat) : Int) := by omega
                  have hwb := (HKk.out.d.nums)
                  have hw4 : wordsO o ≤ 401 := by
                    have hb := (mayK_bounds (show mayK o.kind o.tag o.fields.length o.text.size = true from HMAY.out)).2.2.2.2.2.2.2
                    unfold wordsO
                    omega
                  generalize wordsO o = wo at *
                  clear z0 z1 z2 z3 y0 y1 y2 y3 hpb hfit
                  refine wp_region_quiet_below (by kernel_rfl) (by kernel_rfl) ?_
                  repeat (first | go_big_quiet_step (first | exact CM.out _ _ | exact CR.out _ _) | quiet_step (first | exact CM.out _ _ | exact CR.out _ _))
                  refine wpQuiet_nil ?_
                  intro _ hw'
                  obtain ⟨⟨dq, osq⟩, hw''⟩ := hw'
                  subst hw''
                  obtain ⟨W9, hW9, hx9⟩ : ∃ W9, W9 = Go.Sort.grow (redrawn W8 dq) osq ∧ Ext W8 W9 := ⟨_, rfl, Ext.regrown W8 dq osq⟩
                  rw [← hW9]
                  have HK9 := Lib.hid (HK8.out.ext hx9)
                  clear hW9 hx9 rz0 rz1 rz2 rz3 ry3 CM HK8 b8''
                  go_wp2
                  exact ⟨⟨j + 1, ws, tn, Hs, rows, by omega, by go_num, by omega, HK9.out⟩, by simp [intOf]; omega⟩
              · have hmay : mayO o = false := by cases e : mayO o with | true => exact absurd e hmay | false => rfl
                have HMAY := Lib.hid hmay
                have hrow := HOk.out.rowStay (g := g) (by have := HK.out.k.a.lt; omega)
                have hput := put_nay (w := wr) HKk.out.k.a (heapB n tn) (show (Lit.int .i64 (3 : Int)).wf = true by decide) HKk.out.d.w64 ⟨o.kind, o.tag, F, o.text⟩ co qo (by dsimp only; rw [HFL.out]; exact hrow) HF64.out (by dsimp only; rw [HFL.out]; omega) (by rw [hpb]; simp only [Bool.and_eq_false_iff, decide_eq_false_iff_not]; exact .inl hmay)
                dsimp only at hput
                rw [HFL.out] at hput
                have HPUT := Lib.hid hput
                clear hput hrow
                obtain ⟨x0, x1⟩ := cells2 HKk.out.k.two
                obtain ⟨y0, y1, y2, y3⟩ := cells4 HKk.out.k.hp
                go_wp2_with fail
                refine HPUT.out.mono ?_
                rintro e w7 ⟨rfl, hA7, hT7⟩
                have hglow : g < t0 ∧ t0 < t1 := by have := HK.out.k.lt; omega
                have HK7 := Lib.hid (show Bk w1 w7 p g bm t0 t1 q m n tn ws Hs (.slice qw Hs.length cw) (.slice qh Hs.length ch) rows from ⟨HKk.out.k.put hA7 hT7, HKk.out.d, HKk.out.v.low hT7 (by omega)⟩)
                have b7 := hT7.keep HB15.out (by omega)
                clear hA7 hT7 HPUT x0 x1 y0 y1 y2 y3
                go_upto_region 21 with fail
                refine wp_alloc1 fun W8 hE8 hS8 b8' => ?_
                have HK8 := Lib.hid (HK7.out.ext hE8)
                have b8'' := (Below.block hE8 _ (Array.getElem?_eq_some_iff.1 b7).1).trans b7
                clear hE8 hS8 b8' HK7 b7
                obtain ⟨z0, z1, z2, z3⟩ := cells4 b8''
                obtain ⟨y0, y1, y2, y3⟩ := cells4 HK8.out.k.hp
                have rz0 := fun d os => cell_regrown z0 d os
                have rz1 := fun d os => cell_regrown z1 d os
                have rz2 := fun d os => cell_regrown z2 d os
                have rz3 := fun d os => cell_regrown z3 d os
                have ry3 := fun d os => cell_regrown (show W8.cell? ⟨t1, 3, none⟩ = some (.int .i64 (tn : Int)) from y3) d os
                have CM := Lib.hid (fun d os => quiet_ext (refmay_is o.kind o.tag o.fields.length co qo o.text (Go.Sort.grow (redrawn W8 d) os)))
                rw [show mayK o.kind o.tag o.fields.length o.text.size = false from HMAY.out] at CM
                clear z0 z1 z2 z3 y0 y1 y2 y3 hpb
                refine wp_region_quiet_below (by kernel_rfl) (by kernel_rfl) ?_
                repeat (first | go_big_quiet_step (exact CM.out _ _) | quiet_step (exact CM.out _ _))
                refine wpQuiet_nil ?_
                intro _ hw'
                obtain ⟨⟨dq, osq⟩, hw''⟩ := hw'
                subst hw''
                obtain ⟨W9, hW9, hx9⟩ : ∃ W9, W9 = Go.Sort.grow (redrawn W8 dq) osq ∧ Ext W8 W9 := ⟨_, rfl, Ext.regrown W8 dq osq⟩
                rw [← hW9]
                have HK9 := Lib.hid (HK8.out.ext hx9)
                clear hW9 hx9 rz0 rz1 rz2 rz3 ry3 CM HK8 b8''
                go_wp2
                exact ⟨⟨j + 1, ws, tn, Hs, rows, by omega, by go_num, by omega, HK9.out⟩, by simp [intOf]; omega⟩
        -->>A
      · obtain rfl : j = L.length := by omega
        clear hlt
        generalize wr = wq at *
        go_wp2_with fail
        go_loopw [20] (fun i wx => ∃ (k : Nat) (ws' : List Int) (Hs' : List (Nat × Ob)) (rows' : List (List Value)), k ≤ S.length ∧ i = .int .i64 k ∧ Hs'.length = Hs.length ∧ Bk w1 wx p g bm t0 t1 q m n tn ws' Hs' (.slice qw Hs.length cw) (.slice qh Hs.length ch) rows') (fun i _ => S.length - (intOf i).toNat)
        case atStart => exact ⟨0, _, _, _, by omega, rfl, rfl, HK.out⟩
        case round =>
          obtain ⟨k, ws', Hs', rows', hk, rfl, hHl, hB'⟩ := hrel
          have HB := Lib.hid hB'; have HHL := Lib.hid hHl
          have hxw2 := hB'.done HX1.out hgw (by have := HT0.out; omega)
          have HXW2 := Lib.hid hxw2
          clear hB' hHl
          by_cases hgo : k < S.length ∧ 0 < Hs.length
          · as_aux_lemma => --<<B
            obtain ⟨hk1, hh1'⟩ := hgo
            have i1 : (k : Int) < (S.length : Int) := by omega
            have H8 := Lib.hid (HS8.out _ (List.getElem_mem hk1))
            obtain ⟨q9, c9, e1, -, -, hcell⟩ := HS.out
            obtain ⟨rfl, -, rfl⟩ := Value.slice.inj e1
            obtain ⟨-, b9, off9, rfl, hc9⟩ := hcell k [.int .u8 (S[k]).1, .int .u8 (S[k]).2.1, .int .u8 (S[k]).2.2] (by rw [List.getElem?_map, List.getElem?_eq_getElem hk1]; rfl)
            clear hcell e1
            generalize S[k] = sk at *
            obtain ⟨s0v, s1v, s2v⟩ := sk
            have s0 := hxw2.cell (hc9 0 _ rfl)
            have s1 := hxw2.cell (hc9 1 _ rfl)
            have s2 := hxw2.cell (hc9 2 _ rfl)
            dsimp only at s0 s1 s2
            rw [Nat.add_zero] at s0
            have h8 := H8.out
            dsimp only at h8
            obtain ⟨⟨g0, g1⟩, ⟨g2, g3⟩, ⟨g4, g5⟩⟩ := h8
            have hh2 : (0 : Int) < (Hs.length : Int) := by omega
            obtain ⟨kn, hkn⟩ := Int.eq_ofNat_of_zero_le (Int.emod_nonneg s0v (show (Hs.length : Int) ≠ 0 by omega))
            have hkl : kn < Hs.length := by have := Int.emod_lt_of_pos s0v hh2; omega
            obtain ⟨vn, hvn⟩ := Int.eq_ofNat_of_zero_le (Int.emod_nonneg s2v (show (Hs.length : Int) ≠ 0 by omega))
            have hvl : vn < Hs.length := by have := Int.emod_lt_of_pos s2v hh2; omega
            clear hc9 hxw2
            have hkl' : kn < Hs'.length := by rw [HHL.out]; exact hkl
            have hvl' : vn < Hs'.length := by rw [HHL.out]; exact hvl
            obtain ⟨gw, rfl, hgw1, hcv, -⟩ := HB.out.v.wd.cell (i := vn) (f := 0) (cs := wordC ((2 * (Hs'[vn]).1 : Nat) : Int)) (u := .int .u64 ((2 * (Hs'[vn]).1 : Nat) : Int)) (by rw [List.getElem?_map, wdL_at hvl']; rfl) rfl
            obtain ⟨gw', e1, -, hck, -⟩ := HB.out.v.wd.cell (i := kn) (f := 0) (cs := wordC ((2 * (Hs'[kn]).1 : Nat) : Int)) (u := .int .u64 ((2 * (Hs'[kn]).1 : Nat) : Int)) (by rw [List.getElem?_map, wdL_at hkl']; rfl) rfl
            obtain rfl : gw' = gw := by
              obtain ⟨rfl, _⟩ := Addr.mk.inj (Option.some.inj e1)
              rfl
            rw [Nat.add_zero, Nat.mul_one] at hcv hck
            clear e1
            have HWV := Lib.hid (show ((2 * (Hs'[vn]).1 : Nat) : Int) ∈ wdL Hs' from List.mem_of_getElem? (wdL_at hvl'))
            have HWK := Lib.hid (show ((2 * (Hs'[kn]).1 : Nat) : Int) ∈ wdL Hs' from List.mem_of_getElem? (wdL_at hkl'))
            obtain ⟨wv, hwv⟩ : ∃ wv : Int, wv = ((2 * (Hs'[vn]).1 : Nat) : Int) := ⟨_, rfl⟩
            obtain ⟨wk, hwk⟩ : ∃ wk : Int, wk = ((2 * (Hs'[kn]).1 : Nat) : Int) := ⟨_, rfl⟩
            rw [← hwv] at hcv HWV
            rw [← hwk] at hck HWK
            have HWKE := Lib.hid hwk
            clear hwv hwk
            have i2 : (vn : Int) < (Hs.length : Int) := by omega
            have i3 : (kn : Int) < (Hs.length : Int) := by omega
            go_upto_region 34 with fail
            have HSE := Lib.hid (fun W (e : Ext wr W) => oset_is (HB.out.k.ext e).a (heapB n tn) (show (Lit.int .i64 (3 : Int)).wf = true by decide) HB.out.d.w64 (x := wk) (v := wv) (i := s1v) (wdL_64 HB.out.d _ HWK.out) (wdL_64 HB.out.d _ HWV.out) (WalkArith.wf_i64 (by omega)))
            obtain ⟨x0, x1⟩ := cells2 HB.out.k.two
            obtain ⟨y0, y1, y2, y3⟩ := cells4 HB.out.k.hp
            have hg0 : g < t0 ∧ t0 < t1 ∧ t1 < gw' := by have := HB.out.k.lt; omega
            go_region_held3 (fun w' => w'.cell? ⟨t0, 0, none⟩ = some (.pointer (some ⟨p, 0, none⟩)) ∧ w'.cell? ⟨t1, 0, none⟩ = some (.int .i64 (heapB n tn).base) ∧ w'.cell? ⟨t1, 1, none⟩ = some (.int .i64 (heapB n tn).half) ∧ w'.cell? ⟨t1, 2, none⟩ = some (.int .i64 (heapB n tn).space) ∧ w'.cell? ⟨t1, 3, none⟩ = some (.int .i64 (heapB n tn).top) ∧
                w'.cell? ⟨gw', kn, none⟩ = some (.int .u64 wk))
              (first | go_keep | exact hkp9)
              (first
                | (go_at_call 28; refine (HSE.out _ (by first | exact Ext.refl _ | exact Ext.drew _)).mono ?_; rintro e w9 ⟨rfl, hA9, hT9⟩; have hkp9 := And.intro (hT9.cell (by simp; omega) x0) (And.intro (hT9.cell (by simp; omega) y0) (And.intro (hT9.cell (by simp; omega) y1) (And.intro (hT9.cell (by simp; omega) y2) (And.intro (hT9.cell (by simp; omega) y3) (hT9.cell (by simp; omega) hck)))))))
            have HA9 := Lib.hid hA9; have HT9 := Lib.hid (show Turn [g] wr w9 by first | exact hT9 | exact (Turn.of_ext (Ext.drew wr)).trans hT9)
            clear hkp9 hA9 hT9 x0 x1 y0 y1 y2 y3 hck hcv s0 s1 s2 HSE
            obtain ⟨yk, hyk⟩ : ∃ yk, Hs'[kn]? = some yk := ⟨_, List.getElem?_eq_getElem hkl'⟩
            have hyk2 : Hs'[kn] = yk := by rw [List.getElem?_eq_getElem hkl'] at hyk; exact Option.some.inj hyk
            have hrl' : kn < rows'.length := by rw [HB.out.v.len]; exact hkl'
            obtain ⟨rk, hrk⟩ : ∃ rk, rows'[kn]? = some rk := ⟨_, List.getElem?_eq_getElem hrl'⟩
            obtain ⟨qk, ck, rfl, hOk, hDk⟩ := HB.out.v.row kn yk rk hyk hrk
            have HV9 := Lib.hid (HB.out.v.low HT9.out (by omega))
            obtain ⟨gh, rfl, hgh1, hc0, hf0⟩ := HV9.out.hv.cell (i := kn) (f := 0) hrk rfl
            obtain ⟨gh1, e1, -, hc1, hf1⟩ := HV9.out.hv.cell (i := kn) (f := 1) hrk rfl
            obtain ⟨gh2, e2, -, hc2', hf2⟩ := HV9.out.hv.cell (i := kn) (f := 2) hrk rfl
            obtain ⟨gh3, e3, -, hc3, hf3⟩ := HV9.out.hv.cell (i := kn) (f := 3) hrk rfl
            obtain rfl : gh1 = gh := by obtain ⟨h, _⟩ := Addr.mk.inj (Option.some.inj e1); exact h.symm
            obtain rfl : gh2 = gh1 := by obtain ⟨h, _⟩ := Addr.mk.inj (Option.some.inj e2); exact h.symm
            obtain rfl : gh3 = gh2 := by obtain ⟨h, _⟩ := Addr.mk.inj (Option.some.inj e3); exact h.symm
            clear e1 e2 e3
            rw [Nat.add_zero] at hc0 hf0
            have HOK := Lib.hid hOk; have HDK := Lib.hid hDk; have HRK := Lib.hid hrk; have HYK := Lib.hid hyk; have HY2 := Lib.hid hyk2
            have hfy := HB.out.d.fit yk (List.mem_of_getElem? hyk)
            have hflen : yk.2.fields.length ≤ 400 := (mayK_bounds (show mayK yk.2.kind yk.2.tag yk.2.fields.length yk.2.text.size = true from hfy.2)).2.2.2.2.1
            have hckc : yk.2.fields.length ≤ ck ∧ ck ≤ 9223372036854775807 := by
              obtain ⟨_, _, e9, h1, h2⟩ := hOk.len
              rw [List.length_map] at h1
              obtain ⟨_, _, rfl⟩ := Value.slice.inj e9
              unfold maxLen at h2
              exact ⟨h1, h2⟩
            obtain ⟨hck1, hck2⟩ := hckc
            clear hOk hDk hrk hyk hyk2 hfy
            by_cases hset : s1v < (yk.2.fields.length : Int)
            · have hyes := HB.out.d.set_yes hkl' (i := s1v) (v := wv) g2 (by rw [HY2.out]; exact hset) HWV.out (wdL_64 HB.out.d _ HWV.out)
              rw [← HWKE.out] at hyes
              rw [HY2.out] at hyes
              obtain ⟨hs1, hD⟩ := hyes
              have hA := HA9.out
              rw [hs1]
              rw [show (heapB n tn).base = 3 from rfl] at hA
              generalize wsOf ws' (rigR m) 3 (setAt ws' (rigR m) (heapB n tn) wk s1v wv) wv = wsn at hA hD
              have HA := Lib.hid hA; have HD := Lib.hid hD
              have HO9 := Lib.hid (HOK.out.low HT9.out (by omega))
              clear hA hD hs1
              go_wp2_with fail
              refine (own_object HO9.out.p (by omega)).mono ?_
              rintro e w10 ⟨vo, rfl, hoo, hx10⟩
              obtain ⟨go, co, rfl, hgo1, hgo2, hco1, hco2⟩ := hoo.at_blk (by rw [List.length_map]; omega)
              rw [List.length_map] at hco1 hoo ⊢
              have HV10 := Lib.hid (HV9.out.ext hx10)
              have HX10 := Lib.hid hx10
              have HOO := Lib.hid hoo
              unfold maxLen at hco2
              clear hx10 hoo hc0 hc1 hc2' hc3 hf0 hf1 hf2 hf3
              obtain ⟨ga, e0, -, hc0, hf0⟩ := HV10.out.hv.cell (i := kn) (f := 0) HRK.out rfl
              obtain ⟨gb, e1, -, hc1, hf1⟩ := HV10.out.hv.cell (i := kn) (f := 1) HRK.out rfl
              obtain ⟨gc, e2, -, hc2', hf2⟩ := HV10.out.hv.cell (i := kn) (f := 2) HRK.out rfl
              obtain ⟨gd, e3, -, hc3, hf3⟩ := HV10.out.hv.cell (i := kn) (f := 3) HRK.out rfl
              obtain rfl : ga = gh3 := by obtain ⟨h, _⟩ := Addr.mk.inj (Option.some.inj e0); exact h.symm
              obtain rfl : gb = ga := by obtain ⟨h, _⟩ := Addr.mk.inj (Option.some.inj e1); exact h.symm
              obtain rfl : gc = gb := by obtain ⟨h, _⟩ := Addr.mk.inj (Option.some.inj e2); exact h.symm
              obtain rfl : gd = gc := by obtain ⟨h, _⟩ := Addr.mk.inj (Option.some.inj e3); exact h.symm
              clear e0 e1 e2 e3
              rw [Nat.add_zero] at hc0 hf0
              have i6 : s1v < (yk.2.fields.length : Int) := hset
              go_upto_region 39 with fail
              refine wp_gen (fun W => Turn [gd] w10 W ∧ OwnP W (t1 + 1) 28 (.slice (some ⟨gd, 0, none⟩) Hs.length ch) 4 (rows'.set kn [.int .i64 yk.2.kind, .int .i64 yk.2.tag, .slice (some ⟨go, 0, none⟩) yk.2.fields.length co, .string yk.2.text])) ⟨((((Turn.refl [gd] w10).setCell (.inl (by simp)) _).setCell (.inl (by simp)) _).setCell (.inl (by simp)) _).setCell (.inl (by simp)) _, row_four HV10.out.hv HRK.out rfl rfl rfl rfl⟩ fun W11 hW11 => ?_
              obtain ⟨hT11, hO11⟩ := hW11
              have hgd9 : gd < w9.heap.size := (HV9.out.hv.own gd rfl).2
              have hgw9 : gw' < w9.heap.size := (HV9.out.wd.own gw' rfl).2
              have hoo11 := HOO.out.turn hT11 (fun b hb hm => by
                simp only [Value.ownBlock, Option.some.injEq] at hb
                rw [List.mem_singleton.1 hm] at hb
                omega)
              obtain ⟨fn, rfl⟩ := Int.eq_ofNat_of_zero_le g2
              have hfn : fn < yk.2.fields.length := by omega
              obtain ⟨gx, e0, -, hc2, hf2'⟩ := hO11.cell (i := kn) (f := 2) (by rw [List.getElem?_set_self hrl']) rfl
              obtain rfl : gx = gd := by obtain ⟨h, _⟩ := Addr.mk.inj (Option.some.inj e0); exact h.symm
              obtain ⟨gy, e1, -, hcg, hfg⟩ := hoo11.cell (i := fn) (f := 0) (cs := wordC (yk.2.fields[fn])) (by rw [List.getElem?_map, List.getElem?_eq_getElem hfn]; rfl) rfl
              obtain rfl : gy = go := by obtain ⟨h, _⟩ := Addr.mk.inj (Option.some.inj e1); exact h.symm
              rw [Nat.add_zero, Nat.mul_one] at hcg hfg
              have hst := hoo11.store (i := fn) (f := 0) (cs := wordC (yk.2.fields[fn])) (u := .int .u64 wv) (by rw [List.getElem?_map, List.getElem?_eq_getElem hfn]; rfl) (by omega) rfl
              rw [show (wordC (yk.2.fields[fn])).set 0 (.int .u64 wv) = wordC wv from rfl, ← List.map_set, Nat.add_zero, Nat.mul_one] at hst
              have hT12 := Turn.setCell (Turn.refl [gy] W11) (a := ⟨gy, fn, none⟩) (.inl (by simp)) (.int .u64 wv)
              have hgo3 : t1 < gy := by have := (Array.getElem?_eq_some_iff.1 (HB.out.k.put HA.out HT9.out).hp).1; omega
              have h0w : w1.heap.size ≤ t1 := by have := HT0.out; omega
              have hown12 := hO11.turn hT12 (fun b hb hm => by
                simp only [Value.ownBlock, Option.some.injEq] at hb
                rw [List.mem_singleton.1 hm] at hb
                omega)
              have hBf : Bk w1 (W11.setCell ⟨gy, fn, none⟩ (.int .u64 wv)) p g bm t0 t1 q m n tn wsn (Hs'.set kn (yk.1, { yk.2 with fields := yk.2.fields.set fn wv })) (.slice (some ⟨gw', 0, none⟩) Hs.length cw) (.slice (some ⟨gx, 0, none⟩) Hs.length ch) (rows'.set kn [.int .i64 yk.2.kind, .int .i64 yk.2.tag, .slice (some ⟨gy, 0, none⟩) yk.2.fields.length co, .string yk.2.text]) := by
                refine ⟨(((HB.out.k.put HA.out HT9.out).ext HX10.out).turnB hT11 (by have := (HV9.out.hv.own gx rfl).1; omega) h0w).turnB hT12 hgo3 h0w, ?_, ?_⟩
                · have := HD.out
                  rw [Int.toNat_natCast] at this
                  exact this
                · refine hv_set HV9.out HYK.out (((Turn.of_ext HX10.out).trans hT11).newer hT12 (by intro b hb; rw [List.mem_singleton.1 hb]; exact hgo1)) hown12 ?_
                  refine ⟨some ⟨gy, 0, none⟩, co, by dsimp only; rw [List.length_set], by dsimp only; rw [List.length_set]; exact hst.mono (by have := (Array.getElem?_eq_some_iff.1 (HB.out.k.put HA.out HT9.out).hp).1; omega), fun b hb e => ?_⟩
                  simp only [Value.ownBlock, Option.some.injEq] at hb e
                  omega
              have HBF := Lib.hid hBf
              clear hBf hst hT12 hown12 hT11 hO11 hoo11 hc0 hc1 hc2' hc3 hf0 hf1 hf2 hf3 e0 e1
              generalize yk.2.fields[fn] = fv at hcg
              go_wp2
              exact ⟨⟨k + 1, wsn, _, _, by omega, by go_num, by rw [List.length_set]; exact HHL.out, HBF.out⟩, by simp [intOf]; omega⟩
            · have hno := HB.out.d.set_no hkl' (i := s1v) (v := wv) (by rw [HY2.out]; omega)
              rw [← HWKE.out] at hno
              have hA := HA9.out
              rw [hno] at hA ⊢
              have HA := Lib.hid (show ArenaAt w9 p g bm (m + 10) ws' (rigR m) from hA)
              have i5 : ¬ s1v < (yk.2.fields.length : Int) := hset
              have HB9 := Lib.hid (show Bk w1 w9 p g bm t0 t1 q m n tn ws' Hs' (.slice (some ⟨gw', 0, none⟩) Hs.length cw) (.slice (some ⟨gh3, 0, none⟩) Hs.length ch) rows' from ⟨HB.out.k.put HA.out HT9.out, HB.out.d, HV9.out⟩)
              clear hA hno hset
              go_wp2
              exact ⟨⟨k + 1, ws', Hs', rows', by omega, by go_num, HHL.out, HB9.out⟩, by simp [intOf]; omega⟩
            -->>B
          · have hexit : (¬ k < S.length) ∨ (k < S.length ∧ ¬ 0 < Hs.length) := by omega
            have hh41 : Hs'.length = Hs.length := HHL.out
            clear hgo hxw2
            generalize wr = wz at *
            rcases hexit with hk1 | ⟨hk1, hz⟩
            · as_aux_lemma =>
              have hki : True := trivial
              go_wp2_with fail
              go_loopw [25] (fun i wx => ∃ (a : Nat), a ≤ Hs.length ∧ i = .int .i64 a ∧ Bk w1 wx p g bm t0 t1 q m n tn ws' Hs' (.slice qw Hs.length cw) (.slice qh Hs.length ch) rows') (fun i _ => Hs.length - (intOf i).toNat)
              case atStart => exact ⟨0, by omega, rfl, HB.out⟩
              case round =>
                obtain ⟨a, ha, rfl, hBa⟩ := hrel
                have HBA := Lib.hid hBa
                clear hBa
                by_cases hla : a < Hs.length
                · --<<C
                  rename_i a2 k2 wr2 u62 q3 k3 a1 k4 a4
                  clear a2 a1
                  have i7 : (a : Int) < (Hs.length : Int) := by omega
                  have hal : a < Hs'.length := by omega
                  obtain ⟨gw, rfl, hgw1, hca, -⟩ := HBA.out.v.wd.cell (i := a) (f := 0) (cs := wordC ((2 * (Hs'[a]).1 : Nat) : Int)) (u := .int .u64 ((2 * (Hs'[a]).1 : Nat) : Int)) (by rw [List.getElem?_map, wdL_at hal]; rfl) rfl
                  rw [Nat.add_zero, Nat.mul_one] at hca
                  have hmem : ((2 * (Hs'[a]).1 : Nat) : Int) ∈ wdL Hs' := List.mem_of_getElem? (wdL_at hal)
                  obtain ⟨wk, hwk⟩ : ∃ wk : Int, wk = ((2 * (Hs'[a]).1 : Nat) : Int) := ⟨_, rfl⟩
                  rw [← hwk] at hca hmem
                  have HGE := Lib.hid (get_later HBA.out (List.getElem_mem hal) hwk (wdL_64 HBA.out.d _ hmem))
                  have HYA := Lib.hid (List.getElem?_eq_getElem hal)
                  clear hwk hmem
                  generalize Hs'[a] = ya at *
                  obtain ⟨x0, x1⟩ := cells2 HBA.out.k.two
                  obtain ⟨y0, y1, y2, y3⟩ := cells4 HBA.out.k.hp
                  have n0 := (Array.getElem?_eq_some_iff.1 HBA.out.k.two).1
                  have n1 := (Array.getElem?_eq_some_iff.1 HBA.out.k.hp).1
                  have n2 := (HBA.out.v.wd.own gw rfl).2
                  go_upto_region 43 with fail
                  have HK0 := Lib.hid (show wr.cell? ⟨t0, 0, none⟩ = some (.pointer (some ⟨p, 0, none⟩)) ∧ wr.cell? ⟨t1, 0, none⟩ = some (.int .i64 (heapB n tn).base) ∧ wr.cell? ⟨t1, 1, none⟩ = some (.int .i64 (heapB n tn).half) ∧ wr.cell? ⟨t1, 2, none⟩ = some (.int .i64 (heapB n tn).space) ∧ wr.cell? ⟨t1, 3, none⟩ = some (.int .i64 (heapB n tn).top) ∧ wr.cell? ⟨gw, a, none⟩ = some (.int .u64 wk) from ⟨x0, y0, y1, y2, y3, hca⟩)
                  clear x0 x1 y0 y1 y2 y3 hca hh41
                  refine wp_region_noPanic ?_
                  refine wp_region_last 13 (S := (fun w' => w'.cell? ⟨t0, 0, none⟩ = some (.pointer (some ⟨p, 0, none⟩)) ∧ w'.cell? ⟨t1, 0, none⟩ = some (.int .i64 (heapB n tn).base) ∧ w'.cell? ⟨t1, 1, none⟩ = some (.int .i64 (heapB n tn).half) ∧ w'.cell? ⟨t1, 2, none⟩ = some (.int .i64 (heapB n tn).space) ∧ w'.cell? ⟨t1, 3, none⟩ = some (.int .i64 (heapB n tn).top) ∧ w'.cell? ⟨gw, a, none⟩ = some (.int .u64 wk))) (by kernel_rfl) (by kernel_rfl) _ rfl ?_ (fun hHeld => ?_)
                  · (first | with_reducible exact (Ext.drew _).cells6k HK0.out | with_reducible exact hkp9 | with_reducible exact (Ext.alloc _ _).cells6k hkp9 | with_reducible exact (Ext.trans (Ext.alloc _ _) (Ext.drew _)).cells6k HK0.out | with_reducible exact Ext.cells6k (Ext.trans (Ext.alloc _ _) (Ext.drew _)) HK0.out | exact cells6s hkp9 (by omega) (by omega) (by omega))
                  simp only [List.take_succ_cons, List.take_zero]
                  refine wpAnyH_take (i := 0) (v := ?v1) rfl (by kernel_rfl) (by kernel_rfl) (by kernel_rfl) (fun _ _ _ h => h) (Or.inl ⟨by rfl, ?y1⟩) (by assumption) ?r1
                  case y1 => intro w hSw; (try dsimp only at hSw); go_simp; (try with_reducible rfl)
                  (try simp only [Act.put, List.setIfInBounds_toArray, List.set_cons_zero, List.set_cons_succ, List.getElem_toArray, List.getElem_cons_zero, List.getElem_cons_succ])
                  refine wpAnyH_take (i := 1) (v := ?v2) rfl (by kernel_rfl) (by kernel_rfl) (by kernel_rfl) (fun _ _ _ h => h) (Or.inl ⟨by rfl, ?y2⟩) (by assumption) ?r2
                  case y2 => intro w hSw; (try dsimp only at hSw); go_simp; (try with_reducible rfl)
                  (try simp only [Act.put, List.setIfInBounds_toArray, List.set_cons_zero, List.set_cons_succ, List.getElem_toArray, List.getElem_cons_zero, List.getElem_cons_succ])
                  refine wpAnyH_take (i := 2) (v := ?v3) rfl (by kernel_rfl) (by kernel_rfl) (by kernel_rfl) (fun _ _ _ h => h) (Or.inl ⟨by rfl, ?y3⟩) (by assumption) ?r3
                  case y3 => intro w hSw; (try dsimp only at hSw); go_simp; (try with_reducible rfl)
                  (try simp only [Act.put, List.setIfInBounds_toArray, List.set_cons_zero, List.set_cons_succ, List.getElem_toArray, List.getElem_cons_zero, List.getElem_cons_succ])
                  refine wpAnyH_take (i := 3) (v := ?v4) rfl (by kernel_rfl) (by kernel_rfl) (by kernel_rfl) (fun _ _ _ h => h) (Or.inl ⟨by rfl, ?y4⟩) (by assumption) ?r4
                  case y4 => intro w hSw; (try dsimp only at hSw); go_simp; (try with_reducible rfl)
                  (try simp only [Act.put, List.setIfInBounds_toArray, List.set_cons_zero, List.set_cons_succ, List.getElem_toArray, List.getElem_cons_zero, List.getElem_cons_succ])
                  refine wpAnyH_take (i := 4) (v := ?v5) rfl (by kernel_rfl) (by kernel_rfl) (by kernel_rfl) (fun _ _ _ h => h) (Or.inl ⟨by rfl, ?y5⟩) (by assumption) ?r5
                  case y5 => intro w hSw; (try dsimp only at hSw); go_simp; (try with_reducible rfl)
                  (try simp only [Act.put, List.setIfInBounds_toArray, List.set_cons_zero, List.set_cons_succ, List.getElem_toArray, List.getElem_cons_zero, List.getElem_cons_succ])
                  refine wpAnyH_take (i := 5) (v := ?v6) rfl (by kernel_rfl) (by kernel_rfl) (by kernel_rfl) (fun _ _ _ h => h) (Or.inl ⟨by rfl, ?y6⟩) (by assumption) ?r6
                  case y6 => intro w hSw; (try dsimp only at hSw); go_simp; (try with_reducible rfl)
                  (try simp only [Act.put, List.setIfInBounds_toArray, List.set_cons_zero, List.set_cons_succ, List.getElem_toArray, List.getElem_cons_zero, List.getElem_cons_succ])
                  refine wpAnyH_take (i := 6) (v := ?v7) rfl (by kernel_rfl) (by kernel_rfl) (by kernel_rfl) (fun _ _ _ h => h) (Or.inl ⟨by rfl, ?y7⟩) (by assumption) ?r7
                  case y7 => intro w hSw; (try dsimp only at hSw); go_simp; (try with_reducible rfl)
                  (try simp only [Act.put, List.setIfInBounds_toArray, List.set_cons_zero, List.set_cons_succ, List.getElem_toArray, List.getElem_cons_zero, List.getElem_cons_succ])
                  refine wpAnyH_ready (rs := [7, 11]) (by kernel_rfl) (by simp) ?_
                  refine AllReadyH.cons rfl (fun K hK => ?_) (AllReadyH.cons rfl (fun K hK => ?_) (AllReadyH.nil))
                  · skip
                    go_simp
                    refine (HGE.out _ (Ext.drew _)).mono ?_
                    rintro e w9 ⟨qg, cg, rfl, hsg, hx9, -⟩
                    have hkp9 := hx9.cells6k HK0.out
                    refine hK.out _ _ ?s8 (fun hHeld => ?k8)
                    case s8 => ((try dsimp only); (first | with_reducible exact (Ext.drew _).cells6k HK0.out | with_reducible exact hkp9 | with_reducible exact (Ext.alloc _ _).cells6k hkp9 | with_reducible exact (Ext.trans (Ext.alloc _ _) (Ext.drew _)).cells6k HK0.out | with_reducible exact Ext.cells6k (Ext.trans (Ext.alloc _ _) (Ext.drew _)) HK0.out | exact cells6s hkp9 (by omega) (by omega) (by omega)))
                    clear hK K
                    (try simp only [Act.put, List.setIfInBounds_toArray, List.set_cons_zero, List.set_cons_succ, List.getElem_toArray, List.getElem_cons_zero, List.getElem_cons_succ])
                    refine wpAnyH_take (i := 8) (v := ?v9) rfl (by kernel_rfl) (by kernel_rfl) (by kernel_rfl) (fun _ _ _ h => h) (Or.inl ⟨by rfl, ?y9⟩) (by assumption) ?r9
                    case y9 => intro w hSw; (try dsimp only at hSw); go_simp; (try with_reducible rfl)
                    (try simp only [Act.put, List.setIfInBounds_toArray, List.set_cons_zero, List.set_cons_succ, List.getElem_toArray, List.getElem_cons_zero, List.getElem_cons_succ])
                    refine wpAnyH_take (i := 9) (v := ?v10) rfl (by kernel_rfl) (by kernel_rfl) (by kernel_rfl) (fun _ _ _ h => h) (Or.inl ⟨by rfl, ?y10⟩) (by assumption) ?r10
                    case y10 => intro w hSw; (try dsimp only at hSw); go_simp; (try with_reducible rfl)
                    (try simp only [Act.put, List.setIfInBounds_toArray, List.set_cons_zero, List.set_cons_succ, List.getElem_toArray, List.getElem_cons_zero, List.getElem_cons_succ])
                    refine wpAnyH_take (i := 10) (v := ?v11) rfl (by kernel_rfl) (by kernel_rfl) (by kernel_rfl) (fun _ _ _ h => h) (Or.inl ⟨by rfl, ?y11⟩) (by assumption) ?r11
                    case y11 => intro w hSw; (try dsimp only at hSw); go_simp; (try with_reducible rfl)
                    (try simp only [Act.put, List.setIfInBounds_toArray, List.set_cons_zero, List.set_cons_succ, List.getElem_toArray, List.getElem_cons_zero, List.getElem_cons_succ])
                    refine wpAnyH_ready (rs := [11]) (by kernel_rfl) (by simp) ?_
                    refine AllReadyH.cons rfl (fun K hK => ?_) AllReadyH.nil
                    go_simp
                    refine hK.out _ _ ?s12 (fun hHeld => ?k12)
                    case s12 => ((try dsimp only); (first | with_reducible exact (Ext.drew _).cells6k HK0.out | with_reducible exact hkp9 | with_reducible exact (Ext.alloc _ _).cells6k hkp9 | with_reducible exact (Ext.trans (Ext.alloc _ _) (Ext.drew _)).cells6k HK0.out | with_reducible exact Ext.cells6k (Ext.trans (Ext.alloc _ _) (Ext.drew _)) HK0.out | exact cells6s hkp9 (by omega) (by omega) (by omega)))
                    clear hK K
                    (try simp only [Act.put, List.setIfInBounds_toArray, List.set_cons_zero, List.set_cons_succ, List.getElem_toArray, List.getElem_cons_zero, List.getElem_cons_succ])
                    refine wpAnyH_ready (rs := [12]) (by kernel_rfl) (by simp) ?_
                    refine AllReadyH.cons rfl (fun K hK => ?_) AllReadyH.nil
                    go_simp
                    refine hK.out _ _ ?s13 (fun hHeld => ?k13)
                    case s13 => ((try dsimp only); (first | with_reducible exact (Ext.drew _).cells6k HK0.out | with_reducible exact hkp9 | with_reducible exact (Ext.alloc _ _).cells6k hkp9 | with_reducible exact (Ext.trans (Ext.alloc _ _) (Ext.drew _)).cells6k HK0.out | with_reducible exact Ext.cells6k (Ext.trans (Ext.alloc _ _) (Ext.drew _)) HK0.out | exact cells6s hkp9 (by omega) (by omega) (by omega)))
                    clear hK K
                    (try simp only [Act.put, List.setIfInBounds_toArray, List.set_cons_zero, List.set_cons_succ, List.getElem_toArray, List.getElem_cons_zero, List.getElem_cons_succ])
                    refine wpAnyH_done (by kernel_rfl) ?_ _
                    show wpList _ _ _ _ _ _
                    first
                      | (refine list_gen (fun W => GetEnd wr W wr.heap.size ya.2 qg cg) (GetEnd.fill hx9 hsg (Nat.le_refl _) (by simp) nb9) fun W11 hP => ?_; generalize hb11 : wr.heap.size = b11 at hP ⊢)
                      | (refine list_gen (fun W => GetEnd wr W w9.heap.size ya.2 qg cg) (GetEnd.made hx9 hsg) fun W11 hP => ?_; generalize hb11 : w9.heap.size = b11 at hP ⊢)
                    have HP := Lib.hid hP
                    have HB11 := Lib.hid (HBA.out.ext hP.x)
                    clear hP hb11 hsg hkp9 hHeld HGE HK0
                    go_wp2
                    refine NoPanic.normal ?_
                    go_upto_region 44 with fail
                    obtain ⟨e0, e1, e2, e3⟩ := cells4 HP.out.blk
                    obtain ⟨ra, hra⟩ : ∃ r, rows'[a]? = some r := ⟨_, List.getElem?_eq_getElem (by rw [HB11.out.v.len]; exact hal)⟩
                    obtain ⟨qk, ck, rfl, hOk, -⟩ := HB11.out.v.row a ya ra HYA.out hra
                    obtain ⟨ga, rfl, hga, hc0, -⟩ := HB11.out.v.hv.cell (i := a) (f := 0) hra rfl
                    obtain ⟨gb, v1, -, hc1, -⟩ := HB11.out.v.hv.cell (i := a) (f := 1) hra rfl
                    obtain ⟨gc, v2, -, hc2', -⟩ := HB11.out.v.hv.cell (i := a) (f := 2) hra rfl
                    obtain ⟨gd, v3, -, hc3, -⟩ := HB11.out.v.hv.cell (i := a) (f := 3) hra rfl
                    obtain rfl : gb = ga := by obtain ⟨h, _⟩ := Addr.mk.inj (Option.some.inj v1); exact h.symm
                    obtain rfl : gc = gb := by obtain ⟨h, _⟩ := Addr.mk.inj (Option.some.inj v2); exact h.symm
                    obtain rfl : gd = gc := by obtain ⟨h, _⟩ := Addr.mk.inj (Option.some.inj v3); exact h.symm
                    clear v1 v2 v3 hra
                    rw [Nat.add_zero] at hc0
                    have CK := Lib.hid (fun d os => quiet_ext (keep_object (k1 := ya.2.kind) (k2 := ya.2.kind) (t1 := ya.2.tag) (t2 := ya.2.tag) (s1 := ya.2.text) (s2 := ya.2.text) (HP.out.ws.ext (Ext.regrown W11 d os)) (WordSl.of_rows (hOk.ext (Ext.regrown W11 d os)).p)))
                    rw [show decide (ya.2.kind = ya.2.kind ∧ ya.2.tag = ya.2.tag ∧ ya.2.text = ya.2.text ∧ ya.2.fields = ya.2.fields) = true by simp] at CK
                    clear hOk
                    have re0 := fun d os => cell_regrown e0 d os
                    have re1 := fun d os => cell_regrown e1 d os
                    have re2 := fun d os => cell_regrown e2 d os
                    have re3 := fun d os => cell_regrown e3 d os
                    have rc0 := fun d os => cell_regrown hc0 d os
                    have rc1 := fun d os => cell_regrown hc1 d os
                    have rc2 := fun d os => cell_regrown hc2' d os
                    have rc3 := fun d os => cell_regrown hc3 d os
                    refine wp_region_quiet_below (by kernel_rfl) (by kernel_rfl) ?_
                    repeat (first | go_big_quiet_step (exact CK.out _ _) | quiet_step (exact CK.out _ _))
                    refine wpQuiet_nil ?_
                    intro _ hw'
                    obtain ⟨⟨dq, osq⟩, hw''⟩ := hw'
                    subst hw''
                    obtain ⟨W12, hW12, hx12⟩ : ∃ W12, W12 = Go.Sort.grow (redrawn W11 dq) osq ∧ Ext W11 W12 := ⟨_, rfl, Ext.regrown W11 dq osq⟩
                    rw [← hW12]
                    have HB12 := Lib.hid (HB11.out.ext hx12)
                    clear hW12 hx12 CK e0 e1 e2 e3 hc0 hc1 hc2' hc3 re0 re1 re2 re3 rc0 rc1 rc2 rc3
                    go_wp2
                    exact ⟨⟨a + 1, by omega, by go_num, HB12.out⟩, by simp [intOf]; omega⟩
                  · skip
                    go_simp
                    refine hK.out _ _ ?s14 (fun hHeld => ?k14)
                    case s14 => ((try dsimp only); (first | with_reducible exact (Ext.drew _).cells6k HK0.out | with_reducible exact hkp9 | with_reducible exact (Ext.alloc _ _).cells6k hkp9 | with_reducible exact (Ext.trans (Ext.alloc _ _) (Ext.drew _)).cells6k HK0.out | with_reducible exact Ext.cells6k (Ext.trans (Ext.alloc _ _) (Ext.drew _)) HK0.out | exact cells6s hkp9 (by omega) (by omega) (by omega)))
                    clear hK K
                    (try simp only [Act.put, List.setIfInBounds_toArray, List.set_cons_zero, List.set_cons_succ, List.getElem_toArray, List.getElem_cons_zero, List.getElem_cons_succ])
                    refine wpAnyH_ready (rs := [7]) (by kernel_rfl) (by simp) ?_
                    refine AllReadyH.cons rfl (fun K hK => ?_) AllReadyH.nil
                    go_simp
                    refine (HGE.out _ (Ext.trans (Ext.alloc _ _) (Ext.drew _))).mono ?_
                    rintro e w9 ⟨qg, cg, rfl, hsg, hx9, hxw9⟩
                    have hkp9 := hx9.cells6k HK0.out
                    have hsz9 := Below.size hxw9
                    have nb9 : w9.heap[wr.heap.size]? = some (Obj.cells #[.int .i64 0, .int .i64 0, .slice none 0 0, .string ⟨#[]⟩] 28 (0, 0)) := (Below.block hxw9 _ (by simp)).trans (heap_alloc_new _ _)
                    obtain ⟨k0, k1, k2, k3⟩ := cells4 nb9
                    have kf0 := free_at nb9 (i := 0)
                    have kf1 := free_at nb9 (i := 1)
                    have kf2 := free_at nb9 (i := 2)
                    have kf3 := free_at nb9 (i := 3)
                    refine hK.out _ _ ?s15 (fun hHeld => ?k15)
                    case s15 => ((try dsimp only); (first | with_reducible exact (Ext.drew _).cells6k HK0.out | with_reducible exact hkp9 | with_reducible exact (Ext.alloc _ _).cells6k hkp9 | with_reducible exact (Ext.trans (Ext.alloc _ _) (Ext.drew _)).cells6k HK0.out | with_reducible exact Ext.cells6k (Ext.trans (Ext.alloc _ _) (Ext.drew _)) HK0.out | exact cells6s hkp9 (by omega) (by omega) (by omega)))
                    clear hK K
                    (try simp only [Act.put, List.setIfInBounds_toArray, List.set_cons_zero, List.set_cons_succ, List.getElem_toArray, List.getElem_cons_zero, List.getElem_cons_succ])
                    refine wpAnyH_take (i := 8) (v := ?v16) rfl (by kernel_rfl) (by kernel_rfl) (by kernel_rfl) (fun _ _ _ h => h) (Or.inl ⟨by rfl, ?y16⟩) (by assumption) ?r16
                    case y16 => intro w hSw; (try dsimp only at hSw); go_simp; (try with_reducible rfl)
                    (try simp only [Act.put, List.setIfInBounds_toArray, List.set_cons_zero, List.set_cons_succ, List.getElem_toArray, List.getElem_cons_zero, List.getElem_cons_succ])
                    refine wpAnyH_take (i := 9) (v := ?v17) rfl (by kernel_rfl) (by kernel_rfl) (by kernel_rfl) (fun _ _ _ h => h) (Or.inl ⟨by rfl, ?y17⟩) (by assumption) ?r17
                    case y17 => intro w hSw; (try dsimp only at hSw); go_simp; (try with_reducible rfl)
                    (try simp only [Act.put, List.setIfInBounds_toArray, List.set_cons_zero, List.set_cons_succ, List.getElem_toArray, List.getElem_cons_zero, List.getElem_cons_succ])
                    refine wpAnyH_take (i := 10) (v := ?v18) rfl (by kernel_rfl) (by kernel_rfl) (by kernel_rfl) (fun _ _ _ h => h) (Or.inl ⟨by rfl, ?y18⟩) (by assumption) ?r18
                    case y18 => intro w hSw; (try dsimp only at hSw); go_simp; (try with_reducible rfl)
                    (try simp only [Act.put, List.setIfInBounds_toArray, List.set_cons_zero, List.set_cons_succ, List.getElem_toArray, List.getElem_cons_zero, List.getElem_cons_succ])
                    refine wpAnyH_ready (rs := [12]) (by kernel_rfl) (by simp) ?_
                    refine AllReadyH.cons rfl (fun K hK => ?_) AllReadyH.nil
                    go_simp
                    refine hK.out _ _ ?s19 (fun hHeld => ?k19)
                    case s19 => ((try dsimp only); (first | with_reducible exact (Ext.drew _).cells6k HK0.out | with_reducible exact hkp9 | with_reducible exact (Ext.alloc _ _).cells6k hkp9 | with_reducible exact (Ext.trans (Ext.alloc _ _) (Ext.drew _)).cells6k HK0.out | with_reducible exact Ext.cells6k (Ext.trans (Ext.alloc _ _) (Ext.drew _)) HK0.out | exact cells6s hkp9 (by omega) (by omega) (by omega)))
                    clear hK K
                    (try simp only [Act.put, List.setIfInBounds_toArray, List.set_cons_zero, List.set_cons_succ, List.getElem_toArray, List.getElem_cons_zero, List.getElem_cons_succ])
                    refine wpAnyH_done (by kernel_rfl) ?_ _
                    show wpList _ _ _ _ _ _
                    first
                      | (refine list_gen (fun W => GetEnd wr W wr.heap.size ya.2 qg cg) (GetEnd.fill hx9 hsg (Nat.le_refl _) (by simp) nb9) fun W11 hP => ?_; generalize hb11 : wr.heap.size = b11 at hP ⊢)
                      | (refine list_gen (fun W => GetEnd wr W w9.heap.size ya.2 qg cg) (GetEnd.made hx9 hsg) fun W11 hP => ?_; generalize hb11 : w9.heap.size = b11 at hP ⊢)
                    have HP := Lib.hid hP
                    have HB11 := Lib.hid (HBA.out.ext hP.x)
                    clear hP hb11 hsg hkp9 hHeld HGE HK0
                    go_wp2
                    refine NoPanic.normal ?_
                    go_upto_region 44 with fail
                    obtain ⟨e0, e1, e2, e3⟩ := cells4 HP.out.blk
                    obtain ⟨ra, hra⟩ : ∃ r, rows'[a]? = some r := ⟨_, List.getElem?_eq_getElem (by rw [HB11.out.v.len]; exact hal)⟩
                    obtain ⟨qk, ck, rfl, hOk, -⟩ := HB11.out.v.row a ya ra HYA.out hra
                    obtain ⟨ga, rfl, hga, hc0, -⟩ := HB11.out.v.hv.cell (i := a) (f := 0) hra rfl
                    obtain ⟨gb, v1, -, hc1, -⟩ := HB11.out.v.hv.cell (i := a) (f := 1) hra rfl
                    obtain ⟨gc, v2, -, hc2', -⟩ := HB11.out.v.hv.cell (i := a) (f := 2) hra rfl
                    obtain ⟨gd, v3, -, hc3, -⟩ := HB11.out.v.hv.cell (i := a) (f := 3) hra rfl
                    obtain rfl : gb = ga := by obtain ⟨h, _⟩ := Addr.mk.inj (Option.some.inj v1); exact h.symm
                    obtain rfl : gc = gb := by obtain ⟨h, _⟩ := Addr.mk.inj (Option.some.inj v2); exact h.symm
                    obtain rfl : gd = gc := by obtain ⟨h, _⟩ := Addr.mk.inj (Option.some.inj v3); exact h.symm
                    clear v1 v2 v3 hra
                    rw [Nat.add_zero] at hc0
                    have CK := Lib.hid (fun d os => quiet_ext (keep_object (k1 := ya.2.kind) (k2 := ya.2.kind) (t1 := ya.2.tag) (t2 := ya.2.tag) (s1 := ya.2.text) (s2 := ya.2.text) (HP.out.ws.ext (Ext.regrown W11 d os)) (WordSl.of_rows (hOk.ext (Ext.regrown W11 d os)).p)))
                    rw [show decide (ya.2.kind = ya.2.kind ∧ ya.2.tag = ya.2.tag ∧ ya.2.text = ya.2.text ∧ ya.2.fields = ya.2.fields) = true by simp] at CK
                    clear hOk
                    have re0 := fun d os => cell_regrown e0 d os
                    have re1 := fun d os => cell_regrown e1 d os
                    have re2 := fun d os => cell_regrown e2 d os
                    have re3 := fun d os => cell_regrown e3 d os
                    have rc0 := fun d os => cell_regrown hc0 d os
                    have rc1 := fun d os => cell_regrown hc1 d os
                    have rc2 := fun d os => cell_regrown hc2' d os
                    have rc3 := fun d os => cell_regrown hc3 d os
                    refine wp_region_quiet_below (by kernel_rfl) (by kernel_rfl) ?_
                    repeat (first | go_big_quiet_step (exact CK.out _ _) | quiet_step (exact CK.out _ _))
                    refine wpQuiet_nil ?_
                    intro _ hw'
                    obtain ⟨⟨dq, osq⟩, hw''⟩ := hw'
                    subst hw''
                    obtain ⟨W12, hW12, hx12⟩ : ∃ W12, W12 = Go.Sort.grow (redrawn W11 dq) osq ∧ Ext W11 W12 := ⟨_, rfl, Ext.regrown W11 dq osq⟩
                    rw [← hW12]
                    have HB12 := Lib.hid (HB11.out.ext hx12)
                    clear hW12 hx12 CK e0 e1 e2 e3 hc0 hc1 hc2' hc3 re0 re1 re2 re3 rc0 rc1 rc2 rc3
                    go_wp2
                    exact ⟨⟨a + 1, by omega, by go_num, HB12.out⟩, by simp [intOf]; omega⟩
                  -->>C
                · obtain rfl : a = Hs.length := by omega
                  obtain ⟨x0, x1⟩ := cells2 HBA.out.k.two
                  obtain ⟨y0, y1, y2, y3⟩ := cells4 HBA.out.k.hp
                  go_wp2_with fail
                  refine (good_is HBA.out.k.a (heapB n tn) (show (Lit.int .i64 (3 : Int)).wf = true by decide) HBA.out.d.w64).mono ?_
                  rintro e w9 ⟨rfl, hx9⟩
                  rw [HBA.out.d.all]
                  have HK9 := Lib.hid (HBA.out.ext hx9)
                  clear hx9 x0 x1 y0 y1 y2 y3
                  go_wp2_with fail
                  refine (wakes3 _).mono ?_
                  rintro e w10 ⟨rfl, hx10⟩
                  have HK10 := Lib.hid (HK9.out.ext hx10)
                  clear hx10
                  go_wp2
                  go_ret
                  exact ⟨rfl, HK10.out.done HX1.out hgw (by have := HT0.out; omega)⟩
            · as_aux_lemma =>
              have hki : True := trivial
              go_wp2_with fail
              go_loopw [25] (fun i wx => ∃ (a : Nat), a ≤ Hs.length ∧ i = .int .i64 a ∧ Bk w1 wx p g bm t0 t1 q m n tn ws' Hs' (.slice qw Hs.length cw) (.slice qh Hs.length ch) rows') (fun i _ => Hs.length - (intOf i).toNat)
              case atStart => exact ⟨0, by omega, rfl, HB.out⟩
              case round =>
                obtain ⟨a, ha, rfl, hBa⟩ := hrel
                have HBA := Lib.hid hBa
                clear hBa
                by_cases hla : a < Hs.length
                · --<<C
                  rename_i a2 k2 wr2 u62 q3 k3 a1 k4 a4
                  clear a2 a1
                  have i7 : (a : Int) < (Hs.length : Int) := by omega
                  have hal : a < Hs'.length := by omega
                  obtain ⟨gw, rfl, hgw1, hca, -⟩ := HBA.out.v.wd.cell (i := a) (f := 0) (cs := wordC ((2 * (Hs'[a]).1 : Nat) : Int)) (u := .int .u64 ((2 * (Hs'[a]).1 : Nat) : Int)) (by rw [List.getElem?_map, wdL_at hal]; rfl) rfl
                  rw [Nat.add_zero, Nat.mul_one] at hca
                  have hmem : ((2 * (Hs'[a]).1 : Nat) : Int) ∈ wdL Hs' := List.mem_of_getElem? (wdL_at hal)
                  obtain ⟨wk, hwk⟩ : ∃ wk : Int, wk = ((2 * (Hs'[a]).1 : Nat) : Int) := ⟨_, rfl⟩
                  rw [← hwk] at hca hmem
                  have HGE := Lib.hid (get_later HBA.out (List.getElem_mem hal) hwk (wdL_64 HBA.out.d _ hmem))
                  have HYA := Lib.hid (List.getElem?_eq_getElem hal)
                  clear hwk hmem
                  generalize Hs'[a] = ya at *
                  obtain ⟨x0, x1⟩ := cells2 HBA.out.k.two
                  obtain ⟨y0, y1, y2, y3⟩ := cells4 HBA.out.k.hp
                  have n0 := (Array.getElem?_eq_some_iff.1 HBA.out.k.two).1
                  have n1 := (Array.getElem?_eq_some_iff.1 HBA.out.k.hp).1
                  have n2 := (HBA.out.v.wd.own gw rfl).2
                  go_upto_region 43 with fail
                  have HK0 := Lib.hid (show wr.cell? ⟨t0, 0, none⟩ = some (.pointer (some ⟨p, 0, none⟩)) ∧ wr.cell? ⟨t1, 0, none⟩ = some (.int .i64 (heapB n tn).base) ∧ wr.cell? ⟨t1, 1, none⟩ = some (.int .i64 (heapB n tn).half) ∧ wr.cell? ⟨t1, 2, none⟩ = some (.int .i64 (heapB n tn).space) ∧ wr.cell? ⟨t1, 3, none⟩ = some (.int .i64 (heapB n tn).top) ∧ wr.cell? ⟨gw, a, none⟩ = some (.int .u64 wk) from ⟨x0, y0, y1, y2, y3, hca⟩)
                  clear x0 x1 y0 y1 y2 y3 hca hh41
                  refine wp_region_noPanic ?_
                  refine wp_region_last 13 (S := (fun w' => w'.cell? ⟨t0, 0, none⟩ = some (.pointer (some ⟨p, 0, none⟩)) ∧ w'.cell? ⟨t1, 0, none⟩ = some (.int .i64 (heapB n tn).base) ∧ w'.cell? ⟨t1, 1, none⟩ = some (.int .i64 (heapB n tn).half) ∧ w'.cell? ⟨t1, 2, none⟩ = some (.int .i64 (heapB n tn).space) ∧ w'.cell? ⟨t1, 3, none⟩ = some (.int .i64 (heapB n tn).top) ∧ w'.cell? ⟨gw, a, none⟩ = some (.int .u64 wk))) (by kernel_rfl) (by kernel_rfl) _ rfl ?_ (fun hHeld => ?_)
                  · (first | with_reducible exact (Ext.drew _).cells6k HK0.out | with_reducible exact hkp9 | with_reducible exact (Ext.alloc _ _).cells6k hkp9 | with_reducible exact (Ext.trans (Ext.alloc _ _) (Ext.drew _)).cells6k HK0.out | with_reducible exact Ext.cells6k (Ext.trans (Ext.alloc _ _) (Ext.drew _)) HK0.out | exact cells6s hkp9 (by omega) (by omega) (by omega))
                  simp only [List.take_succ_cons, List.take_zero]
                  refine wpAnyH_take (i := 0) (v := ?v20) rfl (by kernel_rfl) (by kernel_rfl) (by kernel_rfl) (fun _ _ _ h => h) (Or.inl ⟨by rfl, ?y20⟩) (by assumption) ?r20
                  case y20 => intro w hSw; (try dsimp only at hSw); go_simp; (try with_reducible rfl)
                  (try simp only [Act.put, List.setIfInBounds_toArray, List.set_cons_zero, List.set_cons_succ, List.getElem_toArray, List.getElem_cons_zero, List.getElem_cons_succ])
                  refine wpAnyH_take (i := 1) (v := ?v21) rfl (by kernel_rfl) (by kernel_rfl) (by kernel_rfl) (fun _ _ _ h => h) (Or.inl ⟨by rfl, ?y21⟩) (by assumption) ?r21
                  case y21 => intro w hSw; (try dsimp only at hSw); go_simp; (try with_reducible rfl)
                  (try simp only [Act.put, List.setIfInBounds_toArray, List.set_cons_zero, List.set_cons_succ, List.getElem_toArray, List.getElem_cons_zero, List.getElem_cons_succ])
                  refine wpAnyH_take (i := 2) (v := ?v22) rfl (by kernel_rfl) (by kernel_rfl) (by kernel_rfl) (fun _ _ _ h => h) (Or.inl ⟨by rfl, ?y22⟩) (by assumption) ?r22
                  case y22 => intro w hSw; (try dsimp only at hSw); go_simp; (try with_reducible rfl)
                  (try simp only [Act.put, List.setIfInBounds_toArray, List.set_cons_zero, List.set_cons_succ, List.getElem_toArray, List.getElem_cons_zero, List.getElem_cons_succ])
                  refine wpAnyH_take (i := 3) (v := ?v23) rfl (by kernel_rfl) (by kernel_rfl) (by kernel_rfl) (fun _ _ _ h => h) (Or.inl ⟨by rfl, ?y23⟩) (by assumption) ?r23
                  case y23 => intro w hSw; (try dsimp only at hSw); go_simp; (try with_reducible rfl)
                  (try simp only [Act.put, List.setIfInBounds_toArray, List.set_cons_zero, List.set_cons_succ, List.getElem_toArray, List.getElem_cons_zero, List.getElem_cons_succ])
                  refine wpAnyH_take (i := 4) (v := ?v24) rfl (by kernel_rfl) (by kernel_rfl) (by kernel_rfl) (fun _ _ _ h => h) (Or.inl ⟨by rfl, ?y24⟩) (by assumption) ?r24
                  case y24 => intro w hSw; (try dsimp only at hSw); go_simp; (try with_reducible rfl)
                  (try simp only [Act.put, List.setIfInBounds_toArray, List.set_cons_zero, List.set_cons_succ, List.getElem_toArray, List.getElem_cons_zero, List.getElem_cons_succ])
                  refine wpAnyH_take (i := 5) (v := ?v25) rfl (by kernel_rfl) (by kernel_rfl) (by kernel_rfl) (fun _ _ _ h => h) (Or.inl ⟨by rfl, ?y25⟩) (by assumption) ?r25
                  case y25 => intro w hSw; (try dsimp only at hSw); go_simp; (try with_reducible rfl)
                  (try simp only [Act.put, List.setIfInBounds_toArray, List.set_cons_zero, List.set_cons_succ, List.getElem_toArray, List.getElem_cons_zero, List.getElem_cons_succ])
                  refine wpAnyH_take (i := 6) (v := ?v26) rfl (by kernel_rfl) (by kernel_rfl) (by kernel_rfl) (fun _ _ _ h => h) (Or.inl ⟨by rfl, ?y26⟩) (by assumption) ?r26
                  case y26 => intro w hSw; (try dsimp only at hSw); go_simp; (try with_reducible rfl)
                  (try simp only [Act.put, List.setIfInBounds_toArray, List.set_cons_zero, List.set_cons_succ, List.getElem_toArray, List.getElem_cons_zero, List.getElem_cons_succ])
                  refine wpAnyH_ready (rs := [7, 11]) (by kernel_rfl) (by simp) ?_
                  refine AllReadyH.cons rfl (fun K hK => ?_) (AllReadyH.cons rfl (fun K hK => ?_) (AllReadyH.nil))
                  · skip
                    go_simp
                    refine (HGE.out _ (Ext.drew _)).mono ?_
                    rintro e w9 ⟨qg, cg, rfl, hsg, hx9, -⟩
                    have hkp9 := hx9.cells6k HK0.out
                    refine hK.out _ _ ?s27 (fun hHeld => ?k27)
                    case s27 => ((try dsimp only); (first | with_reducible exact (Ext.drew _).cells6k HK0.out | with_reducible exact hkp9 | with_reducible exact (Ext.alloc _ _).cells6k hkp9 | with_reducible exact (Ext.trans (Ext.alloc _ _) (Ext.drew _)).cells6k HK0.out | with_reducible exact Ext.cells6k (Ext.trans (Ext.alloc _ _) (Ext.drew _)) HK0.out | exact cells6s hkp9 (by omega) (by omega) (by omega)))
                    clear hK K
                    (try simp only [Act.put, List.setIfInBounds_toArray, List.set_cons_zero, List.set_cons_succ, List.getElem_toArray, List.getElem_cons_zero, List.getElem_cons_succ])
                    refine wpAnyH_take (i := 8) (v := ?v28) rfl (by kernel_rfl) (by kernel_rfl) (by kernel_rfl) (fun _ _ _ h => h) (Or.inl ⟨by rfl, ?y28⟩) (by assumption) ?r28
                    case y28 => intro w hSw; (try dsimp only at hSw); go_simp; (try with_reducible rfl)
                    (try simp only [Act.put, List.setIfInBounds_toArray, List.set_cons_zero, List.set_cons_succ, List.getElem_toArray, List.getElem_cons_zero, List.getElem_cons_succ])
                    refine wpAnyH_take (i := 9) (v := ?v29) rfl (by kernel_rfl) (by kernel_rfl) (by kernel_rfl) (fun _ _ _ h => h) (Or.inl ⟨by rfl, ?y29⟩) (by assumption) ?r29
                    case y29 => intro w hSw; (try dsimp only at hSw); go_simp; (try with_reducible rfl)
                    (try simp only [Act.put, List.setIfInBounds_toArray, List.set_cons_zero, List.set_cons_succ, List.getElem_toArray, List.getElem_cons_zero, List.getElem_cons_succ])
                    refine wpAnyH_take (i := 10) (v := ?v30) rfl (by kernel_rfl) (by kernel_rfl) (by kernel_rfl) (fun _ _ _ h => h) (Or.inl ⟨by rfl, ?y30⟩) (by assumption) ?r30
                    case y30 => intro w hSw; (try dsimp only at hSw); go_simp; (try with_reducible rfl)
                    (try simp only [Act.put, List.setIfInBounds_toArray, List.set_cons_zero, List.set_cons_succ, List.getElem_toArray, List.getElem_cons_zero, List.getElem_cons_succ])
                    refine wpAnyH_ready (rs := [11]) (by kernel_rfl) (by simp) ?_
                    refine AllReadyH.cons rfl (fun K hK => ?_) AllReadyH.nil
                    go_simp
                    refine hK.out _ _ ?s31 (fun hHeld => ?k31)
                    case s31 => ((try dsimp only); (first | with_reducible exact (Ext.drew _).cells6k HK0.out | with_reducible exact hkp9 | with_reducible exact (Ext.alloc _ _).cells6k hkp9 | with_reducible exact (Ext.trans (Ext.alloc _ _) (Ext.drew _)).cells6k HK0.out | with_reducible exact Ext.cells6k (Ext.trans (Ext.alloc _ _) (Ext.drew _)) HK0.out | exact cells6s hkp9 (by omega) (by omega) (by omega)))
                    clear hK K
                    (try simp only [Act.put, List.setIfInBounds_toArray, List.set_cons_zero, List.set_cons_succ, List.getElem_toArray, List.getElem_cons_zero, List.getElem_cons_succ])
                    refine wpAnyH_ready (rs := [12]) (by kernel_rfl) (by simp) ?_
                    refine AllReadyH.cons rfl (fun K hK => ?_) AllReadyH.nil
                    go_simp
                    refine hK.out _ _ ?s32 (fun hHeld => ?k32)
                    case s32 => ((try dsimp only); (first | with_reducible exact (Ext.drew _).cells6k HK0.out | with_reducible exact hkp9 | with_reducible exact (Ext.alloc _ _).cells6k hkp9 | with_reducible exact (Ext.trans (Ext.alloc _ _) (Ext.drew _)).cells6k HK0.out | with_reducible exact Ext.cells6k (Ext.trans (Ext.alloc _ _) (Ext.drew _)) HK0.out | exact cells6s hkp9 (by omega) (by omega) (by omega)))
                    clear hK K
                    (try simp only [Act.put, List.setIfInBounds_toArray, List.set_cons_zero, List.set_cons_succ, List.getElem_toArray, List.getElem_cons_zero, List.getElem_cons_succ])
                    refine wpAnyH_done (by kernel_rfl) ?_ _
                    show wpList _ _ _ _ _ _
                    first
                      | (refine list_gen (fun W => GetEnd wr W wr.heap.size ya.2 qg cg) (GetEnd.fill hx9 hsg (Nat.le_refl _) (by simp) nb9) fun W11 hP => ?_; generalize hb11 : wr.heap.size = b11 at hP ⊢)
                      | (refine list_gen (fun W => GetEnd wr W w9.heap.size ya.2 qg cg) (GetEnd.made hx9 hsg) fun W11 hP => ?_; generalize hb11 : w9.heap.size = b11 at hP ⊢)
                    have HP := Lib.hid hP
                    have HB11 := Lib.hid (HBA.out.ext hP.x)
                    clear hP hb11 hsg hkp9 hHeld HGE HK0
                    go_wp2
                    refine NoPanic.normal ?_
                    go_upto_region 44 with fail
                    obtain ⟨e0, e1, e2, e3⟩ := cells4 HP.out.blk
                    obtain ⟨ra, hra⟩ : ∃ r, rows'[a]? = some r := ⟨_, List.getElem?_eq_getElem (by rw [HB11.out.v.len]; exact hal)⟩
                    obtain ⟨qk, ck, rfl, hOk, -⟩ := HB11.out.v.row a ya ra HYA.out hra
                    obtain ⟨ga, rfl, hga, hc0, -⟩ := HB11.out.v.hv.cell (i := a) (f := 0) hra rfl
                    obtain ⟨gb, v1, -, hc1, -⟩ := HB11.out.v.hv.cell (i := a) (f := 1) hra rfl
                    obtain ⟨gc, v2, -, hc2', -⟩ := HB11.out.v.hv.cell (i := a) (f := 2) hra rfl
                    obtain ⟨gd, v3, -, hc3, -⟩ := HB11.out.v.hv.cell (i := a) (f := 3) hra rfl
                    obtain rfl : gb = ga := by obtain ⟨h, _⟩ := Addr.mk.inj (Option.some.inj v1); exact h.symm
                    obtain rfl : gc = gb := by obtain ⟨h, _⟩ := Addr.mk.inj (Option.some.inj v2); exact h.symm
                    obtain rfl : gd = gc := by obtain ⟨h, _⟩ := Addr.mk.inj (Option.some.inj v3); exact h.symm
                    clear v1 v2 v3 hra
                    rw [Nat.add_zero] at hc0
                    have CK := Lib.hid (fun d os => quiet_ext (keep_object (k1 := ya.2.kind) (k2 := ya.2.kind) (t1 := ya.2.tag) (t2 := ya.2.tag) (s1 := ya.2.text) (s2 := ya.2.text) (HP.out.ws.ext (Ext.regrown W11 d os)) (WordSl.of_rows (hOk.ext (Ext.regrown W11 d os)).p)))
                    rw [show decide (ya.2.kind = ya.2.kind ∧ ya.2.tag = ya.2.tag ∧ ya.2.text = ya.2.text ∧ ya.2.fields = ya.2.fields) = true by simp] at CK
                    clear hOk
                    have re0 := fun d os => cell_regrown e0 d os
                    have re1 := fun d os => cell_regrown e1 d os
                    have re2 := fun d os => cell_regrown e2 d os
                    have re3 := fun d os => cell_regrown e3 d os
                    have rc0 := fun d os => cell_regrown hc0 d os
                    have rc1 := fun d os => cell_regrown hc1 d os
                    have rc2 := fun d os => cell_regrown hc2' d os
                    have rc3 := fun d os => cell_regrown hc3 d os
                    refine wp_region_quiet_below (by kernel_rfl) (by kernel_rfl) ?_
                    repeat (first | go_big_quiet_step (exact CK.out _ _) | quiet_step (exact CK.out _ _))
                    refine wpQuiet_nil ?_
                    intro _ hw'
                    obtain ⟨⟨dq, osq⟩, hw''⟩ := hw'
                    subst hw''
                    obtain ⟨W12, hW12, hx12⟩ : ∃ W12, W12 = Go.Sort.grow (redrawn W11 dq) osq ∧ Ext W11 W12 := ⟨_, rfl, Ext.regrown W11 dq osq⟩
                    rw [← hW12]
                    have HB12 := Lib.hid (HB11.out.ext hx12)
                    clear hW12 hx12 CK e0 e1 e2 e3 hc0 hc1 hc2' hc3 re0 re1 re2 re3 rc0 rc1 rc2 rc3
                    go_wp2
                    exact ⟨⟨a + 1, by omega, by go_num, HB12.out⟩, by simp [intOf]; omega⟩
                  · skip
                    go_simp
                    refine hK.out _ _ ?s33 (fun hHeld => ?k33)
                    case s33 => ((try dsimp only); (first | with_reducible exact (Ext.drew _).cells6k HK0.out | with_reducible exact hkp9 | with_reducible exact (Ext.alloc _ _).cells6k hkp9 | with_reducible exact (Ext.trans (Ext.alloc _ _) (Ext.drew _)).cells6k HK0.out | with_reducible exact Ext.cells6k (Ext.trans (Ext.alloc _ _) (Ext.drew _)) HK0.out | exact cells6s hkp9 (by omega) (by omega) (by omega)))
                    clear hK K
                    (try simp only [Act.put, List.setIfInBounds_toArray, List.set_cons_zero, List.set_cons_succ, List.getElem_toArray, List.getElem_cons_zero, List.getElem_cons_succ])
                    refine wpAnyH_ready (rs := [7]) (by kernel_rfl) (by simp) ?_
                    refine AllReadyH.cons rfl (fun K hK => ?_) AllReadyH.nil
                    go_simp
                    refine (HGE.out _ (Ext.trans (Ext.alloc _ _) (Ext.drew _))).mono ?_
                    rintro e w9 ⟨qg, cg, rfl, hsg, hx9, hxw9⟩
                    have hkp9 := hx9.cells6k HK0.out
                    have hsz9 := Below.size hxw9
                    have nb9 : w9.heap[wr.heap.size]? = some (Obj.cells #[.int .i64 0, .int .i64 0, .slice none 0 0, .string ⟨#[]⟩] 28 (0, 0)) := (Below.block hxw9 _ (by simp)).trans (heap_alloc_new _ _)
                    obtain ⟨k0, k1, k2, k3⟩ := cells4 nb9
                    have kf0 := free_at nb9 (i := 0)
                    have kf1 := free_at nb9 (i := 1)
                    have kf2 := free_at nb9 (i := 2)
                    have kf3 := free_at nb9 (i := 3)
                    refine hK.out _ _ ?s34 (fun hHeld => ?k34)
                    case s34 => ((try dsimp only); (first | with_reducible exact (Ext.drew _).cells6k HK0.out | with_reducible exact hkp9 | with_reducible exact (Ext.alloc _ _).cells6k hkp9 | with_reducible exact (Ext.trans (Ext.alloc _ _) (Ext.drew _)).cells6k HK0.out | with_reducible exact Ext.cells6k (Ext.trans (Ext.alloc _ _) (Ext.drew _)) HK0.out | exact cells6s hkp9 (by omega) (by omega) (by omega)))
                    clear hK K
                    (try simp only [Act.put, List.setIfInBounds_toArray, List.set_cons_zero, List.set_cons_succ, List.getElem_toArray, List.getElem_cons_zero, List.getElem_cons_succ])
                    refine wpAnyH_take (i := 8) (v := ?v35) rfl (by kernel_rfl) (by kernel_rfl) (by kernel_rfl) (fun _ _ _ h => h) (Or.inl ⟨by rfl, ?y35⟩) (by assumption) ?r35
                    case y35 => intro w hSw; (try dsimp only at hSw); go_simp; (try with_reducible rfl)
                    (try simp only [Act.put, List.setIfInBounds_toArray, List.set_cons_zero, List.set_cons_succ, List.getElem_toArray, List.getElem_cons_zero, List.getElem_cons_succ])
                    refine wpAnyH_take (i := 9) (v := ?v36) rfl (by kernel_rfl) (by kernel_rfl) (by kernel_rfl) (fun _ _ _ h => h) (Or.inl ⟨by rfl, ?y36⟩) (by assumption) ?r36
                    case y36 => intro w hSw; (try dsimp only at hSw); go_simp; (try with_reducible rfl)
                    (try simp only [Act.put, List.setIfInBounds_toArray, List.set_cons_zero, List.set_cons_succ, List.getElem_toArray, List.getElem_cons_zero, List.getElem_cons_succ])
                    refine wpAnyH_take (i := 10) (v := ?v37) rfl (by kernel_rfl) (by kernel_rfl) (by kernel_rfl) (fun _ _ _ h => h) (Or.inl ⟨by rfl, ?y37⟩) (by assumption) ?r37
                    case y37 => intro w hSw; (try dsimp only at hSw); go_simp; (try with_reducible rfl)
                    (try simp only [Act.put, List.setIfInBounds_toArray, List.set_cons_zero, List.set_cons_succ, List.getElem_toArray, List.getElem_cons_zero, List.getElem_cons_succ])
                    refine wpAnyH_ready (rs := [12]) (by kernel_rfl) (by simp) ?_
                    refine AllReadyH.cons rfl (fun K hK => ?_) AllReadyH.nil
                    go_simp
                    refine hK.out _ _ ?s38 (fun hHeld => ?k38)
                    case s38 => ((try dsimp only); (first | with_reducible exact (Ext.drew _).cells6k HK0.out | with_reducible exact hkp9 | with_reducible exact (Ext.alloc _ _).cells6k hkp9 | with_reducible exact (Ext.trans (Ext.alloc _ _) (Ext.drew _)).cells6k HK0.out | with_reducible exact Ext.cells6k (Ext.trans (Ext.alloc _ _) (Ext.drew _)) HK0.out | exact cells6s hkp9 (by omega) (by omega) (by omega)))
                    clear hK K
                    (try simp only [Act.put, List.setIfInBounds_toArray, List.set_cons_zero, List.set_cons_succ, List.getElem_toArray, List.getElem_cons_zero, List.getElem_cons_succ])
                    refine wpAnyH_done (by kernel_rfl) ?_ _
                    show wpList _ _ _ _ _ _
                    first
                      | (refine list_gen (fun W => GetEnd wr W wr.heap.size ya.2 qg cg) (GetEnd.fill hx9 hsg (Nat.le_refl _) (by simp) nb9) fun W11 hP => ?_; generalize hb11 : wr.heap.size = b11 at hP ⊢)
                      | (refine list_gen (fun W => GetEnd wr W w9.heap.size ya.2 qg cg) (GetEnd.made hx9 hsg) fun W11 hP => ?_; generalize hb11 : w9.heap.size = b11 at hP ⊢)
                    have HP := Lib.hid hP
                    have HB11 := Lib.hid (HBA.out.ext hP.x)
                    clear hP hb11 hsg hkp9 hHeld HGE HK0
                    go_wp2
                    refine NoPanic.normal ?_
                    go_upto_region 44 with fail
                    obtain ⟨e0, e1, e2, e3⟩ := cells4 HP.out.blk
                    obtain ⟨ra, hra⟩ : ∃ r, rows'[a]? = some r := ⟨_, List.getElem?_eq_getElem (by rw [HB11.out.v.len]; exact hal)⟩
                    obtain ⟨qk, ck, rfl, hOk, -⟩ := HB11.out.v.row a ya ra HYA.out hra
                    obtain ⟨ga, rfl, hga, hc0, -⟩ := HB11.out.v.hv.cell (i := a) (f := 0) hra rfl
                    obtain ⟨gb, v1, -, hc1, -⟩ := HB11.out.v.hv.cell (i := a) (f := 1) hra rfl
                    obtain ⟨gc, v2, -, hc2', -⟩ := HB11.out.v.hv.cell (i := a) (f := 2) hra rfl
                    obtain ⟨gd, v3, -, hc3, -⟩ := HB11.out.v.hv.cell (i := a) (f := 3) hra rfl
                    obtain rfl : gb = ga := by obtain ⟨h, _⟩ := Addr.mk.inj (Option.some.inj v1); exact h.symm
                    obtain rfl : gc = gb := by obtain ⟨h, _⟩ := Addr.mk.inj (Option.some.inj v2); exact h.symm
                    obtain rfl : gd = gc := by obtain ⟨h, _⟩ := Addr.mk.inj (Option.some.inj v3); exact h.symm
                    clear v1 v2 v3 hra
                    rw [Nat.add_zero] at hc0
                    have CK := Lib.hid (fun d os => quiet_ext (keep_object (k1 := ya.2.kind) (k2 := ya.2.kind) (t1 := ya.2.tag) (t2 := ya.2.tag) (s1 := ya.2.text) (s2 := ya.2.text) (HP.out.ws.ext (Ext.regrown W11 d os)) (WordSl.of_rows (hOk.ext (Ext.regrown W11 d os)).p)))
                    rw [show decide (ya.2.kind = ya.2.kind ∧ ya.2.tag = ya.2.tag ∧ ya.2.text = ya.2.text ∧ ya.2.fields = ya.2.fields) = true by simp] at CK
                    clear hOk
                    have re0 := fun d os => cell_regrown e0 d os
                    have re1 := fun d os => cell_regrown e1 d os
                    have re2 := fun d os => cell_regrown e2 d os
                    have re3 := fun d os => cell_regrown e3 d os
                    have rc0 := fun d os => cell_regrown hc0 d os
                    have rc1 := fun d os => cell_regrown hc1 d os
                    have rc2 := fun d os => cell_regrown hc2' d os
                    have rc3 := fun d os => cell_regrown hc3 d os
                    refine wp_region_quiet_below (by kernel_rfl) (by kernel_rfl) ?_
                    repeat (first | go_big_quiet_step (exact CK.out _ _) | quiet_step (exact CK.out _ _))
                    refine wpQuiet_nil ?_
                    intro _ hw'
                    obtain ⟨⟨dq, osq⟩, hw''⟩ := hw'
                    subst hw''
                    obtain ⟨W12, hW12, hx12⟩ : ∃ W12, W12 = Go.Sort.grow (redrawn W11 dq) osq ∧ Ext W11 W12 := ⟨_, rfl, Ext.regrown W11 dq osq⟩
                    rw [← hW12]
                    have HB12 := Lib.hid (HB11.out.ext hx12)
                    clear hW12 hx12 CK e0 e1 e2 e3 hc0 hc1 hc2' hc3 re0 re1 re2 re3 rc0 rc1 rc2 rc3
                    go_wp2
                    exact ⟨⟨a + 1, by omega, by go_num, HB12.out⟩, by simp [intOf]; omega⟩
                  -->>C
                · obtain rfl : a = Hs.length := by omega
                  obtain ⟨x0, x1⟩ := cells2 HBA.out.k.two
                  obtain ⟨y0, y1, y2, y3⟩ := cells4 HBA.out.k.hp
                  go_wp2_with fail
                  refine (good_is HBA.out.k.a (heapB n tn) (show (Lit.int .i64 (3 : Int)).wf = true by decide) HBA.out.d.w64).mono ?_
                  rintro e w9 ⟨rfl, hx9⟩
                  rw [HBA.out.d.all]
                  have HK9 := Lib.hid (HBA.out.ext hx9)
                  clear hx9 x0 x1 y0 y1 y2 y3
                  go_wp2_with fail
                  refine (wakes3 _).mono ?_
                  rintro e w10 ⟨rfl, hx10⟩
                  have HK10 := Lib.hid (HK9.out.ext hx10)
                  clear hx10
                  go_wp2
                  go_ret
                  exact ⟨rfl, HK10.out.done HX1.out hgw (by have := HT0.out; omega)⟩
end Go.Proofs.Ytlffmcadchbheaa
/- Rows among the arguments whose data are within the reach: how long their inner slices are. -/
namespace Go.Proofs.Ytlffmcadchbheaa
open Go Go.ChangeShapes Go.WideShapes Go.ChangeAt Go.RowKit Go.Deep
set_option maxHeartbeats 4000000
set_option maxRecDepth 100000
/-- the datum's weights are within the reach -/
def Light {H : Type} (P : Program) (t : TypeId) (d : DataW H) : Prop := ∀ n ∈ d.weights P t, n ≤ reachBytes
theorem weightsAll_mem {H : Type} {P : Program} {e : TypeId} : ∀ {l : List (DataW H)} {d : DataW H}, d ∈ l → ∀ n ∈ d.weights P e, n ∈ DataW.weightsAll P e l
  | d' :: r, d, hd, n, hn => by
    simp only [DataW.weightsAll, List.mem_append]
    rcases List.mem_cons.1 hd with rfl | h
    · exact Or.inl hn
    · exact Or.inr (weightsAll_mem h n hn)
theorem light_each {H : Type} {P : Program} {ts : List TypeId} {ds : List (DataW H)} (h : (DataW.weightsEach P ts ds).all (· ≤ reachBytes) = true) {j : Nat} {t : TypeId} {d : DataW H} (ht : ts[j]? = some t) (hd : ds[j]? = some d) : Light P t d :=
  fun n hn => of_decide_eq_true (List.all_eq_true.1 h n (DataW.weights_mem_each ht hd n hn))
theorem Light.elem {H : Type} {P : Program} {t e : TypeId} {el sp : List (DataW H)} (ht : P.underlying t = some (.slice e)) (h : Light P t (.slice el sp)) {d : DataW H} (hd : d ∈ el) : Light P e d := by
  intro n hn
  refine h n ?_
  simp only [DataW.weights, ht, List.mem_cons, List.mem_append]
  exact Or.inr (Or.inl (weightsAll_mem hd n hn))
theorem Light.len {H : Type} {P : Program} {t e : TypeId} {el sp : List (DataW H)} (ht : P.underlying t = some (.slice e)) (h : Light P t (.slice el sp)) : (el.length + sp.length) * P.bytesOf e ≤ reachBytes := by
  refine h _ ?_
  simp only [DataW.weights, ht, List.mem_cons]
  exact Or.inl trivial
theorem Light.part {H : Type} {P : Program} {t : TypeId} {fs : Array Field} {xs : List (DataW H)} (ht : P.underlying t = some (.struct fs)) (h : Light P t (.agg xs)) {i : Nat} {f : Field} {d : DataW H} (hf : fs[i]? = some f) (hd : xs[i]? = some d) : Light P f.type d := by
  intro n hn
  refine h n ?_
  simp only [DataW.weights, ht]
  exact DataW.weights_mem_each (j := i) (by rw [List.getElem?_map]; simp [hf]) hd n hn
def ReadsLt {H : Type} (enc : TypeId × Value → H) (P : Program) (w : World) (e : TypeId) (cs : List Value) : Prop := ∃ n x, DataW.trod enc P w 0 (fun _ => true) true n e cs = some x ∧ Light P e x.1
theorem ReadsLt.reads {H : Type} {enc : TypeId × Value → H} {P : Program} {w : World} {e : TypeId} {cs : List Value} (h : ReadsLt enc P w e cs) : ReadsAs enc P w e cs := by
  obtain ⟨n, x, h1, _⟩ := h
  exact ⟨n, x, h1⟩
/-- one cell that reads as a slice -/
theorem rows_cell_lt {H : Type} {enc : TypeId × Value → H} {P : Program} {w : World} {t e : TypeId} {s : Nat} {cs : List Value} (ht : P.underlying t = some (.slice e)) (hs : P.cellsOf e = s) (h1 : 1 ≤ s)
    (h : ReadsLt enc P w t cs) : ∃ v l, cs = [v] ∧ RowsSl w v s l ∧ (l = [] → EmptyV v) ∧ l.length * P.bytesOf e ≤ reachBytes ∧ ∀ cs ∈ l, ReadsLt enc P w e cs := by
  obtain ⟨fuel, x, hf, hlt⟩ := h
  rcases open_slice ht hf with ⟨hcs, _⟩ | ⟨a, len, cap, m, n, D, Pl, hcs, _, hlc, hcm, hm, hx, hel⟩
  · exact ⟨_, [], hcs, ⟨none, 0, rfl, Nat.le_refl _, Nat.zero_le _, fun i cs h => by simp at h⟩, fun _ => .inl rfl, by simp, fun cs h => by cases h⟩
  · subst hx
    simp only [if_true] at hm
    rw [hs] at hel
    rw [hm] at hel
    obtain ⟨V, hV⟩ := choose_lt (n := cap) (p := fun i cs => w.cells? 0 (a.add (i * s)) s = some cs ∧ DataW.trod enc P w 0 (fun _ => true) true n e cs = some (D i, Pl i)) (fun i hi => hel i hi)
    have hl : ((List.range len).map V).length = len := by simp
    refine ⟨_, (List.range len).map V, hcs, ⟨some a, cap, by rw [hl], by rw [hl]; exact hlc, hcm, fun i cs hi => ?_⟩, fun he => ?_, ?_, fun cs hcs => ?_⟩
    · have hil : i < len := by have := (List.getElem?_eq_some_iff.1 hi).1; simpa using this
      have hcs : V i = cs := by simpa [hil] using hi
      subst hcs
      obtain ⟨_, hlen, hcell⟩ := World.cells?_some (hV i (by omega)).1
      obtain ⟨_, hlen0, hcell0⟩ := World.cells?_some (hV 0 (by omega)).1
      have hc0 := hcell0 0 (by omega)
      rw [List.getElem?_eq_getElem (by omega : 0 < (V 0).length), Go.Deep.add_add] at hc0
      obtain ⟨b, off, spot⟩ := a
      have hspot : spot = none := by simpa [Addr.add] using World.cell?_spot hc0
      subst hspot
      refine ⟨hlen, b, off, rfl, fun f u hu => ?_⟩
      have hfl : f < s := by rw [← hlen]; exact (List.getElem?_eq_some_iff.1 hu).1
      have := hcell f hfl
      rw [Go.Deep.add_add, add_plain, hu] at this
      rw [Nat.add_assoc]
      exact this
    · have h0 : len = 0 := by have := congrArg List.length he; simpa using this
      subst h0
      exact .inr ⟨a, cap, rfl, hcm⟩
    · rw [hl]
      have h2 := hlt.len ht
      rw [List.length_map, List.length_range] at h2
      exact Nat.le_trans (Nat.mul_le_mul_right _ (Nat.le_add_right _ _)) h2
    · obtain ⟨i, hi, rfl⟩ := List.mem_map.1 hcs
      have hil := List.mem_range.1 hi
      exact ⟨n, _, (hV i (by omega)).2, hlt.elem ht (List.mem_map.2 ⟨i, hi, rfl⟩)⟩
end Go.Proofs.Ytlffmcadchbheaa
/- Objects among the arguments, with the reach of their fields; steps of three bytes. -/
namespace Go.Proofs.Ytlffmcadchbheaa
open Go Go.ChangeShapes Go.WideShapes Go.ChangeAt Go.RowKit Go.Deep Arena
set_option maxHeartbeats 4000000
set_option maxRecDepth 100000
theorem words_lt {H : Type} {enc : TypeId × Value → H} {w : World} {cs : List Value} (h : ReadsLt enc Try.prog w 22 cs) : ∃ v l, cs = [v] ∧ WdsP w v l ∧ l.length * 8 ≤ reachBytes := by
  obtain ⟨v, l, rfl, hr, he, hlen, hl⟩ := rows_cell_lt Try.underlying22 (show Try.prog.cellsOf 29 = 1 by kernel_rfl) (by omega) h
  rw [show Try.prog.bytesOf 29 = 8 by kernel_rfl] at hlen
  obtain ⟨M, rfl⟩ := choose_form (fun x : {x : Int // W64 x} => wordC x.1) l (fun cs hm => word_reads (hl cs hm).reads)
  refine ⟨v, M.map (·.1), rfl, ⟨?_, fun x hx => ?_⟩, by simpa using hlen⟩
  · rw [List.map_map]
    cases M with
    | nil => exact ⟨Rows1.nil 1, .inl ⟨he rfl, rfl⟩⟩
    | cons x M => exact rows_p (by omega) hr (fun cs hm => by obtain ⟨y, _, rfl⟩ := List.mem_map.1 hm; exact ⟨rfl, fun u hu => by rw [List.mem_singleton.1 hu]; rfl⟩) (by simp)
  · obtain ⟨y, _, rfl⟩ := List.mem_map.1 hx
    exact y.2
theorem obj_lt {H : Type} {enc : TypeId × Value → H} {w : World} {cs : List Value} (h : ReadsLt enc Try.prog w 28 cs) : ∃ x, cs = obiC x ∧ ObiP w x ∧ x.o.fields.length * 8 ≤ reachBytes := by
  obtain ⟨n, y, h, hlt⟩ := h
  obtain ⟨xs, k, rfl, rfl, hlen, hxl, hf⟩ := DataW.trod_struct Try.underlying28 h
  have hc : Try.prog.cellsOf 28 = 4 := by kernel_rfl
  rw [hc] at hlen
  match cs, hlen, xs, hxl, hlt with
  | [v0, v1, v2, v3], _, [y0, y1, y2, y3], _, hlt =>
    have g0 := hf 0 _ rfl
    have g1 := hf 1 _ rfl
    have g2 := hf 2 _ rfl
    have g3 := hf 3 _ rfl
    have ci : Try.prog.cellsOf 3 = 1 := by kernel_rfl
    have ci6 : Try.prog.cellsOf 22 = 1 := by kernel_rfl
    have cs1 : Try.prog.cellsOf 9 = 1 := by kernel_rfl
    have hl2 := hlt.part (i := 2) Try.underlying28 rfl rfl
    simp [ci, ci6, cs1] at g0 g1 g2 g3
    obtain ⟨a0, e0, _, w0⟩ := DataW.trod_int Try.underlying3 g0
    obtain ⟨a1, e1, _, w1⟩ := DataW.trod_int Try.underlying3 g1
    obtain ⟨v, l, e2, hp, hln⟩ := words_lt ⟨_, _, g2, hl2⟩
    obtain ⟨a3, e3, _, w3⟩ := DataW.trod_string Try.underlying9 g3
    simp at e0 e1 e2 e3
    subst e0; subst e1; subst e2; subst e3
    exact ⟨⟨⟨a0, a1, l, a3⟩, v2⟩, rfl, ⟨hp, by first | exact w3 | simpa [Lit.wf] using w3, w0, w1⟩, hln⟩
theorem open_objs_lt {H : Type} {enc : TypeId × Value → H} {W : World} {v : Value} {d : DataW H} {ps : List MemPlace} {base : Nat} (hval : Value.okWide Try.prog W .any base 71 v) (h : DataW.Trod enc Try.prog W 0 (fun _ => true) true 71 v d ps) (hlt : Light Try.prog 71 d) : ∃ L, ObsP W v L ∧ ∀ y ∈ L, y.o.fields.length * 8 ≤ 140737488351232 := by
  obtain ⟨a0, len, cap, rfl⟩ := okWide_slice Try.underlying71 hval
  obtain ⟨fuel, hf⟩ := h
  obtain ⟨v', l, e, hr, _, _, hl⟩ := rows_cell_lt Try.underlying71 (show Try.prog.cellsOf 28 = 4 by kernel_rfl) (by omega) ⟨fuel, _, hf, hlt⟩
  obtain rfl : v' = _ := (List.cons.inj e).1.symm
  obtain ⟨M, rfl, hM⟩ := choose_with (fun x => ObiP W x ∧ x.o.fields.length * 8 ≤ reachBytes) obiC l (fun cs hm => obj_lt (hl cs hm))
  exact ⟨M, ⟨hr, fun x hx => (hM x hx).1⟩, fun x hx => (hM x hx).2⟩
theorem bounds_u8 {x : Int} (h : (Lit.int .u8 x).wf = true) : 0 ≤ x ∧ x ≤ 255 := by
  have h3 : IntKind.u8.min ≤ x ∧ x ≤ IntKind.u8.max := by simpa [Lit.wf] using h
  have e1 : IntKind.u8.min = 0 := by decide
  have e2 : IntKind.u8.max = 255 := by decide
  omega
theorem triple_cells {H : Type} {enc : TypeId × Value → H} {w : World} {cs : List Value} (h : ReadsAs enc Try.prog w 75 cs) :
    ∃ x : Int × Int × Int, cs = [.int .u8 x.1, .int .u8 x.2.1, .int .u8 x.2.2] ∧ (0 ≤ x.1 ∧ x.1 ≤ 255) ∧ (0 ≤ x.2.1 ∧ x.2.1 ≤ 255) ∧ (0 ≤ x.2.2 ∧ x.2.2 ≤ 255) := by
  obtain ⟨n, y, h⟩ := h
  obtain ⟨xs, k, rfl, _, hlen, hxl, hf⟩ := DataW.trod_array Try.underlying75 h
  have hc : Try.prog.cellsOf 75 = 3 := by kernel_rfl
  rw [hc] at hlen
  match cs, hlen, xs, hxl with
  | [v0, v1, v2], _, [y0, y1, y2], _ =>
    have ci : Try.prog.cellsOf 5 = 1 := by kernel_rfl
    have g0 := hf 0 (by omega)
    have g1 := hf 1 (by omega)
    have g2 := hf 2 (by omega)
    simp [ci] at g0 g1 g2
    obtain ⟨a0, e0, _, w0⟩ := DataW.trod_int Try.underlying5 g0
    obtain ⟨a1, e1, _, w1⟩ := DataW.trod_int Try.underlying5 g1
    obtain ⟨a2, e2, _, w2⟩ := DataW.trod_int Try.underlying5 g2
    simp at e0 e1 e2
    subst e0; subst e1; subst e2
    exact ⟨⟨a0, a1, a2⟩, rfl, bounds_u8 w0, bounds_u8 w1, bounds_u8 w2⟩
theorem open_sets {H : Type} {enc : TypeId × Value → H} {W : World} {v : Value} {d : DataW H} {ps : List MemPlace} {base : Nat} (hval : Value.okWide Try.prog W .any base 72 v) (h : DataW.Trod enc Try.prog W 0 (fun _ => true) true 72 v d ps) :
    ∃ S : List (Int × Int × Int), RowsSl W v 3 (S.map fun s => [.int .u8 s.1, .int .u8 s.2.1, .int .u8 s.2.2]) ∧ ∀ s ∈ S, (0 ≤ s.1 ∧ s.1 ≤ 255) ∧ (0 ≤ s.2.1 ∧ s.2.1 ≤ 255) ∧ (0 ≤ s.2.2 ∧ s.2.2 ≤ 255) := by
  obtain ⟨l, hr, hl⟩ := open_rows Try.underlying72 (show Try.prog.cellsOf 75 = 3 by kernel_rfl) (by omega) hval h
  obtain ⟨M, rfl, hM⟩ := choose_with (fun s : Int × Int × Int => (0 ≤ s.1 ∧ s.1 ≤ 255) ∧ (0 ≤ s.2.1 ∧ s.2.1 ≤ 255) ∧ (0 ≤ s.2.2 ∧ s.2.2 ≤ 255)) (fun s => [.int .u8 s.1, .int .u8 s.2.1, .int .u8 s.2.2]) l (fun cs hm => triple_cells (hl cs hm))
  exact ⟨M, hr, hM⟩
end Go.Proofs.Ytlffmcadchbheaa
/- Joined. -/
