/- Proved here: the contracts and laws of GcWF, GcWG, Tw, GcYA, GcYB, GcYC, GcYD of this claim; conditions: those that each theorem names. -/
import Derived.Test.YtinakendlpomnaaGreatQRoom
import Derived.Test.YtinakendlpomnaaGreatM7
import Derived.Test.YtinakendlpomnaaGreatM8
import Derived.Test.YtinakendlpomnaaGreatM3
import Derived.Deep.CutBlock
namespace Go.Proofs.YtinakendlpomnaaGreat
open Go Go.RowKit Go.Deep Go.Maps Arena
open List (setIfInBounds_toArray set_cons_zero set_cons_succ getElem_toArray getElem_cons_zero getElem_cons_succ)
set_option maxHeartbeats 8000000
set_option maxRecDepth 100000
theorem zero_step {V : List Int} {a : Nat} (ha : a < V.length) : (List.replicate a 0 ++ V.drop a).set a 0 = List.replicate (a + 1) 0 ++ V.drop (a + 1) := by
  rw [List.set_append_right _ _ (by simp), List.length_replicate, Nat.sub_self, List.drop_eq_getElem_cons ha, List.set_cons_zero, List.replicate_succ', List.append_assoc]
  rfl
theorem sizeL_map (f : Int → Int) : ∀ F : List (Nat × Ob), sizeL (F.map fun y => mapO f y.2) = sizeF F
  | [] => rfl
  | y :: F => by simp only [List.map_cons, sizeL, sizeF, mapO_words, sizeL_map f F]
theorem Ext.cells4k {w w' : World} (e : Ext w w') {a0 a1 a2 a3 : Addr} {v0 v1 v2 v3 : Value} (h : w.cell? a0 = some v0 ∧ w.cell? a1 = some v1 ∧ w.cell? a2 = some v2 ∧ w.cell? a3 = some v3) : w'.cell? a0 = some v0 ∧ w'.cell? a1 = some v1 ∧ w'.cell? a2 = some v2 ∧ w'.cell? a3 = some v3 :=
  ⟨e.cell h.1, e.cell h.2.1, e.cell h.2.2.1, e.cell h.2.2.2⟩
theorem turn_two {bs cs : List Nat} {a b c : World} (h : Turn bs a b) (k : Turn cs b c) (hc : ∀ x ∈ cs, a.heap.size ≤ x) : Turn bs a c :=
  ⟨k.os.trans h.os, k.tape.trans h.tape, k.output.trans h.output, Nat.le_trans h.size k.size, fun i hi hb => (k.block i (Nat.lt_of_lt_of_le hi h.size) (fun hm => by have := hc i hm; omega)).trans (h.block i hi hb)⟩
theorem rcoll_yes {w : World} {q gq B0 n : Nat} {ws : List Int} {vR : Value} {R : List (Nat × Nat)} {qr : Option Addr} {c : Nat} {roots : List Int} (HRF : RefAt w q gq B0 n ws vR R) (h : Hp) (hW : ∀ x ∈ ws, W64 x) (hr : RowsP w (.slice qr roots.length c) 1 (roots.map wordC)) (hr64 : ∀ x ∈ roots, W64 x) (hrl : roots.length ≤ 1000) {Hs : List (Nat × Ob)} (hm : mayH ws R h roots = some Hs) :
    Calls Tryz.prog 13 #[.pointer (some ⟨q, 0, none⟩), .agg #[.int .i64 h.base, .int .i64 h.half, .int .i64 h.space, .int .i64 h.top], .slice qr roots.length c] w (RCollSaid ws R q gq B0 n vR h roots w) := by
  have MAY := Lib.hid (fun W (e : Ext w W) => rmay_is (HRF.ext e) h hW (hr.ext e) hr64 (by omega))
  have PL := Lib.hid (fun W (e : Ext w W) => plan_is (HRF.ext e) h hW (hr.ext e) hr64 hrl hm)
  obtain ⟨ha, hok⟩ := mayH_some hm
  obtain ⟨ht, _⟩ := allH_there ha
  obtain ⟨ba, H, sp, N⟩ := hpN_of HRF.good ht
  have gc := gc_of HRF.good HRF.len hW ha N roots
  have hself := N.reg.self HRF.len
  have hV0 : (wordsAt ws R (ba : Int)).length = 2 * H := by
    have := wordsAt_len HRF.good HRF.len (ba : Int)
    rw [this]
    exact N.reg.l
  unfold RCollSaid
  rw [hm] at MAY ⊢
  dsimp only
  rw [N.collWs]
  have hfo := N.first
  have hoo := N.other
  rw [hfo, hoo] at gc PL ⊢
  obtain ⟨hb, hh, hs, htp⟩ := h
  have e1 : hb = (ba : Int) := N.base
  have e2 : hh = (H : Int) := N.half
  have e3 : hs = (sp : Int) := N.space
  subst e1; subst e2; subst e3
  have hlo := N.lo; have hhi := N.hi; have hone := N.one
  have hsz := gc.size
  have hmayF : ∀ y ∈ liveF (sp * H) Hs roots, mayO y.2 = true := fun y hy => gc.hs.may y (gc.fin.sub y hy)
  have hofF : ∀ i y, (liveF (sp * H) Hs roots)[i]? = some y → offF (liveF (sp * H) Hs roots) y.1 = sizeF ((liveF (sp * H) Hs roots).take i) := fun i y hy => offF_at gc.fin hy
  have hgq : gq < w.heap.size := HRF.lt.2
  have HQ := Lib.hid HRF.lt.1
  have HREG := Lib.hid N.reg
  have HRA := Lib.hid HRF
  have HLEN := Lib.hid HRF.len
  clear hW hr hr64 hm hok ht ha N gc HRF hfo hoo
  generalize liveF (sp * H) Hs roots = F at *
  obtain ⟨f, hf⟩ : ∃ f, f = newW (sp * H) ((1 - sp) * H) F := ⟨_, rfl⟩
  rw [← hf]
  have HFF := Lib.hid hf
  clear hf
  obtain ⟨V0, hV0e⟩ : ∃ V0, V0 = wordsAt ws R (ba : Int) := ⟨_, rfl⟩
  rw [← hV0e] at hself hV0
  have HSELF := Lib.hid hself; have HV0 := Lib.hid hV0; have HMF := Lib.hid hmayF; have HOF := Lib.hid hofF
  clear hV0e hself hmayF hofF hV0
  have hspH : (1 - sp) * H ≤ H := sp_le (by omega)
  go_enter Tryz.func13, Tryz.ntmps13
  go_wp2_with fail
  refine at_alloc2 fun W hE hS b0 b1 => ?_
  refine (MAY.out _ hE).mono ?_
  rintro e w1 ⟨rfl, hx1⟩
  rw [Option.isSome_some]
  have HX := Lib.hid (hE.trans hx1)
  have B4 := Lib.hid ((Below.block hx1 _ (Array.getElem?_eq_some_iff.1 b0).1).trans b0)
  have B6 := Lib.hid ((Below.block hx1 _ (Array.getElem?_eq_some_iff.1 b1).1).trans b1)
  clear hE hS b0 b1 hx1 MAY
  obtain ⟨b6, hb6⟩ : ∃ b6, b6 = w.heap.size + 1 := ⟨_, rfl⟩
  rw [← hb6] at B6 ⊢
  obtain ⟨b4, hb4⟩ : ∃ b4, b4 = w.heap.size := ⟨_, rfl⟩
  have hb4' : w.heap.size ≤ b4 ∧ w.heap.size ≤ b6 := by omega
  rw [← hb4] at B4 ⊢
  have HB4 := Lib.hid hb4
  clear hb6 hb4
  obtain ⟨y0, y1, y2, y3⟩ := cells4 B4.out
  go_wp2_with fail
  refine (PL.out _ HX.out).mono ?_
  intro e w2 hp
  unfold PlanSaid at hp
  rw [← HFF.out] at hp
  obtain ⟨mb, vf, vt, vo, vw, rows, qo, co, rfl, hM, hO, hx2⟩ := hp
  have hsz1 := Below.size HX.out
  have HX2 := Lib.hid (HX.out.trans hx2)
  have hR0 : Rc w w2 q gq B0 n ba mb b4 b6 ws V0 vR R ⟨ba, H, sp, htp⟩ vf vt vo vw (.slice qo roots.length co) (LFo (sp * H) F) (LTo ((1 - sp) * H) F) (F.map fun y => mapO f y.2) (rvV ws R ⟨ba, H, sp, htp⟩) rows (sizeF F) (roots.map f) :=
    ⟨by rw [HSELF.out]; exact HRA.out.ext HX2.out, ⟨hM.m.mono hsz1, hM.blk, Nat.le_trans hsz1 hM.ge⟩, hO.mono hsz1, (Below.block hx2 _ (Array.getElem?_eq_some_iff.1 B4.out).1).trans B4.out, (Below.block hx2 _ (Array.getElem?_eq_some_iff.1 B6.out).1).trans B6.out, Turn.of_ext HX2.out, hgq, hb4'.1, hb4'.2⟩
  have HR0 := Lib.hid hR0
  clear hM hO hx2 hR0 B4 B6 PL y0 y1 y2 y3 HX
  generalize rvV ws R ⟨ba, H, sp, htp⟩ = VV at *
  go_wp2_with fail
  go_loopw [9] (fun v wx => ∃ a : Nat, a ≤ 2 * H ∧ v = .int .i64 a ∧ Rc w wx q gq B0 n ba mb b4 b6 ws (List.replicate a 0 ++ V0.drop a) vR R ⟨ba, H, sp, htp⟩ vf vt vo vw (.slice qo roots.length co) (LFo (sp * H) F) (LTo ((1 - sp) * H) F) (F.map fun y => mapO f y.2) VV rows (sizeF F) (roots.map f)) (fun v _ => 2 * H - (Go.RowKit.intOf v).toNat)
  case atStart => exact ⟨0, Nat.zero_le _, rfl, by simpa using HR0.out⟩
  case round =>
    obtain ⟨a, ha, rfl, hrc⟩ := hrel
    have HRC := Lib.hid hrc
    clear hrc HR0
    obtain ⟨y0, y1, y2, y3⟩ := cells4 HRC.out.h4
    by_cases hlt : a < 2 * H
    · have i1 : (a : Int) < 2 * (H : Int) := by omega
      go_wp2_with fail
      refine (setR_said HRC.out.a (x := (ba : Int)) (a := (a : Int)) (v := 0)).mono ?_
      rintro e w3 ⟨rfl, hA, hT⟩
      rw [HREG.out.set HLEN.out (by rw [List.length_append, List.length_replicate, List.length_drop, HV0.out]; omega) hlt, zero_step (by rw [HV0.out]; exact hlt)] at hA
      have HRC2 := Lib.hid (HRC.out.set hA hT)
      clear hA hT y0 y1 y2 y3
      go_wp2
      exact ⟨⟨a + 1, by omega, by go_num, HRC2.out⟩, by simp [Go.RowKit.intOf]; omega⟩
    · obtain rfl : a = 2 * H := by omega
      have i1 : ¬ ((2 * H : Nat) : Int) < 2 * (H : Int) := by omega
      have hz : List.replicate (2 * H) (0 : Int) ++ V0.drop (2 * H) = mkV sp (List.replicate H 0) (layL ((F.map fun y => mapO f y.2).take 0) ++ List.replicate (H - sizeL ((F.map fun y => mapO f y.2).take 0)) 0) := by
        rw [List.drop_eq_nil_of_le (by rw [HV0.out]; exact Nat.le_refl _), List.append_nil, List.take_zero]
        have : layL ([] : List Ob) = [] := rfl
        rw [this, show sizeL ([] : List Ob) = 0 from rfl, List.nil_append, Nat.sub_zero, Nat.two_mul, ← List.replicate_append_replicate]
        unfold mkV
        split <;> rfl
      have hR1 := HRC.out
      rw [hz] at hR1
      have HR1 := Lib.hid hR1
      clear hR1 hz HRC hlt ha
      generalize wr = wq at *
      have hrows : rows.length = F.length := by rw [HR1.out.m.m.len, List.length_map]
      have HROWS := Lib.hid hrows
      clear hrows
      go_wp2_with fail
      clear y0 y1 y2 y3 i1
      go_loopw [10] (fun v wx => ∃ i : Nat, i ≤ F.length ∧ v = .int .i64 i ∧ Rc w wx q gq B0 n ba mb b4 b6 ws (mkV sp (List.replicate H 0) (layL ((F.map fun y => mapO f y.2).take i) ++ List.replicate (H - sizeL ((F.map fun y => mapO f y.2).take i)) 0)) vR R ⟨ba, H, sp, htp⟩ vf vt vo vw (.slice qo roots.length co) (LFo (sp * H) F) (LTo ((1 - sp) * H) F) (F.map fun y => mapO f y.2) VV rows (sizeF F) (roots.map f)) (fun v _ => F.length - (Go.RowKit.intOf v).toNat)
      case atStart => exact ⟨0, Nat.zero_le _, rfl, HR1.out⟩
      case round =>
        obtain ⟨i, hi, rfl, hrc⟩ := hrel
        have HRC := Lib.hid hrc
        clear hrc HR1
        obtain ⟨qv, cv, rfl, hv1, hv2⟩ := HRC.out.m.m.o.len
        obtain ⟨qt, ct, rfl, ht1, ht2⟩ := HRC.out.m.m.t.len
        unfold maxLen at hv2 ht2
        obtain ⟨z0, z1, z2, z3, -⟩ := cells9 HRC.out.m.blk
        rw [HROWS.out] at z2 hv1
        have htl : ((LTo ((1 - sp) * H) F).map numC).length = F.length := by unfold LTo; rw [List.length_map, List.length_map]
        rw [htl] at z1 ht1
        clear htl
        obtain ⟨y0, y1, y2, y3⟩ := cells4 HRC.out.h4
        by_cases hlt : i < F.length
        · --<<A
          have i1 : (i : Int) < (F.length : Int) := by omega
          obtain ⟨y, hy⟩ : ∃ y, F[i]? = some y := ⟨_, List.getElem?_eq_getElem hlt⟩
          obtain ⟨o, ho⟩ : ∃ o, o = mapO f y.2 := ⟨_, rfl⟩
          have hLo : (F.map fun y => mapO f y.2)[i]? = some o := by rw [List.getElem?_map, hy, ho]; rfl
          have hmo : mayO o = true := by rw [ho, mapO_may]; exact HMF.out y (List.mem_of_getElem? hy)
          have hof := HOF.out i y hy
          obtain ⟨r, hr⟩ : ∃ r, rows[i]? = some r := ⟨_, List.getElem?_eq_getElem (by rw [HROWS.out]; exact hlt)⟩
          obtain ⟨q3, c3, hre, ho3, -⟩ := HRC.out.m.m.row i o r hLo hr
          obtain ⟨go, e3, -, k0, -⟩ := HRC.out.m.m.o.cell (i := i) (f := 0) hr (u := .int .i64 o.kind) (by rw [hre]; rfl)
          obtain rfl : qv = some ⟨go, 0, none⟩ := e3
          obtain ⟨g1, e4, -, k1, -⟩ := HRC.out.m.m.o.cell (i := i) (f := 1) hr (u := .int .i64 o.tag) (by rw [hre]; rfl)
          obtain ⟨g2, e5, -, k2, -⟩ := HRC.out.m.m.o.cell (i := i) (f := 2) hr (u := .slice q3 o.fields.length c3) (by rw [hre]; rfl)
          obtain ⟨g3, e6, -, k3, -⟩ := HRC.out.m.m.o.cell (i := i) (f := 3) hr (u := .string o.text) (by rw [hre]; rfl)
          obtain ⟨rfl, _⟩ := Addr.mk.inj (Option.some.inj e4)
          obtain ⟨rfl, _⟩ := Addr.mk.inj (Option.some.inj e5)
          obtain ⟨rfl, _⟩ := Addr.mk.inj (Option.some.inj e6)
          rw [Nat.add_zero] at k0
          have HY := Lib.hid hy; have HO := Lib.hid ho; have HLO := Lib.hid hLo; have HMO := Lib.hid hmo; have HOFY := Lib.hid hof; have HO3 := Lib.hid ho3
          clear hy ho hLo hof hr hre ho3 e4 e5 e6
          go_wp2_with fail
          refine (lay_is o hmo c3 q3 wr HO3.out.p).mono ?_
          rintro e w3 ⟨v, rfl, hl, hx3⟩
          obtain ⟨ql, cl, rfl, hl1, hl2⟩ := hl.len
          have hll : ((layO o).map wordC).length = wordsO o := by rw [List.length_map, layO_len hmo]
          rw [hll] at hl hl1 ⊢
          unfold maxLen at hl2
          have hgl : gq < wr.heap.size := HRC.out.a.lt.2
          have HL := Lib.hid (hl.mono (show gq + 1 ≤ wr.heap.size by omega))
          have HR3 := Lib.hid (HRC.out.ext hx3)
          have hwo : wordsO o ≤ 401 := by
            have := (mayK_bounds (show mayK o.kind o.tag o.fields.length o.text.size = true from hmo)).2.2.2.2.2.2.2
            unfold wordsO
            omega
          clear hl hx3 hll HRC k0 k1 k2 k3 z0 z1 z2 z3 y0 y1 y2 y3 HO3 hmo
          go_wp2_with fail
          have hti : (1 - sp) * H + offF F y.1 = (1 - sp) * H + sizeL ((F.map fun y => mapO f y.2).take i) := by rw [HOFY.out, ← List.map_take, sizeL_map]
          obtain ⟨L, hL⟩ : ∃ L, L = (F.map fun y => mapO f y.2).take i := ⟨_, rfl⟩
          have hLm : ∀ o ∈ L, mayO o = true := by
            intro o ho
            rw [hL] at ho
            obtain ⟨z, hz, rfl⟩ := List.mem_map.1 (List.mem_of_mem_take ho)
            rw [mapO_may]
            exact HMF.out z hz
          have hLs : sizeL L + wordsO o ≤ H := by
            have h1 : sizeF F = sizeF (F.take i) + sizeF (F.drop i) := by rw [← sizeF_app, List.take_append_drop]
            rw [List.drop_eq_getElem_cons hlt] at h1
            have h2 := HY.out
            rw [List.getElem?_eq_getElem hlt] at h2
            rw [Option.some.inj h2] at h1
            simp only [sizeF] at h1
            rw [hL, ← List.map_take, sizeL_map, HO.out, mapO_words]
            omega
          have hLn : (F.map fun y => mapO f y.2).take (i + 1) = L ++ [o] := by rw [List.take_add_one, HLO.out, hL]; rfl
          have hR3 := HR3.out
          rw [← hL] at hti hR3
          obtain ⟨ti, htie⟩ : ∃ ti, ti = (1 - sp) * H + offF F y.1 := ⟨_, rfl⟩
          have htT : (LTo ((1 - sp) * H) F)[i]? = some (ti : Int) := by unfold LTo; rw [List.getElem?_map, HY.out, htie]; rfl
          rw [← htie] at hti
          have HTI := Lib.hid hti; have HLM := Lib.hid hLm; have HLN := Lib.hid hLn; have HTT := Lib.hid htT
          have HRL := Lib.hid hR3
          have hti8 : ti ≤ 8000 := by omega
          clear hti hL hLm hLn htie htT hR3 HR3 HLO HOFY
          obtain ⟨lt, hltq⟩ : ∃ lt, lt = (List.map numC (LTo ((1 - sp) * H) F)).length := ⟨_, rfl⟩
          have hltF : lt = F.length := by rw [hltq]; unfold LTo; rw [List.length_map, List.length_map]
          rw [← hltq] at HRL
          have HLTF := Lib.hid hltF
          have HLTQ := Lib.hid hltq
          clear hltF hltq
          go_loopw [12] (fun v wx => ∃ k : Nat, k ≤ wordsO o ∧ v = .int .i64 k ∧ Rc w wx q gq B0 n ba mb b4 b6 ws (mkV sp (List.replicate H 0) (cpB H L o k)) vR R ⟨ba, H, sp, htp⟩ vf (.slice qt lt ct) (.slice (some ⟨go, 0, none⟩) rows.length cv) vw (.slice qo roots.length co) (LFo (sp * H) F) (LTo ((1 - sp) * H) F) (F.map fun y => mapO f y.2) VV rows (sizeF F) (roots.map f) ∧ OwnP wx (gq + 1) 51 (.slice ql (wordsO o) cl) 1 ((layO o).map wordC)) (fun v _ => wordsO o - (Go.RowKit.intOf v).toNat)
          case atStart => exact ⟨0, Nat.zero_le _, rfl, by rw [cpB_none]; exact HRL.out, HL.out⟩
          case round =>
            obtain ⟨k, hk, rfl, hrc, hl⟩ := hrel
            have HRC := Lib.hid hrc; have HL2 := Lib.hid hl
            clear hrc hl HRL HL
            by_cases hkl : k < wordsO o
            · --<<B
              have i2 : (k : Int) < (wordsO o : Int) := by omega
              have hly : (layO o).length = wordsO o := layO_len HMO.out
              obtain ⟨lk, hlk⟩ : ∃ lk, (layO o)[k]? = some lk := ⟨_, List.getElem?_eq_getElem (by omega)⟩
              obtain ⟨gl, rfl, -, c3', -⟩ := HL2.out.cell (i := k) (f := 0) (cs := wordC lk) (u := .int .u64 lk) (by rw [List.getElem?_map, hlk]; rfl) rfl
              obtain ⟨gt, rfl, c2⟩ := numcell HRC.out.m.m.t HTT.out
              rw [Nat.add_zero, Nat.mul_one] at c3'
              obtain ⟨-, z1, -⟩ := cells9 HRC.out.m.blk
              rw [HLTF.out] at z1
              obtain ⟨y0, -⟩ := cells4 HRC.out.h4
              have wra : IntKind.i64.wrap ((ti : Int) + (k : Int)) = ((ti + k : Nat) : Int) := by rw [IntWalk.i64_in _ (by omega)]; omega
              have j1 : (0 : Int) ≤ (k : Int) := by omega
              have j2 : (0 : Int) ≤ (i : Int) := by omega
              have HLK := Lib.hid hlk
              clear hlk hly
              go_upto_region 15 with fail
              have HK0 := Lib.hid (show wr.cell? ⟨b4, 0, none⟩ = some (.int .i64 (ba : Int)) ∧ wr.cell? ⟨mb, 1, none⟩ = some (.slice (some ⟨gt, 0, none⟩) F.length ct) ∧ wr.cell? ⟨gt, i, none⟩ = some (.int .i64 (ti : Int)) ∧ wr.cell? ⟨gl, k, none⟩ = some (.int .u64 lk) from ⟨y0, z1, c2, c3'⟩)
              clear y0 z1 c2 c3'
              refine wp_region_noPanic ?_
              refine wp_region_last 16 (S := (fun w' => w'.cell? ⟨b4, 0, none⟩ = some (.int .i64 (ba : Int)) ∧ w'.cell? ⟨mb, 1, none⟩ = some (.slice (some ⟨gt, 0, none⟩) F.length ct) ∧ w'.cell? ⟨gt, i, none⟩ = some (.int .i64 (ti : Int)) ∧ w'.cell? ⟨gl, k, none⟩ = some (.int .u64 lk))) (by kernel_rfl) (by kernel_rfl) _ rfl ?_ (fun hHeld => ?_)
              · (exact (Ext.drew _).cells4k HK0.out)
              simp only [List.take_succ_cons, List.take_zero]
              refine wpAnyH_take (i := 0) (v := ?v1) rfl (by kernel_rfl) (by kernel_rfl) (by kernel_rfl) (fun _ _ _ h => h) (Or.inl ⟨by rfl, ?y1⟩) (by assumption) ?r1
              case y1 => intro w hSw; (try dsimp only at hSw); go_simp; (try with_reducible rfl)
              (try simp only [Act.put, setIfInBounds_toArray, set_cons_zero, set_cons_succ, getElem_toArray, getElem_cons_zero, getElem_cons_succ])
              refine wpAnyH_take (i := 1) (v := ?v2) rfl (by kernel_rfl) (by kernel_rfl) (by kernel_rfl) (fun _ _ _ h => h) (Or.inl ⟨by rfl, ?y2⟩) (by assumption) ?r2
              case y2 => intro w hSw; (try dsimp only at hSw); go_simp; (try with_reducible rfl)
              (try simp only [Act.put, setIfInBounds_toArray, set_cons_zero, set_cons_succ, getElem_toArray, getElem_cons_zero, getElem_cons_succ])
              refine wpAnyH_take (i := 2) (v := ?v3) rfl (by kernel_rfl) (by kernel_rfl) (by kernel_rfl) (fun _ _ _ h => h) (Or.inl ⟨by rfl, ?y3⟩) (by assumption) ?r3
              case y3 => intro w hSw; (try dsimp only at hSw); go_simp; (try with_reducible rfl)
              (try simp only [Act.put, setIfInBounds_toArray, set_cons_zero, set_cons_succ, getElem_toArray, getElem_cons_zero, getElem_cons_succ])
              refine wpAnyH_take (i := 3) (v := ?v4) rfl (by kernel_rfl) (by kernel_rfl) (by kernel_rfl) (fun _ _ _ h => h) (Or.inl ⟨by rfl, ?y4⟩) (by assumption) ?r4
              case y4 => intro w hSw; (try dsimp only at hSw); go_simp; (try with_reducible rfl)
              (try simp only [Act.put, setIfInBounds_toArray, set_cons_zero, set_cons_succ, getElem_toArray, getElem_cons_zero, getElem_cons_succ])
              refine wpAnyH_take (i := 4) (v := ?v5) rfl (by kernel_rfl) (by kernel_rfl) (by kernel_rfl) (fun _ _ _ h => h) (Or.inl ⟨by rfl, ?y5⟩) (by assumption) ?r5
              case y5 => intro w hSw; (try dsimp only at hSw); go_simp; (try with_reducible rfl)
              (try simp only [Act.put, setIfInBounds_toArray, set_cons_zero, set_cons_succ, getElem_toArray, getElem_cons_zero, getElem_cons_succ])
              refine wpAnyH_take (i := 5) (v := ?v6) rfl (by kernel_rfl) (by kernel_rfl) (by kernel_rfl) (fun _ _ _ h => h) (Or.inl ⟨by rfl, ?y6⟩) (by assumption) ?r6
              case y6 => intro w hSw; (try dsimp only at hSw); go_simp; (try with_reducible rfl)
              (try simp only [Act.put, setIfInBounds_toArray, set_cons_zero, set_cons_succ, getElem_toArray, getElem_cons_zero, getElem_cons_succ])
              refine wpAnyH_take (i := 6) (v := ?v7) rfl (by kernel_rfl) (by kernel_rfl) (by kernel_rfl) (fun _ _ _ h => h) (Or.inl ⟨by rfl, ?y7⟩) (by assumption) ?r7
              case y7 => intro w hSw; (try dsimp only at hSw); go_simp; (try with_reducible rfl)
              (try simp only [Act.put, setIfInBounds_toArray, set_cons_zero, set_cons_succ, getElem_toArray, getElem_cons_zero, getElem_cons_succ])
              refine wpAnyH_take (i := 7) (v := ?v8) rfl (by kernel_rfl) (by kernel_rfl) (by kernel_rfl) (fun _ _ _ h => h) (Or.inl ⟨by rfl, ?y8⟩) (by assumption) ?r8
              case y8 => intro w hSw; (try dsimp only at hSw); go_simp; (try with_reducible rfl)
              (try simp only [Act.put, setIfInBounds_toArray, set_cons_zero, set_cons_succ, getElem_toArray, getElem_cons_zero, getElem_cons_succ])
              refine wpAnyH_take (i := 8) (v := ?v9) rfl (by kernel_rfl) (by kernel_rfl) (by kernel_rfl) (fun _ _ _ h => h) (Or.inl ⟨by rfl, ?y9⟩) (by assumption) ?r9
              case y9 => intro w hSw; (try dsimp only at hSw); go_simp; (try with_reducible rfl)
              (try simp only [Act.put, setIfInBounds_toArray, set_cons_zero, set_cons_succ, getElem_toArray, getElem_cons_zero, getElem_cons_succ])
              refine wpAnyH_take (i := 9) (v := ?v10) rfl (by kernel_rfl) (by kernel_rfl) (by kernel_rfl) (fun _ _ _ h => h) (Or.inl ⟨by rfl, ?y10⟩) (by assumption) ?r10
              case y10 => intro w hSw; (try dsimp only at hSw); go_simp; (try with_reducible rfl)
              (try simp only [Act.put, setIfInBounds_toArray, set_cons_zero, set_cons_succ, getElem_toArray, getElem_cons_zero, getElem_cons_succ])
              refine wpAnyH_take (i := 10) (v := ?v11) rfl (by kernel_rfl) (by kernel_rfl) (by kernel_rfl) (fun _ _ _ h => h) (Or.inl ⟨by rfl, ?y11⟩) (by assumption) ?r11
              case y11 => intro w hSw; (try dsimp only at hSw); go_simp; (try with_reducible rfl)
              (try simp only [Act.put, setIfInBounds_toArray, set_cons_zero, set_cons_succ, getElem_toArray, getElem_cons_zero, getElem_cons_succ])
              refine wpAnyH_take (i := 11) (v := ?v12) rfl (by kernel_rfl) (by kernel_rfl) (by kernel_rfl) (fun _ _ _ h => h) (Or.inl ⟨by rfl, ?y12⟩) (by assumption) ?r12
              case y12 => intro w hSw; (try dsimp only at hSw); go_simp; (try with_reducible rfl)
              (try simp only [Act.put, setIfInBounds_toArray, set_cons_zero, set_cons_succ, getElem_toArray, getElem_cons_zero, getElem_cons_succ])
              refine wpAnyH_take (i := 12) (v := ?v13) rfl (by kernel_rfl) (by kernel_rfl) (by kernel_rfl) (fun _ _ _ h => h) (Or.inl ⟨by rfl, ?y13⟩) (by assumption) ?r13
              case y13 => intro w hSw; (try dsimp only at hSw); go_simp; (try with_reducible rfl)
              (try simp only [Act.put, setIfInBounds_toArray, set_cons_zero, set_cons_succ, getElem_toArray, getElem_cons_zero, getElem_cons_succ])
              refine wpAnyH_take (i := 13) (v := ?v14) rfl (by kernel_rfl) (by kernel_rfl) (by kernel_rfl) (fun _ _ _ h => h) (Or.inl ⟨by rfl, ?y14⟩) (by assumption) ?r14
              case y14 => intro w hSw; (try dsimp only at hSw); go_simp; (try with_reducible rfl)
              (try simp only [Act.put, setIfInBounds_toArray, set_cons_zero, set_cons_succ, getElem_toArray, getElem_cons_zero, getElem_cons_succ])
              refine wpAnyH_take (i := 14) (v := ?v15) rfl (by kernel_rfl) (by kernel_rfl) (by kernel_rfl) (fun _ _ _ h => h) (Or.inl ⟨by rfl, ?y15⟩) (by assumption) ?r15
              case y15 => intro w hSw; (try dsimp only at hSw); go_simp; (try with_reducible rfl)
              (try simp only [Act.put, setIfInBounds_toArray, set_cons_zero, set_cons_succ, getElem_toArray, getElem_cons_zero, getElem_cons_succ])
              refine wpAnyH_take (i := 15) (v := ?v16) rfl (by kernel_rfl) (by kernel_rfl) (by kernel_rfl) (fun _ _ _ h => h) (Or.inl ⟨by rfl, ?y16⟩) (by assumption) ?r16
              case y16 => intro w hSw; (try dsimp only at hSw); go_simp; (try with_reducible rfl)
              (try simp only [Act.put, setIfInBounds_toArray, set_cons_zero, set_cons_succ, getElem_toArray, getElem_cons_zero, getElem_cons_succ])
              refine wpAnyH_done (by kernel_rfl) ?_ _
              show wpList _ _ _ _ _ _
              clear hHeld
              go_wp2_with fail
              refine (setR_said (HRC.out.ext (Ext.drew _)).a (x := (ba : Int)) (a := ((ti + k : Nat) : Int)) (v := lk)).mono ?_
              rintro e w5 ⟨rfl, hA, hT⟩
              rw [HREG.out.set HLEN.out (mkV_len (by simp) (cpB_len HLM.out hLs HMO.out hk)) (by have := HTI.out; omega), HTI.out, Nat.add_assoc, mkV_setB (H := H) hone (by simp) (cpB_len HLM.out hLs HMO.out hk) (by omega), cpB_set HLM.out hLs HMO.out HLK.out] at hA
              have HRC2 := Lib.hid ((HRC.out.ext (Ext.drew _)).set hA hT)
              have HL3 := Lib.hid (own_lows (HL2.out.ext (Ext.drew _)) hT (by omega))
              clear hA hT HK0 wra
              go_wp2
              refine NoPanic.normal ?_
              go_wp2
              exact ⟨⟨k + 1, by omega, by go_num, HRC2.out, HL3.out⟩, by simp [Go.RowKit.intOf]; omega⟩
              -->>B
            · obtain rfl : k = wordsO o := by omega
              have i2 : ¬ ((wordsO o : Nat) : Int) < (wordsO o : Int) := by omega
              go_wp2
              have hrc := HRC.out
              rw [cpB_all HMO.out, ← HLN.out, HLTQ.out] at hrc
              exact ⟨⟨i + 1, by omega, by go_num, hrc⟩, by simp [Go.RowKit.intOf]; omega⟩
          -->>A
        · obtain rfl : i = F.length := by omega
          have i1 : ¬ ((F.length : Nat) : Int) < (F.length : Int) := by omega
          go_upto_region 16 with fail
          have hfin := HRC.out
          have hV9 : layL ((F.map fun y => mapO f y.2).take F.length) ++ List.replicate (H - sizeL ((F.map fun y => mapO f y.2).take F.length)) 0 = gcB H f F := by
            rw [List.take_of_length_le (by rw [List.length_map]; exact Nat.le_refl _), sizeL_map]
            rfl
          rw [hV9] at hfin
          have HFIN := Lib.hid hfin
          clear hfin hV9 HRC
          have HK0 := Lib.hid (show wr.cell? ⟨b4, 0, none⟩ = some (.int .i64 (ba : Int)) ∧ wr.cell? ⟨b4, 1, none⟩ = some (.int .i64 (H : Int)) ∧ wr.cell? ⟨b4, 2, none⟩ = some (.int .i64 (sp : Int)) ∧ wr.cell? ⟨mb, 3, none⟩ = some (.int .i64 ((sizeF F : Nat) : Int)) from ⟨y0, y1, y2, z3⟩)
          have wrb : IntKind.i64.wrap (1 - (sp : Int)) = 1 - (sp : Int) := IntWalk.i64_in _ (by omega)
          clear y0 y1 y2 y3 z0 z1 z2 z3
          refine wp_region_noPanic ?_
          refine wp_region_last 14 (S := (fun w' => w'.cell? ⟨b4, 0, none⟩ = some (.int .i64 (ba : Int)) ∧ w'.cell? ⟨b4, 1, none⟩ = some (.int .i64 (H : Int)) ∧ w'.cell? ⟨b4, 2, none⟩ = some (.int .i64 (sp : Int)) ∧ w'.cell? ⟨mb, 3, none⟩ = some (.int .i64 ((sizeF F : Nat) : Int)))) (by kernel_rfl) (by kernel_rfl) _ rfl ?_ (fun hHeld => ?_)
          · (exact (Ext.drew _).cells4k HK0.out)
          simp only [List.take_succ_cons, List.take_zero]
          refine wpAnyH_take (i := 0) (v := ?v17) rfl (by kernel_rfl) (by kernel_rfl) (by kernel_rfl) (fun _ _ _ h => h) (Or.inl ⟨by rfl, ?y17⟩) (by assumption) ?r17
          case y17 => intro w hSw; (try dsimp only at hSw); go_simp; (try with_reducible rfl)
          (try simp only [Act.put, setIfInBounds_toArray, set_cons_zero, set_cons_succ, getElem_toArray, getElem_cons_zero, getElem_cons_succ])
          refine wpAnyH_take (i := 1) (v := ?v18) rfl (by kernel_rfl) (by kernel_rfl) (by kernel_rfl) (fun _ _ _ h => h) (Or.inl ⟨by rfl, ?y18⟩) (by assumption) ?r18
          case y18 => intro w hSw; (try dsimp only at hSw); go_simp; (try with_reducible rfl)
          (try simp only [Act.put, setIfInBounds_toArray, set_cons_zero, set_cons_succ, getElem_toArray, getElem_cons_zero, getElem_cons_succ])
          refine wpAnyH_take (i := 2) (v := ?v19) rfl (by kernel_rfl) (by kernel_rfl) (by kernel_rfl) (fun _ _ _ h => h) (Or.inl ⟨by rfl, ?y19⟩) (by assumption) ?r19
          case y19 => intro w hSw; (try dsimp only at hSw); go_simp; (try with_reducible rfl)
          (try simp only [Act.put, setIfInBounds_toArray, set_cons_zero, set_cons_succ, getElem_toArray, getElem_cons_zero, getElem_cons_succ])
          refine wpAnyH_take (i := 3) (v := ?v20) rfl (by kernel_rfl) (by kernel_rfl) (by kernel_rfl) (fun _ _ _ h => h) (Or.inl ⟨by rfl, ?y20⟩) (by assumption) ?r20
          case y20 => intro w hSw; (try dsimp only at hSw); go_simp; (try with_reducible rfl)
          (try simp only [Act.put, setIfInBounds_toArray, set_cons_zero, set_cons_succ, getElem_toArray, getElem_cons_zero, getElem_cons_succ])
          refine wpAnyH_take (i := 4) (v := ?v21) rfl (by kernel_rfl) (by kernel_rfl) (by kernel_rfl) (fun _ _ _ h => h) (Or.inl ⟨by rfl, ?y21⟩) (by assumption) ?r21
          case y21 => intro w hSw; (try dsimp only at hSw); go_simp; (try with_reducible rfl)
          (try simp only [Act.put, setIfInBounds_toArray, set_cons_zero, set_cons_succ, getElem_toArray, getElem_cons_zero, getElem_cons_succ])
          refine wpAnyH_take (i := 5) (v := ?v22) rfl (by kernel_rfl) (by kernel_rfl) (by kernel_rfl) (fun _ _ _ h => h) (Or.inl ⟨by rfl, ?y22⟩) (by assumption) ?r22
          case y22 => intro w hSw; (try dsimp only at hSw); go_simp; (try with_reducible rfl)
          (try simp only [Act.put, setIfInBounds_toArray, set_cons_zero, set_cons_succ, getElem_toArray, getElem_cons_zero, getElem_cons_succ])
          refine wpAnyH_take (i := 6) (v := ?v23) rfl (by kernel_rfl) (by kernel_rfl) (by kernel_rfl) (fun _ _ _ h => h) (Or.inl ⟨by rfl, ?y23⟩) (by assumption) ?r23
          case y23 => intro w hSw; (try dsimp only at hSw); go_simp; (try with_reducible rfl)
          (try simp only [Act.put, setIfInBounds_toArray, set_cons_zero, set_cons_succ, getElem_toArray, getElem_cons_zero, getElem_cons_succ])
          refine wpAnyH_take (i := 7) (v := ?v24) rfl (by kernel_rfl) (by kernel_rfl) (by kernel_rfl) (fun _ _ _ h => h) (Or.inl ⟨by rfl, ?y24⟩) (by assumption) ?r24
          case y24 => intro w hSw; (try dsimp only at hSw); go_simp; (try with_reducible rfl)
          (try simp only [Act.put, setIfInBounds_toArray, set_cons_zero, set_cons_succ, getElem_toArray, getElem_cons_zero, getElem_cons_succ])
          refine wpAnyH_take (i := 8) (v := ?v25) rfl (by kernel_rfl) (by kernel_rfl) (by kernel_rfl) (fun _ _ _ h => h) (Or.inl ⟨by rfl, ?y25⟩) (by assumption) ?r25
          case y25 => intro w hSw; (try dsimp only at hSw); go_simp; (try with_reducible rfl)
          (try simp only [Act.put, setIfInBounds_toArray, set_cons_zero, set_cons_succ, getElem_toArray, getElem_cons_zero, getElem_cons_succ])
          refine wpAnyH_take (i := 9) (v := ?v26) rfl (by kernel_rfl) (by kernel_rfl) (by kernel_rfl) (fun _ _ _ h => h) (Or.inl ⟨by rfl, ?y26⟩) (by assumption) ?r26
          case y26 => intro w hSw; (try dsimp only at hSw); go_simp; (try with_reducible rfl)
          (try simp only [Act.put, setIfInBounds_toArray, set_cons_zero, set_cons_succ, getElem_toArray, getElem_cons_zero, getElem_cons_succ])
          refine wpAnyH_take (i := 10) (v := ?v27) rfl (by kernel_rfl) (by kernel_rfl) (by kernel_rfl) (fun _ _ _ h => h) (Or.inl ⟨by rfl, ?y27⟩) (by assumption) ?r27
          case y27 => intro w hSw; (try dsimp only at hSw); go_simp; (try with_reducible rfl)
          (try simp only [Act.put, setIfInBounds_toArray, set_cons_zero, set_cons_succ, getElem_toArray, getElem_cons_zero, getElem_cons_succ])
          refine wpAnyH_take (i := 11) (v := ?v28) rfl (by kernel_rfl) (by kernel_rfl) (by kernel_rfl) (fun _ _ _ h => h) (Or.inl ⟨by rfl, ?y28⟩) (by assumption) ?r28
          case y28 => intro w hSw; (try dsimp only at hSw); go_simp; (try with_reducible rfl)
          (try simp only [Act.put, setIfInBounds_toArray, set_cons_zero, set_cons_succ, getElem_toArray, getElem_cons_zero, getElem_cons_succ])
          refine wpAnyH_take (i := 12) (v := ?v29) rfl (by kernel_rfl) (by kernel_rfl) (by kernel_rfl) (fun _ _ _ h => h) (Or.inl ⟨by rfl, ?y29⟩) (by assumption) ?r29
          case y29 => intro w hSw; (try dsimp only at hSw); go_simp; (try with_reducible rfl)
          (try simp only [Act.put, setIfInBounds_toArray, set_cons_zero, set_cons_succ, getElem_toArray, getElem_cons_zero, getElem_cons_succ])
          refine wpAnyH_take (i := 13) (v := ?v30) rfl (by kernel_rfl) (by kernel_rfl) (by kernel_rfl) (fun _ _ _ h => h) (Or.inl ⟨by rfl, ?y30⟩) (by assumption) ?r30
          case y30 => intro w hSw; (try dsimp only at hSw); go_simp; (try with_reducible rfl)
          (try simp only [Act.put, setIfInBounds_toArray, set_cons_zero, set_cons_succ, getElem_toArray, getElem_cons_zero, getElem_cons_succ])
          refine wpAnyH_done (by kernel_rfl) ?_ _
          show wpList _ _ _ _ _ _
          clear hHeld
          have h6 := HFIN.out.h6
          have f0 := free_at h6 (i := 0)
          have f1 := free_at h6 (i := 1)
          have f2 := free_at h6 (i := 2)
          have f3 := free_at h6 (i := 3)
          have f4 := free_at h6 (i := 4)
          have f5 := free_at h6 (i := 5)
          obtain ⟨y0, y1, y2, y3, y4, y5⟩ := cells6 h6
          have H6 := Lib.hid h6
          clear h6 HK0
          go_wp2
          refine NoPanic.normal ?_
          go_wp2
          have hfil := fill6 H6.out (.int .i64 (ba : Int)) (.int .i64 (H : Int)) (.int .i64 (1 - (sp : Int))) (.int .i64 ((sizeF F : Nat) : Int)) (.slice qo roots.length co) (.bool true)
          refine post_gen (fun W => W.heap[b6]? = some (.cells #[.int .i64 (ba : Int), .int .i64 (H : Int), .int .i64 (1 - (sp : Int)), .int .i64 ((sizeF F : Nat) : Int), .slice qo roots.length co, .bool true] 43 (0, 0)) ∧ Turn [b6] wr W) ⟨hfil.1, hfil.2.1.trans (Turn.of_ext (Ext.drew _))⟩ fun W6 hW6 => ?_
          obtain ⟨c6, hT6⟩ := hW6
          clear y0 y1 y2 y3 y4 y5 f0 f1 f2 f3 f4 f5 hfil
          obtain ⟨y0, y1, y2, y3, y4, y5⟩ := cells6 c6
          refine bodyPost_ret (v := .agg #[.int .i64 (ba : Int), .int .i64 (H : Int), .int .i64 (1 - (sp : Int)), .int .i64 ((sizeF F : Nat) : Int), .slice qo roots.length co, .bool true]) (by simp [results, Tryz.results13, go_sem, y0, y1, y2, y3, y4, y5]) rfl ?_
          obtain ⟨l1, l2, l3⟩ := HFIN.out.lt
          have hb6 : ∀ b ∈ [b6], w.heap.size ≤ b := fun b hb => by rw [List.mem_singleton.1 hb]; exact l3
          exact ⟨qo, co, rfl, HFIN.out.a.turn_new HRA.out hT6 hb6, HFIN.out.o.turn hT6 (fun b hb hm => HFIN.out.o.not_at H6.out (by decide) (by rw [List.mem_singleton.1 hm] at hb; exact hb)), turn_two HFIN.out.t hT6 hb6⟩
open Go Go.RowKit Go.Deep Go.Maps Arena
theorem rcoll_is {w : World} {q gq B0 n : Nat} {ws : List Int} {vR : Value} {R : List (Nat × Nat)} {qr : Option Addr} {c : Nat} {roots : List Int} (H : RefAt w q gq B0 n ws vR R) (h : Hp) (hW : ∀ x ∈ ws, W64 x) (hr : RowsP w (.slice qr roots.length c) 1 (roots.map wordC)) (hr64 : ∀ x ∈ roots, W64 x) (hrl : roots.length ≤ 1000) :
    Calls Tryz.prog 13 #[.pointer (some ⟨q, 0, none⟩), .agg #[.int .i64 h.base, .int .i64 h.half, .int .i64 h.space, .int .i64 h.top], .slice qr roots.length c] w (RCollSaid ws R q gq B0 n vR h roots w) := by
  cases hm : mayH ws R h roots with
  | none => exact rcoll_no H h hW hr hr64 hrl hm
  | some Hs => exact rcoll_yes H h hW hr hr64 hrl hm
def RRoomSaid (ws : List Int) (R : List (Nat × Nat)) (q gq B0 n : Nat) (vR : Value) (h : Hp) (roots : List Int) (k : Int) (w : World) (e : Ending) (w' : World) : Prop :=
  match (if k < 0 then none else mayH ws R h roots) with
  | none => e = .returned (.agg #[.int .i64 0, .int .i64 0, .int .i64 0, .int .i64 0, .slice none 0 0, .bool false]) ∧ Ext w w'
  | some Hs => if k ≤ h.half - h.top then ∃ qo co, e = .returned (.agg #[.int .i64 h.base, .int .i64 h.half, .int .i64 h.space, .int .i64 h.top, .slice qo roots.length co, .bool true]) ∧ OwnP w' w.heap.size 51 (.slice qo roots.length co) 1 (roots.map wordC) ∧ Ext w w'
    else ∃ qo co, e = .returned (.agg #[.int .i64 h.base, .int .i64 h.half, .int .i64 (1 - h.space), .int .i64 ((sizeF (liveF (firstN h) Hs roots) : Nat) : Int), .slice qo roots.length co, .bool (decide (k ≤ h.half - (sizeF (liveF (firstN h) Hs roots) : Nat)))]) ∧ RefAt w' q gq B0 n (collWs ws h (liveF (firstN h) Hs roots)) vR R ∧
      OwnP w' w.heap.size 51 (.slice qo roots.length co) 1 ((roots.map (newW (firstN h) (otherN h) (liveF (firstN h) Hs roots))).map wordC) ∧ Turn [gq] w w'
theorem own_empty3 (W : World) (T : TypeId) : OwnP (W.alloc (.cells #[] T)) W.heap.size T (.slice (some ⟨W.heap.size, 0, none⟩) 0 0) 1 [] :=
  OwnP.of_form (l := []) (cap := 0) (cur := #[]) (Rows1.nil 1) (Nat.le_refl _) (heap_alloc_new _ _) (Nat.le_refl _) (Nat.zero_le _) rfl rfl
theorem rroom_is {w : World} {q gq B0 n : Nat} {ws : List Int} {vR : Value} {R : List (Nat × Nat)} {qr : Option Addr} {c : Nat} {roots : List Int} (H : RefAt w q gq B0 n ws vR R) (h : Hp) (hW : ∀ x ∈ ws, W64 x) (hr : RowsP w (.slice qr roots.length c) 1 (roots.map wordC)) (hr64 : ∀ x ∈ roots, W64 x) (hrl : roots.length ≤ 1000) (k : Int) :
    Calls Tryz.prog 16 #[.pointer (some ⟨q, 0, none⟩), .agg #[.int .i64 h.base, .int .i64 h.half, .int .i64 h.space, .int .i64 h.top], .slice qr roots.length c, .int .i64 k] w (RRoomSaid ws R q gq B0 n vR h roots k w) := by
  have HM := Lib.hid (fun W (e : Ext w W) => rmay_is (H.ext e) h hW (hr.ext e) hr64 (by omega))
  have HC := Lib.hid (fun W (e : Ext w W) => rcoll_is (H.ext e) h hW (hr.ext e) hr64 hrl)
  have HRR := Lib.hid hr
  obtain ⟨lq, lg⟩ := H.lt
  unfold RRoomSaid
  by_cases hk : k < 0
  · rw [if_pos hk]
    dsimp only
    clear H hW hr hr64 HM HC HRR
    go_enter Tryz.func16, Tryz.ntmps16
    go_upto_region 1 with fail
    refine wp_alloc2 fun W hE hS b0 b1 => ?_
    have HX := Lib.hid hE
    have f0 := free_at b1 (i := 0)
    have f1 := free_at b1 (i := 1)
    have f2 := free_at b1 (i := 2)
    have f3 := free_at b1 (i := 3)
    have f4 := free_at b1 (i := 4)
    have f5 := free_at b1 (i := 5)
    obtain ⟨y0, y1, y2, y3, y4, y5⟩ := cells6 b1
    go_wp2
    refine post_fill6 b1 fun W6 c6 hT6 _ => ?_
    clear y0 y1 y2 y3 y4 y5
    obtain ⟨y0, y1, y2, y3, y4, y5⟩ := cells6 c6
    refine bodyPost_ret (v := .agg #[.int .i64 0, .int .i64 0, .int .i64 0, .int .i64 0, .slice none 0 0, .bool false]) (by simp [results, Tryz.results16, go_sem, y0, y1, y2, y3, y4, y5]) rfl ?_
    exact ⟨rfl, Turn.after HX.out hT6 (by intro b hb; rw [List.mem_singleton.1 hb]; omega)⟩
  · rw [if_neg hk]
    cases hm : mayH ws R h roots with
    | none =>
      dsimp only
      rw [hm] at HM
      rw [Option.isSome_none] at HM
      clear H hW hr hr64 HC hm HRR
      go_enter Tryz.func16, Tryz.ntmps16
      go_wp2_with fail
      refine at_alloc2 fun W hE hS b0 b1 => ?_
      refine (HM.out W hE).mono ?_
      rintro e w1 ⟨rfl, hx1⟩
      have c1 := (Below.block hx1 (w.heap.size + 1) (by omega)).trans b1
      have HX := Lib.hid (hE.trans hx1)
      clear hx1 hE hS b0 b1
      have f0 := free_at c1 (i := 0)
      have f1 := free_at c1 (i := 1)
      have f2 := free_at c1 (i := 2)
      have f3 := free_at c1 (i := 3)
      have f4 := free_at c1 (i := 4)
      have f5 := free_at c1 (i := 5)
      obtain ⟨y0, y1, y2, y3, y4, y5⟩ := cells6 c1
      go_wp2
      refine post_fill6 c1 fun W6 c6 hT6 _ => ?_
      clear y0 y1 y2 y3 y4 y5
      obtain ⟨y0, y1, y2, y3, y4, y5⟩ := cells6 c6
      refine bodyPost_ret (v := .agg #[.int .i64 0, .int .i64 0, .int .i64 0, .int .i64 0, .slice none 0 0, .bool false]) (by simp [results, Tryz.results16, go_sem, y0, y1, y2, y3, y4, y5]) rfl ?_
      exact ⟨rfl, Turn.after HX.out hT6 (by intro b hb; rw [List.mem_singleton.1 hb]; omega)⟩
    | some Hs =>
      dsimp only
      rw [hm] at HM
      rw [Option.isSome_some] at HM
      unfold RCollSaid at HC
      rw [hm] at HC
      dsimp only at HC
      obtain ⟨ha, _⟩ := mayH_some hm
      have hok := (thereB_ok (allH_there ha).1).1
      obtain ⟨a1, a2, a3, a4, a5, a6⟩ := hok
      have gcs : sizeF (liveF (firstN h) Hs roots) ≤ 2000 := by
        have h1 := (FinF.live (firstN h) Hs roots).size.1
        have h2 := (allH_ok H.good H.len ha).size
        omega
      have HRA := Lib.hid H
      clear H hW hr hr64 hm ha
      generalize liveF (firstN h) Hs roots = Fin at *
      by_cases hfit : k ≤ h.half - h.top
      · simp only [if_pos hfit]
        have hd : decide (k ≤ h.half - h.top) = true := decide_eq_true hfit
        clear HC
        go_enter Tryz.func16, Tryz.ntmps16
        go_wp2_with fail
        refine at_alloc2 fun W hE hS b0 b1 => ?_
        refine (HM.out W hE).mono ?_
        rintro e w1 ⟨rfl, hx1⟩
        have HB0 := Lib.hid ((Below.block hx1 w.heap.size (by omega)).trans b0)
        have HB1 := Lib.hid ((Below.block hx1 (w.heap.size + 1) (by omega)).trans b1)
        have HX := Lib.hid (hE.trans hx1)
        clear hx1 hE hS b0 b1 HM
        obtain ⟨b1, hb1⟩ : ∃ b1, b1 = w.heap.size + 1 := ⟨_, rfl⟩
        rw [← hb1] at HB1 ⊢
        obtain ⟨b0, hb0⟩ : ∃ b0, b0 = w.heap.size := ⟨_, rfl⟩
        rw [← hb0] at HB0 ⊢
        have HZ := Lib.hid (show b0 = w.heap.size ∧ b1 = w.heap.size + 1 from ⟨hb0, hb1⟩)
        clear hb0 hb1
        obtain ⟨z0, z1, z2, z3⟩ := cells4 HB0.out
        go_upto_region 4 with fail
        clear z0 z1 z2 z3
        refine wp_region_noPanic ?_
        refine wp_region_last 5 (S := (fun w' => w'.cell? ⟨b0, 0, none⟩ = some (.int .i64 h.base) ∧ w'.cell? ⟨b0, 1, none⟩ = some (.int .i64 h.half) ∧ w'.cell? ⟨b0, 2, none⟩ = some (.int .i64 h.space) ∧ w'.cell? ⟨b0, 3, none⟩ = some (.int .i64 h.top))) (by kernel_rfl) (by kernel_rfl) _ rfl ?_ (fun hHeld => ?_)
        · skip
          have hXW := HX.out.trans (Ext.drew w1)
          have hB0 := (Below.block (Ext.drew w1) _ (Array.getElem?_eq_some_iff.1 HB0.out).1).trans HB0.out
          have hB1 := (Below.block (Ext.drew w1) _ (Array.getElem?_eq_some_iff.1 HB1.out).1).trans HB1.out
          have hsz := (Array.getElem?_eq_some_iff.1 HB1.out).1
          have hsz2 := Below.size (Ext.drew w1)
          generalize w1.drew = W at *
          (exact cells4 hB0)
        have hXW := HX.out.trans (Ext.drew w1)
        have hB0 := (Below.block (Ext.drew w1) _ (Array.getElem?_eq_some_iff.1 HB0.out).1).trans HB0.out
        have hB1 := (Below.block (Ext.drew w1) _ (Array.getElem?_eq_some_iff.1 HB1.out).1).trans HB1.out
        have hsz := (Array.getElem?_eq_some_iff.1 HB1.out).1
        have hsz2 := Below.size (Ext.drew w1)
        generalize w1.drew = W at *
        simp only [List.take_succ_cons, List.take_zero]
        refine wpAnyH_take (i := 0) (v := ?v1) rfl (by kernel_rfl) (by kernel_rfl) (by kernel_rfl) (fun _ _ _ h => h) (Or.inl ⟨by rfl, ?y1⟩) (by assumption) ?r1
        case y1 => intro w hSw; (try dsimp only at hSw); go_simp; (try with_reducible rfl)
        (try simp only [Act.put, setIfInBounds_toArray, set_cons_zero, set_cons_succ, getElem_toArray, getElem_cons_zero, getElem_cons_succ])
        refine wpAnyH_take (i := 2) (v := ?v2) rfl (by kernel_rfl) (by kernel_rfl) (by kernel_rfl) (fun _ _ _ h => h) (Or.inl ⟨by rfl, ?y2⟩) (by assumption) ?r2
        case y2 => intro w hSw; (try dsimp only at hSw); go_simp; (try with_reducible rfl)
        (try simp only [Act.put, setIfInBounds_toArray, set_cons_zero, set_cons_succ, getElem_toArray, getElem_cons_zero, getElem_cons_succ])
        refine wpAnyH_ready (rs := [1]) (by kernel_rfl) (by simp) ?_
        refine AllReadyH.cons rfl (fun K hK => ?_) AllReadyH.nil
        go_simp
        have e1 := Ext.alloc W (.cells #[] 51)
        have nE := own_empty3 W 51
        have hbn : w.heap.size + 1 < W.heap.size := by have := HZ.out; omega
        replace hB0 := (Below.block e1 _ (Array.getElem?_eq_some_iff.1 hB0).1).trans hB0
        replace hB1 := (Below.block e1 _ (Array.getElem?_eq_some_iff.1 hB1).1).trans hB1
        replace hXW := hXW.trans e1
        clear e1 hsz2
        generalize W.heap.size = nEb at *
        generalize W.alloc (.cells #[] 51) = W at *
        refine hK.out _ _ ?s3 (fun hHeld => ?k3)
        case s3 => ((try dsimp only); (exact cells4 hB0))
        clear hK K
        (try simp only [Act.put, setIfInBounds_toArray, set_cons_zero, set_cons_succ, getElem_toArray, getElem_cons_zero, getElem_cons_succ])
        refine wpAnyH_ready (rs := [3]) (by kernel_rfl) (by simp) ?_
        refine AllReadyH.cons rfl (fun K hK => ?_) AllReadyH.nil
        have hz := HZ.out
        refine step_append_rows E64 (by rfl) _ _ (by rfl) (w.heap.size + 2) (.slice (some ⟨nEb, 0, none⟩) 0 0) (.slice qr roots.length c) [] (roots.map wordC) (by rfl) (nE.mono (by omega)) (by rfl) (HRR.out.ext hXW) (by simp; unfold maxLen; omega) (by simp; omega) (by have := (Array.getElem?_eq_some_iff.1 hB1).1; omega) ?_
        intro v2 W2 hf2 hg2 hb2 _
        have hXW2 : Ext w W2 := Below.grown hXW hg2 (Below.size hXW) (fun b hb => by simp [Value.ownBlock] at hb; omega)
        have hB02 := (hg2.block b0 (Array.getElem?_eq_some_iff.1 hB0).1 (by simp [Value.ownBlock]; omega)).trans hB0
        have hB12 := (hg2.block b1 (Array.getElem?_eq_some_iff.1 hB1).1 (by simp [Value.ownBlock]; omega)).trans hB1
        clear hXW hB0 hB1 hg2 hb2 nE hbn hz
        have hXW := hXW2
        have hB0 := hB02
        have hB1 := hB12
        clear hXW2 hB02 hB12
        rw [List.nil_append] at hf2
        obtain ⟨q2, c2, rfl, hl2, _⟩ := hf2.len
        rw [List.length_map] at hf2 ⊢
        generalize W2 = W at *
        refine hK.out _ _ ?s4 (fun hHeld => ?k4)
        case s4 => ((try dsimp only); (exact cells4 hB0))
        clear hK K
        (try simp only [Act.put, setIfInBounds_toArray, set_cons_zero, set_cons_succ, getElem_toArray, getElem_cons_zero, getElem_cons_succ])
        refine wpAnyH_take (i := 4) (v := ?v5) rfl (by kernel_rfl) (by kernel_rfl) (by kernel_rfl) (fun _ _ _ h => h) (Or.inl ⟨by rfl, ?y5⟩) (by assumption) ?r5
        case y5 => intro w hSw; (try dsimp only at hSw); go_simp; (try with_reducible rfl)
        (try simp only [Act.put, setIfInBounds_toArray, set_cons_zero, set_cons_succ, getElem_toArray, getElem_cons_zero, getElem_cons_succ])
        refine wpAnyH_done (by kernel_rfl) ?_ _
        show wpList _ _ _ _ _ _
        clear hHeld
        have f0 := free_at hB1 (i := 0)
        have f1 := free_at hB1 (i := 1)
        have f2 := free_at hB1 (i := 2)
        have f3 := free_at hB1 (i := 3)
        have f4 := free_at hB1 (i := 4)
        have f5 := free_at hB1 (i := 5)
        obtain ⟨y0, y1, y2, y3, y4, y5⟩ := cells6 hB1
        have H1 := Lib.hid hB1; have HO := Lib.hid hf2; have HXW := Lib.hid hXW
        clear hB0 hB1 hf2 hXW
        go_wp2
        refine NoPanic.normal ?_
        go_wp2
        refine post_fill6 H1.out fun W6 c6 hT6 _ => ?_
        clear y0 y1 y2 y3 y4 y5
        obtain ⟨y0, y1, y2, y3, y4, y5⟩ := cells6 c6
        refine bodyPost_ret (v := .agg #[.int .i64 h.base, .int .i64 h.half, .int .i64 h.space, .int .i64 h.top, .slice q2 roots.length c2, .bool true]) (by simp [results, Tryz.results16, go_sem, y0, y1, y2, y3, y4, y5]) rfl ?_
        have hz := HZ.out
        exact ⟨q2, c2, rfl, (HO.out.turn hT6 (fun b hb hm => HO.out.not_at H1.out (by decide) (by rw [List.mem_singleton.1 hm] at hb; exact hb))).mono (by omega), Turn.after HXW.out hT6 (by intro b hb; rw [List.mem_singleton.1 hb]; omega)⟩
      · simp only [if_neg hfit]
        have hd : decide (k ≤ h.half - h.top) = false := decide_eq_false hfit
        clear HRR
        go_enter Tryz.func16, Tryz.ntmps16
        go_wp2_with fail
        refine at_alloc2 fun W hE hS b0 b1 => ?_
        refine (HM.out W hE).mono ?_
        rintro e w1 ⟨rfl, hx1⟩
        have HB0 := Lib.hid ((Below.block hx1 w.heap.size (by omega)).trans b0)
        have HB1 := Lib.hid ((Below.block hx1 (w.heap.size + 1) (by omega)).trans b1)
        have HX := Lib.hid (hE.trans hx1)
        clear hx1 hE hS b0 b1 HM
        obtain ⟨b1, hb1⟩ : ∃ b1, b1 = w.heap.size + 1 := ⟨_, rfl⟩
        rw [← hb1] at HB1 ⊢
        obtain ⟨b0, hb0⟩ : ∃ b0, b0 = w.heap.size := ⟨_, rfl⟩
        rw [← hb0] at HB0 ⊢
        have HZ := Lib.hid (show b0 = w.heap.size ∧ b1 = w.heap.size + 1 from ⟨hb0, hb1⟩)
        clear hb0 hb1
        obtain ⟨z0, z1, z2, z3⟩ := cells4 HB0.out
        go_wp2_with fail
        refine (HC.out _ HX.out).mono ?_
        rintro e w2 ⟨q2, c2, rfl, hA2, ho2, hT2⟩
        have A2 := Lib.hid hA2; have O2 := Lib.hid ho2; have T2 := Lib.hid hT2
        have hz := HZ.out
        have hl1 := (Array.getElem?_eq_some_iff.1 HB1.out).1
        have HLE := Lib.hid (Below.size HX.out)
        have D1 := Lib.hid ((hT2.block b1 hl1 (by simp; omega)).trans HB1.out)
        clear hA2 ho2 hT2 z0 z1 z2 z3 HC hl1 hz HB0
        go_upto_region 6 with fail
        refine wp_alloc1 fun W3 x3 _ e3 => ?_
        have hz := HZ.out
        have hs2 := T2.out.size
        have hl1 := (Array.getElem?_eq_some_iff.1 HB1.out).1
        have A3 := Lib.hid (A2.out.ext x3)
        have O3 := Lib.hid (O2.out.ext x3)
        have T3 := Lib.hid (Turn.trans (Turn.of_ext (bs := [gq]) HX.out) (T2.out.trans (Turn.of_ext x3)))
        have D3 := Lib.hid ((Below.block x3 b1 (Array.getElem?_eq_some_iff.1 D1.out).1).trans D1.out)
        have hb9 : b1 < w2.heap.size := by omega
        clear x3 A2 O2 T2 D1 hz hs2 hl1 HX HB1
        obtain ⟨b9, hb9e⟩ : ∃ b9, b9 = w2.heap.size := ⟨_, rfl⟩
        rw [← hb9e] at e3 hb9 ⊢
        clear hb9e
        obtain ⟨z0, z1, z2, z3, z4, z5⟩ := cells6 e3
        have g5 := free_at e3 (i := 5)
        have hd2 : IntKind.i64.wrap (h.half - ((sizeF Fin : Nat) : Int)) = h.half - ((sizeF Fin : Nat) : Int) := IntWalk.i64_in _ (by omega)
        go_upto_region 7 with fail
        refine wp_gen (fun W => W.heap[b9]? = some (.cells #[.int .i64 h.base, .int .i64 h.half, .int .i64 (1 - h.space), .int .i64 ((sizeF Fin : Nat) : Int), .slice q2 roots.length c2, .bool (decide (k ≤ h.half - ((sizeF Fin : Nat) : Int)))] 43 (0, 0)) ∧ Turn [b9] W3 W) ⟨by have := (fill1 (i := 5) e3 (.bool (decide (k ≤ h.half - ((sizeF Fin : Nat) : Int))))).1; simpa using this, (fill1 (i := 5) e3 (.bool (decide (k ≤ h.half - ((sizeF Fin : Nat) : Int))))).2.1⟩ fun W4 hW4 => ?_
        obtain ⟨e4, t4⟩ := hW4
        have D4 := Lib.hid ((t4.block b1 (Array.getElem?_eq_some_iff.1 D3.out).1 (by simp; omega)).trans D3.out)
        have T4 := Lib.hid t4
        have E3 := Lib.hid e3
        clear z0 z1 z2 z3 z4 z5 g5 e3 t4 D3
        obtain ⟨z0, z1, z2, z3, z4, z5⟩ := cells6 e4
        have h4 := D4.out
        have f0 := free_at h4 (i := 0)
        have f1 := free_at h4 (i := 1)
        have f2 := free_at h4 (i := 2)
        have f3 := free_at h4 (i := 3)
        have f4 := free_at h4 (i := 4)
        have f5 := free_at h4 (i := 5)
        obtain ⟨x0, x1, x2, x3, x4, x5⟩ := cells6 h4
        clear h4
        go_wp2
        refine post_fill6 D4.out fun W6 c6 hT6 _ => ?_
        clear x0 x1 x2 x3 x4 x5 z0 z1 z2 z3 z4 z5 f0 f1 f2 f3 f4 f5
        obtain ⟨y0, y1, y2, y3, y4, y5⟩ := cells6 c6
        refine bodyPost_ret (v := .agg #[.int .i64 h.base, .int .i64 h.half, .int .i64 (1 - h.space), .int .i64 ((sizeF Fin : Nat) : Int), .slice q2 roots.length c2, .bool (decide (k ≤ h.half - ((sizeF Fin : Nat) : Int)))]) (by simp [results, Tryz.results16, go_sem, y0, y1, y2, y3, y4, y5]) rfl ?_
        have hz := HZ.out
        have hh9 : ∀ b ∈ [b9], w.heap.size ≤ b := fun b hb => by rw [List.mem_singleton.1 hb]; omega
        have hh1 : ∀ b ∈ [b1], w.heap.size ≤ b := fun b hb => by rw [List.mem_singleton.1 hb]; omega
        have O4 := O3.out.turn T4.out (fun b hb hm => O3.out.not_at E3.out (by decide) (by rw [List.mem_singleton.1 hm] at hb; exact hb))
        have O5 := O4.turn hT6 (fun b hb hm => O4.not_at D4.out (by decide) (by rw [List.mem_singleton.1 hm] at hb; exact hb))
        exact ⟨q2, c2, rfl, (A3.out.turn_new HRA.out T4.out hh9).turn_new HRA.out hT6 hh1, O5.mono HLE.out, turn_two (turn_two T3.out T4.out hh9) hT6 hh1⟩
open Go.RowKit Go.Maps Arena
structure Tw (w3 W : World) (p g bm q gq B n t0 t1 : Nat) (vR : Value) (ws : List Int) (R : List (Nat × Nat)) (h : Hp) : Prop where
  a : ArenaAt W p g bm n ws R
  r : RefAt W q gq B n ws vR R
  r0 : ∃ ws0, RefAt w3 q gq B n ws0 vR R
  two : W.heap[t0]? = some (.cells #[.pointer (some ⟨p, 0, none⟩), .pointer (some ⟨q, 0, none⟩)] 32 (0, 0))
  hp : W.heap[t1]? = some (.cells #[.int .i64 h.base, .int .i64 h.half, .int .i64 h.space, .int .i64 h.top] 24 (0, 0))
  t : Turn [g, gq] w3 W
  lt : p < q ∧ g < q ∧ bm < q ∧ p < gq ∧ g < gq ∧ bm < gq
  st : w3.heap.size ≤ t0 ∧ t0 < t1
  bs : B ≤ w3.heap.size
section
variable {w3 W W' : World} {p g bm q gq B n t0 t1 : Nat} {vR : Value} {ws ws' : List Int} {R : List (Nat × Nat)} {h h' : Hp}
theorem Tw.low (k : Tw w3 W p g bm q gq B n t0 t1 vR ws R h) : p < w3.heap.size ∧ g < w3.heap.size ∧ bm < w3.heap.size ∧ q < w3.heap.size ∧ gq < w3.heap.size := by
  obtain ⟨ws0, h0⟩ := k.r0
  obtain ⟨h1, h2⟩ := h0.lt
  obtain ⟨l1, l2, l3, l4, l5, l6⟩ := k.lt
  omega
theorem Tw.ext (k : Tw w3 W p g bm q gq B n t0 t1 vR ws R h) (e : Ext W W') : Tw w3 W' p g bm q gq B n t0 t1 vR ws R h :=
  ⟨k.a.ext e, k.r.ext e, k.r0, (Below.block e _ (Array.getElem?_eq_some_iff.1 k.two).1).trans k.two, (Below.block e _ (Array.getElem?_eq_some_iff.1 k.hp).1).trans k.hp, k.t.trans (Turn.of_ext e), k.lt, k.st, k.bs⟩
theorem Tw.fill (k : Tw w3 W p g bm q gq B n t0 t1 vR ws R h) (c : W'.heap[t1]? = some (.cells #[.int .i64 h'.base, .int .i64 h'.half, .int .i64 h'.space, .int .i64 h'.top] 24 (0, 0))) (t : Turn [t1] W W') : Tw w3 W' p g bm q gq B n t0 t1 vR ws R h' := by
  obtain ⟨m1, m2, m3, m4, m5⟩ := k.low
  obtain ⟨s1, s2⟩ := k.st
  obtain ⟨ws0, h0⟩ := k.r0
  refine ⟨k.a.turn t (by simp; omega) (by simp; omega) (by simp; omega), k.r.turn_new h0 t fun b hm => by rw [List.mem_singleton.1 hm]; omega, k.r0, t.keep k.two (by omega), c,
    ⟨t.os.trans k.t.os, t.tape.trans k.t.tape, t.output.trans k.t.output, Nat.le_trans k.t.size t.size, fun i hi hn => (t.block i (Nat.lt_of_lt_of_le hi k.t.size) fun hm => ?_).trans (k.t.block i hi hn)⟩, k.lt, k.st, k.bs⟩
  rw [List.mem_singleton.1 hm] at hi; omega
theorem Tw.mid (k : Tw w3 W p g bm q gq B n t0 t1 vR ws R h) (t : Turn [g] W W') : RefAt W' q gq B n ws vR R ∧ W'.heap[t0]? = some (.cells #[.pointer (some ⟨p, 0, none⟩), .pointer (some ⟨q, 0, none⟩)] 32 (0, 0)) ∧
    W'.heap[t1]? = some (.cells #[.int .i64 h.base, .int .i64 h.half, .int .i64 h.space, .int .i64 h.top] 24 (0, 0)) ∧ B ≤ W'.heap.size := by
  obtain ⟨m1, m2, m3, m4, m5⟩ := k.low
  obtain ⟨l1, l2, l3, l4, l5, l6⟩ := k.lt
  obtain ⟨s1, s2⟩ := k.st
  have := k.r.qB
  refine ⟨k.r.turn t (by simp; omega) (by simp; omega) (by simp; omega), t.keep k.two (by omega), t.keep k.hp (by omega), ?_⟩
  have := k.bs
  have := k.t.size
  have := t.size
  omega
theorem Tw.done {w : World} (k : Tw w3 W p g bm q gq B n t0 t1 vR ws R h) (e : Ext w w3) (hg : w.heap.size ≤ g) : Ext w W := by
  obtain ⟨l1, l2, l3, l4, l5, l6⟩ := k.lt
  exact Turn.after e k.t (by intro b hb; simp at hb; omega)
end
theorem same_tw {w3 W : World} {p g bm q gq B n t0 t1 m : Nat} {vR : Value} {ws : List Int} {h : Hp} (k : Tw w3 W p g bm q gq B n t0 t1 vR ws (rigR m) h) (hm : 1 ≤ m) (hz : ws.take 3 = [0, 0, 0]) : Calls Tryz.prog 11 #[.agg #[.pointer (some ⟨p, 0, none⟩), .pointer (some ⟨q, 0, none⟩)], .int .i64 3] W fun e w' => e = .returned (.bool true) ∧ Ext W w' := by
  obtain ⟨m1, m2, m3, m4, m5⟩ := k.low
  refine same_yes (w0 := { W with heap := #[] }) (B := B) ⟨k.a, ⟨vR, k.r⟩, k.lt, ?_, Nat.le_trans k.bs k.t.size, ?_⟩ hm hz
  · exact ⟨Nat.zero_le _, Nat.zero_le _, Nat.zero_le _⟩
  · exact ⟨rfl, rfl, rfl, Nat.zero_le _, fun i hi => absurd hi (Nat.not_lt_zero _)⟩
open Go Go.RowKit Go.Deep Go.Maps Arena
structure Gt where
  ws : List Int
  b : Int
  hf : Int
  sp : Int
  tp : Int
  rs : List Int
  ok : Bool
def gotC (ws : List Int) (R : List (Nat × Nat)) (h : Hp) (roots : List Int) : Gt :=
  match mayH ws R h roots with
  | none => ⟨ws, 0, 0, 0, 0, [], false⟩
  | some Hs => ⟨collWs ws h (liveF (firstN h) Hs roots), h.base, h.half, 1 - h.space, (sizeF (liveF (firstN h) Hs roots) : Nat), roots.map (newW (firstN h) (otherN h) (liveF (firstN h) Hs roots)), true⟩
def gotR (ws : List Int) (R : List (Nat × Nat)) (h : Hp) (roots : List Int) (k : Int) : Gt :=
  match (if k < 0 then none else mayH ws R h roots) with
  | none => ⟨ws, 0, 0, 0, 0, [], false⟩
  | some Hs => if k ≤ h.half - h.top then ⟨ws, h.base, h.half, h.space, h.top, roots, true⟩ else ⟨collWs ws h (liveF (firstN h) Hs roots), h.base, h.half, 1 - h.space, (sizeF (liveF (firstN h) Hs roots) : Nat), roots.map (newW (firstN h) (otherN h) (liveF (firstN h) Hs roots)), decide (k ≤ h.half - (sizeF (liveF (firstN h) Hs roots) : Nat))⟩
def PGot (G : Gt) (p g bm n : Nat) (R : List (Nat × Nat)) (w : World) (e : Ending) (w' : World) : Prop :=
  ∃ q c, e = .returned (.tuple #[.agg #[.int .i64 G.b, .int .i64 G.hf, .int .i64 G.sp, .int .i64 G.tp], .slice q G.rs.length c, .bool G.ok]) ∧ ArenaAt w' p g bm n G.ws R ∧ OwnP w' w.heap.size 51 (.slice q G.rs.length c) 1 (G.rs.map wordC) ∧ Turn [g] w w'
def RGot (G : Gt) (q gq B0 n : Nat) (vR : Value) (R : List (Nat × Nat)) (w : World) (e : Ending) (w' : World) : Prop :=
  ∃ qo c, e = .returned (.agg #[.int .i64 G.b, .int .i64 G.hf, .int .i64 G.sp, .int .i64 G.tp, .slice qo G.rs.length c, .bool G.ok]) ∧ RefAt w' q gq B0 n G.ws vR R ∧ OwnP w' w.heap.size 51 (.slice qo G.rs.length c) 1 (G.rs.map wordC) ∧ Turn [gq] w w'
section
variable {w : World} {p g bm n : Nat} {ws : List Int} {R : List (Nat × Nat)}
theorem pcoll_got (H : ArenaAt w p g bm n ws R) (h : Hp) (hw : (Lit.int .i64 h.base).wf = true) (hW : ∀ x ∈ ws, W64 x) {q : Option Addr} {c : Nat} {roots : List Int} (hr : RowStay w g (.slice q roots.length c) (roots.map wordC)) (hr64 : ∀ x ∈ roots, W64 x) (hrl : roots.length ≤ 100000) :
    Calls Tryz.prog 12 #[.pointer (some ⟨p, 0, none⟩), .agg #[.int .i64 h.base, .int .i64 h.half, .int .i64 h.space, .int .i64 h.top], .slice q roots.length c] w (PGot (gotC ws R h roots) p g bm n R w) := by
  refine (coll_is H h hw hW hr hr64 hrl).mono fun e w' he => ?_
  unfold CollSaid at he
  unfold gotC
  cases hm : mayH ws R h roots with
  | none =>
    rw [hm] at he
    obtain ⟨rfl, hx⟩ := he
    exact ⟨none, 0, rfl, H.ext hx, OwnP.nil _ _ _ _, Turn.of_ext hx⟩
  | some Hs =>
    rw [hm] at he
    obtain ⟨q, c, rfl, ha, ho, ht⟩ := he
    refine ⟨q, c, ?_, ha, ?_, ht⟩
    · dsimp only; rw [List.length_map]; rfl
    · dsimp only; rw [List.length_map]; exact ho
theorem proom_got (H : ArenaAt w p g bm n ws R) (h : Hp) (hw : (Lit.int .i64 h.base).wf = true) (hW : ∀ x ∈ ws, W64 x) {q : Option Addr} {c : Nat} {roots : List Int} (hr : RowStay w g (.slice q roots.length c) (roots.map wordC)) (hr64 : ∀ x ∈ roots, W64 x) (hrl : roots.length ≤ 100000) (k : Int) :
    Calls Tryz.prog 15 #[.pointer (some ⟨p, 0, none⟩), .agg #[.int .i64 h.base, .int .i64 h.half, .int .i64 h.space, .int .i64 h.top], .slice q roots.length c, .int .i64 k] w (PGot (gotR ws R h roots k) p g bm n R w) := by
  refine (room_is H h hw hW hr hr64 hrl k).mono fun e w' he => ?_
  unfold RoomSaid at he
  unfold gotR
  cases hm : (if k < 0 then none else mayH ws R h roots) with
  | none =>
    rw [hm] at he
    obtain ⟨rfl, hx⟩ := he
    exact ⟨none, 0, rfl, H.ext hx, OwnP.nil _ _ _ _, Turn.of_ext hx⟩
  | some Hs =>
    rw [hm] at he
    dsimp only at he ⊢
    by_cases hf : k ≤ h.half - h.top
    · rw [if_pos hf] at he ⊢
      obtain ⟨q, c, rfl, ho, hx⟩ := he
      exact ⟨q, c, rfl, H.ext hx, ho, Turn.of_ext hx⟩
    · rw [if_neg hf] at he ⊢
      obtain ⟨q, c, rfl, ha, ho, ht⟩ := he
      refine ⟨q, c, ?_, ha, ?_, ht⟩
      · dsimp only; rw [List.length_map]; rfl
      · dsimp only; rw [List.length_map]; exact ho
end
section
variable {w : World} {q gq B0 n : Nat} {ws : List Int} {vR : Value} {R : List (Nat × Nat)} {qr : Option Addr} {c : Nat} {roots : List Int}
theorem rcoll_got (H : RefAt w q gq B0 n ws vR R) (h : Hp) (hW : ∀ x ∈ ws, W64 x) (hr : RowsP w (.slice qr roots.length c) 1 (roots.map wordC)) (hr64 : ∀ x ∈ roots, W64 x) (hrl : roots.length ≤ 1000) :
    Calls Tryz.prog 13 #[.pointer (some ⟨q, 0, none⟩), .agg #[.int .i64 h.base, .int .i64 h.half, .int .i64 h.space, .int .i64 h.top], .slice qr roots.length c] w (RGot (gotC ws R h roots) q gq B0 n vR R w) := by
  refine (rcoll_is H h hW hr hr64 hrl).mono fun e w' he => ?_
  unfold RCollSaid at he
  unfold gotC
  cases hm : mayH ws R h roots with
  | none =>
    rw [hm] at he
    obtain ⟨rfl, hx⟩ := he
    exact ⟨none, 0, rfl, H.ext hx, OwnP.nil _ _ _ _, Turn.of_ext hx⟩
  | some Hs =>
    rw [hm] at he
    obtain ⟨q, c, rfl, ha, ho, ht⟩ := he
    refine ⟨q, c, ?_, ha, ?_, ht⟩
    · dsimp only; rw [List.length_map]
    · dsimp only; rw [List.length_map]; exact ho
theorem rroom_got (H : RefAt w q gq B0 n ws vR R) (h : Hp) (hW : ∀ x ∈ ws, W64 x) (hr : RowsP w (.slice qr roots.length c) 1 (roots.map wordC)) (hr64 : ∀ x ∈ roots, W64 x) (hrl : roots.length ≤ 1000) (k : Int) :
    Calls Tryz.prog 16 #[.pointer (some ⟨q, 0, none⟩), .agg #[.int .i64 h.base, .int .i64 h.half, .int .i64 h.space, .int .i64 h.top], .slice qr roots.length c, .int .i64 k] w (RGot (gotR ws R h roots k) q gq B0 n vR R w) := by
  refine (rroom_is H h hW hr hr64 hrl k).mono fun e w' he => ?_
  unfold RRoomSaid at he
  unfold gotR
  cases hm : (if k < 0 then none else mayH ws R h roots) with
  | none =>
    rw [hm] at he
    obtain ⟨rfl, hx⟩ := he
    exact ⟨none, 0, rfl, H.ext hx, OwnP.nil _ _ _ _, Turn.of_ext hx⟩
  | some Hs =>
    rw [hm] at he
    dsimp only at he ⊢
    by_cases hf : k ≤ h.half - h.top
    · rw [if_pos hf] at he ⊢
      obtain ⟨q, c, rfl, ho, hx⟩ := he
      exact ⟨q, c, rfl, H.ext hx, ho, Turn.of_ext hx⟩
    · rw [if_neg hf] at he ⊢
      obtain ⟨q, c, rfl, ha, ho, ht⟩ := he
      refine ⟨q, c, ?_, ha, ?_, ht⟩
      · dsimp only; rw [List.length_map]
      · dsimp only; rw [List.length_map]; exact ho
def liveM (ws : List Int) (R : List (Nat × Nat)) (h : Hp) (roots : List Int) : Int := match mayH ws R h roots with | none => -1 | some Hs => (sizeF (liveF (firstN h) Hs roots) : Nat)
theorem rlive_is (H : RefAt w q gq B0 n ws vR R) (h : Hp) (hW : ∀ x ∈ ws, W64 x) (hr : RowsP w (.slice qr roots.length c) 1 (roots.map wordC)) (hr64 : ∀ x ∈ roots, W64 x) (hrl : roots.length ≤ 1000) :
    Calls Tryz.prog 10 #[.pointer (some ⟨q, 0, none⟩), .agg #[.int .i64 h.base, .int .i64 h.half, .int .i64 h.space, .int .i64 h.top], .slice qr roots.length c] w fun e w' => e = .returned (.int .i64 (liveM ws R h roots)) ∧ Ext w w' := by
  unfold liveM
  cases hm : mayH ws R h roots with
  | none => exact rlive_no H h hW hr hr64 hrl hm
  | some Hs => exact rlive_yes H h hW hr hr64 hrl hm
end
theorem liveM_of (ws : List Int) (R : List (Nat × Nat)) (h : Hp) (roots : List Int) : ((mayH ws R h roots).isSome = true ∧ liveM ws R h roots = (liveN ws R h roots : Nat)) ∨ ((mayH ws R h roots).isSome = false ∧ liveM ws R h roots = -1 ∧ liveN ws R h roots = 0) := by
  unfold liveM liveN
  cases mayH ws R h roots with
  | none => exact .inr ⟨rfl, rfl, rfl⟩
  | some Hs => exact .inl ⟨rfl, rfl⟩
theorem collWs_take {ws : List Int} {h : Hp} (F : List (Nat × Ob)) (h3 : h.base = 3) (hl : 3 ≤ ws.length) : (collWs ws h F).take 3 = ws.take 3 := by
  unfold collWs regW
  rw [h3]
  show (ws.take 3 ++ _).take 3 = ws.take 3
  rw [List.take_append_of_le_length (by rw [List.length_take]; omega), List.take_take]
  rfl
theorem gotC_take {ws : List Int} {R : List (Nat × Nat)} {h : Hp} {roots : List Int} (h3 : h.base = 3) (hl : 3 ≤ ws.length) : (gotC ws R h roots).ws.take 3 = ws.take 3 := by
  unfold gotC
  cases mayH ws R h roots with
  | none => rfl
  | some Hs => exact collWs_take _ h3 hl
theorem gotR_take {ws : List Int} {R : List (Nat × Nat)} {h : Hp} {roots : List Int} {k : Int} (h3 : h.base = 3) (hl : 3 ≤ ws.length) : (gotR ws R h roots k).ws.take 3 = ws.take 3 := by
  unfold gotR
  cases (if k < 0 then none else mayH ws R h roots) with
  | none => rfl
  | some Hs =>
    dsimp only
    split
    · rfl
    · exact collWs_take _ h3 hl
structure Md (w3 W : World) (p g bm q gq B n t0 t1 : Nat) (vR : Value) (ws1 ws : List Int) (R : List (Nat × Nat)) (h : Hp) : Prop where
  a : ArenaAt W p g bm n ws1 R
  r : RefAt W q gq B n ws vR R
  r0 : ∃ ws0, RefAt w3 q gq B n ws0 vR R
  two : W.heap[t0]? = some (.cells #[.pointer (some ⟨p, 0, none⟩), .pointer (some ⟨q, 0, none⟩)] 32 (0, 0))
  hp : W.heap[t1]? = some (.cells #[.int .i64 h.base, .int .i64 h.half, .int .i64 h.space, .int .i64 h.top] 24 (0, 0))
  t : Turn [g, gq] w3 W
  lt : p < q ∧ g < q ∧ bm < q ∧ p < gq ∧ g < gq ∧ bm < gq
  st : w3.heap.size ≤ t0 ∧ t0 < t1
  bs : B ≤ w3.heap.size
section
variable {w3 W W' : World} {p g bm q gq B n t0 t1 : Nat} {vR : Value} {ws ws1 : List Int} {R : List (Nat × Nat)} {h : Hp}
theorem Tw.md (k : Tw w3 W p g bm q gq B n t0 t1 vR ws R h) (a : ArenaAt W' p g bm n ws1 R) (t : Turn [g] W W') : Md w3 W' p g bm q gq B n t0 t1 vR ws1 ws R h := by
  obtain ⟨r, m2, m3, m4⟩ := k.mid t
  exact ⟨a, r, k.r0, m2, m3, k.t.trans (t.mono (by simp)), k.lt, k.st, k.bs⟩
theorem Md.ext (k : Md w3 W p g bm q gq B n t0 t1 vR ws1 ws R h) (e : Ext W W') : Md w3 W' p g bm q gq B n t0 t1 vR ws1 ws R h :=
  ⟨k.a.ext e, k.r.ext e, k.r0, (Below.block e _ (Array.getElem?_eq_some_iff.1 k.two).1).trans k.two, (Below.block e _ (Array.getElem?_eq_some_iff.1 k.hp).1).trans k.hp, k.t.trans (Turn.of_ext e), k.lt, k.st, k.bs⟩
theorem Md.low (k : Md w3 W p g bm q gq B n t0 t1 vR ws1 ws R h) : p < w3.heap.size ∧ g < w3.heap.size ∧ bm < w3.heap.size ∧ q < w3.heap.size ∧ gq < w3.heap.size := by
  obtain ⟨ws0, h0⟩ := k.r0
  obtain ⟨h1, h2⟩ := h0.lt
  obtain ⟨l1, l2, l3, l4, l5, l6⟩ := k.lt
  omega
theorem Md.other (k : Md w3 W p g bm q gq B n t0 t1 vR ws1 ws R h) {bs : List Nat} (t : Turn bs W W') (hb : ∀ b ∈ bs, w3.heap.size ≤ b ∧ b ≠ t0 ∧ b ≠ t1) : Md w3 W' p g bm q gq B n t0 t1 vR ws1 ws R h := by
  obtain ⟨m1, m2, m3, m4, m5⟩ := k.low
  obtain ⟨ws0, h0⟩ := k.r0
  refine ⟨k.a.turn t (fun hm => ?_) (fun hm => ?_) (fun hm => ?_), k.r.turn_new h0 t fun b hm => (hb b hm).1, k.r0, (t.block _ (Array.getElem?_eq_some_iff.1 k.two).1 fun hm => (hb _ hm).2.1 rfl).trans k.two,
    (t.block _ (Array.getElem?_eq_some_iff.1 k.hp).1 fun hm => (hb _ hm).2.2 rfl).trans k.hp, ⟨t.os.trans k.t.os, t.tape.trans k.t.tape, t.output.trans k.t.output, Nat.le_trans k.t.size t.size, fun i hi hn => (t.block i (Nat.lt_of_lt_of_le hi k.t.size) fun hm => ?_).trans (k.t.block i hi hn)⟩, k.lt, k.st, k.bs⟩
  · have := (hb _ hm).1; omega
  · have := (hb _ hm).1; omega
  · have := (hb _ hm).1; omega
  · have := (hb _ hm).1; omega
theorem Md.done (k : Md w3 W p g bm q gq B n t0 t1 vR ws1 ws R h) (r : RefAt W' q gq B n ws1 vR R) (u : Turn [gq] W W') : Tw w3 W' p g bm q gq B n t0 t1 vR ws1 R h := by
  obtain ⟨m1, m2, m3, m4, m5⟩ := k.low
  obtain ⟨l1, l2, l3, l4, l5, l6⟩ := k.lt
  obtain ⟨s1, s2⟩ := k.st
  exact ⟨k.a.turn u (by simp; omega) (by simp; omega) (by simp; omega), r, k.r0, u.keep k.two (by omega), u.keep k.hp (by omega), k.t.trans (u.mono (by simp)), k.lt, k.st, k.bs⟩
theorem Md.out {w : World} (k : Md w3 W p g bm q gq B n t0 t1 vR ws1 ws R h) (e : Ext w w3) (hg : w.heap.size ≤ g) : Ext w W := by
  obtain ⟨l1, l2, l3, l4, l5, l6⟩ := k.lt
  exact Turn.after e k.t (by intro b hb; simp at hb; omega)
end
open Go Go.RowKit Go.Deep Go.Maps Arena
structure TF (n : Nat) (R : List (Nat × Nat)) (ws roots : List Int) (hf sp tp k : Int) (lv : Nat) (m : Int) (x : Bool) (GC GR : Gt) : Prop where
  rel : (x = true ∧ m = (lv : Int)) ∨ (x = false ∧ m = -1 ∧ lv = 0)
  tc : GC.ws.take 3 = ws.take 3
  tr : GR.ws.take 3 = ws.take 3
  live : ∀ W p g bm q c, ArenaAt W p g bm n ws R → RowsP W (.slice q roots.length c) 1 (roots.map wordC) → Calls Tryz.prog 8 #[.pointer (some ⟨p, 0, none⟩), .agg #[.int .i64 3, .int .i64 hf, .int .i64 sp, .int .i64 tp], .slice q roots.length c] W fun e w' => e = .returned (.tuple #[.int .i64 (lv : Int), .bool x]) ∧ Ext W w'
  rlive : ∀ W q gq B vR qr c, RefAt W q gq B n ws vR R → RowsP W (.slice qr roots.length c) 1 (roots.map wordC) → Calls Tryz.prog 10 #[.pointer (some ⟨q, 0, none⟩), .agg #[.int .i64 3, .int .i64 hf, .int .i64 sp, .int .i64 tp], .slice qr roots.length c] W fun e w' => e = .returned (.int .i64 m) ∧ Ext W w'
  coll : ∀ W p g bm q c, ArenaAt W p g bm n ws R → RowStay W g (.slice q roots.length c) (roots.map wordC) → Calls Tryz.prog 12 #[.pointer (some ⟨p, 0, none⟩), .agg #[.int .i64 3, .int .i64 hf, .int .i64 sp, .int .i64 tp], .slice q roots.length c] W (PGot GC p g bm n R W)
  rcoll : ∀ W q gq B vR qr c, RefAt W q gq B n ws vR R → RowsP W (.slice qr roots.length c) 1 (roots.map wordC) → Calls Tryz.prog 13 #[.pointer (some ⟨q, 0, none⟩), .agg #[.int .i64 3, .int .i64 hf, .int .i64 sp, .int .i64 tp], .slice qr roots.length c] W (RGot GC q gq B n vR R W)
  room : ∀ W p g bm q c, ArenaAt W p g bm n ws R → RowStay W g (.slice q roots.length c) (roots.map wordC) → Calls Tryz.prog 15 #[.pointer (some ⟨p, 0, none⟩), .agg #[.int .i64 3, .int .i64 hf, .int .i64 sp, .int .i64 tp], .slice q roots.length c, .int .i64 k] W (PGot GR p g bm n R W)
  rroom : ∀ W q gq B vR qr c, RefAt W q gq B n ws vR R → RowsP W (.slice qr roots.length c) 1 (roots.map wordC) → Calls Tryz.prog 16 #[.pointer (some ⟨q, 0, none⟩), .agg #[.int .i64 3, .int .i64 hf, .int .i64 sp, .int .i64 tp], .slice qr roots.length c, .int .i64 k] W (RGot GR q gq B n vR R W)
theorem tf_of {n : Nat} {R : List (Nat × Nat)} {ws roots : List Int} (hf sp tp k : Int) (hl : 3 ≤ ws.length) (hW : ∀ x ∈ ws, W64 x) (hr64 : ∀ x ∈ roots, W64 x) (hrl : roots.length ≤ 1000) : ∃ lv m x GC GR, TF n R ws roots hf sp tp k lv m x GC GR :=
  ⟨liveN ws R ⟨3, hf, sp, tp⟩ roots, liveM ws R ⟨3, hf, sp, tp⟩ roots, (mayH ws R ⟨3, hf, sp, tp⟩ roots).isSome, gotC ws R ⟨3, hf, sp, tp⟩ roots, gotR ws R ⟨3, hf, sp, tp⟩ roots k,
    liveM_of _ _ _ _, gotC_take rfl hl, gotR_take rfl hl,
    fun _ _ _ _ _ _ H hr => live_is H ⟨3, hf, sp, tp⟩ (by show (Lit.int .i64 3).wf = true; decide) hW hr hr64 (by omega),
    fun _ _ _ _ _ _ _ H hr => rlive_is H ⟨3, hf, sp, tp⟩ hW hr hr64 hrl,
    fun _ _ _ _ _ _ H hr => pcoll_got H ⟨3, hf, sp, tp⟩ (by show (Lit.int .i64 3).wf = true; decide) hW hr hr64 (by omega),
    fun _ _ _ _ _ _ _ H hr => rcoll_got H ⟨3, hf, sp, tp⟩ hW hr hr64 hrl,
    fun _ _ _ _ _ _ H hr => proom_got H ⟨3, hf, sp, tp⟩ (by show (Lit.int .i64 3).wf = true; decide) hW hr hr64 (by omega) k,
    fun _ _ _ _ _ _ _ H hr => rroom_got H ⟨3, hf, sp, tp⟩ hW hr hr64 hrl k⟩
open Go Go.RowKit Go.Deep Go.Maps Arena
theorem tells_walk {w : World} {v vr : Value} {l roots : List Int} {h0 : Hp} (hv : WdsP w v l) (_hh : HpWf h0) (hr : WdsP w vr roots) (k0 : Int) : Calls Tryz.prog 3 #[.agg #[v, .int .i64 h0.base, .int .i64 h0.half, .int .i64 h0.space, .int .i64 h0.top], vr, .int .i64 k0] w (TrueExt w) := by
  have HV := Lib.hid hv; have HR := Lib.hid hr
  obtain ⟨qv, cv, rfl, hv1, hv2, -⟩ := hv.1.at
  obtain ⟨qr, cr, rfl, hr1, hr2, -⟩ := hr.1.at
  rw [List.length_map] at hv1 hr1 HV HR ⊢
  rw [List.length_map]
  unfold maxLen at hv2 hr2
  clear hv hr
  by_cases hbig : 400 < l.length ∨ 60 < roots.length
  · have LG := Lib.hid (fun W (e : Ext w W) => large_flat4 (a := h0.base) (b := h0.half) (c := h0.space) (d := h0.top) (WordSl.of_rows (HV.out.1.ext e)))
    obtain ⟨lb, hlb⟩ : ∃ lb, lb = decide (400 < l.length) := ⟨_, rfl⟩
    rw [← hlb] at LG
    have HLB := Lib.hid hlb
    have HBG := Lib.hid hbig
    clear hlb hbig
    go_enter Tryz.func3, Tryz.ntmps3
    go_wp2_with fail
    refine at_alloc1 fun W hE hS b0 => ?_
    refine (LG.out W hE).mono ?_
    rintro e w1 ⟨rfl, hx1⟩
    have HX1 := Lib.hid (hE.trans hx1)
    clear hE hS b0 hx1 LG
    have fin : ∀ w1, Ext w w1 → ∀ (e : Ending) (w2 : World), e = .returned (.bool true) ∧ Ext w1 w2 → e = .returned (.bool true) ∧ Ext w w2 := fun w1 h e w2 ⟨h1, h2⟩ => ⟨h1, h.trans h2⟩
    cases lb with
    | true =>
      go_wp2_with fail
      refine (wakes4 _).mono ?_
      rintro e w2 ⟨rfl, hx2⟩
      have HX2 := Lib.hid (HX1.out.trans hx2)
      clear hx2
      go_wp2
      go_ret
      exact ⟨rfl, HX2.out⟩
    | false =>
      have hr60 : 60 < roots.length := by
        have h1 := of_decide_eq_false HLB.out.symm
        rcases HBG.out with h | h
        · exact absurd h h1
        · exact h
      have d1 : (60 : Int) < (roots.length : Int) := by omega
      go_wp2_with fail
      refine (wakes4 _).mono ?_
      rintro e w2 ⟨rfl, hx2⟩
      have HX2 := Lib.hid (HX1.out.trans hx2)
      clear hx2
      go_wp2
      go_ret
      exact ⟨rfl, HX2.out⟩
  · have hl4 : l.length ≤ 400 := by omega
    have hr60 : roots.length ≤ 60 := by omega
    have d0 : decide (400 < l.length) = false := decide_eq_false (by omega)
    have d1 : decide ((60 : Int) < (roots.length : Int)) = false := decide_eq_false (by omega)
    have LG := Lib.hid (fun W (e : Ext w W) => large_flat4 (a := h0.base) (b := h0.half) (c := h0.space) (d := h0.top) (WordSl.of_rows (HV.out.1.ext e)))
    rw [d0] at LG
    clear hbig d0
    go_enter Tryz.func3, Tryz.ntmps3
    go_wp2_with fail
    refine at_alloc1 fun W hE hS b0 => ?_
    refine (LG.out W hE).mono ?_
    rintro e w1 ⟨rfl, hx1⟩
    have HX1 := Lib.hid (hE.trans hx1)
    have B1 := Lib.hid ((Below.block hx1 w.heap.size (by omega)).trans b0)
    clear hE hS b0 hx1 LG
    obtain ⟨lv, m, xb, GC, GR, TFx⟩ := tf_of (n := l.length + 10) (R := rigR (max 1 l.length)) (ws := rigW l l.length) (roots := roots) h0.half h0.space h0.top k0 (by have := congrArg List.length (rigW_take l l.length); rw [List.length_take] at this; simp at this; omega) (rigW_mem HV.out.2 l.length) HR.out.2 (by omega)
    have TF0 := Lib.hid TFx
    clear TFx
    go_wp2_with fail
    go_loopw [7] (fun v wx => ∃ k : Nat, k ≤ 2 ∧ v = .int .i64 k ∧ Ext w wx ∧ wx.heap[w.heap.size]? = w1.heap[w.heap.size]?) (fun v _ => 2 - (Go.RowKit.intOf v).toNat)
    case atStart => exact ⟨0, by omega, rfl, HX1.out, rfl⟩
    case round =>
      obtain ⟨k, hk, rfl, hex, hbx⟩ := hrel
      rw [B1.out] at hbx
      have HX := Lib.hid hex; have HBX := Lib.hid hbx
      clear hex hbx HX1
      by_cases hlt : k < 2
      · have i1 : (k : Int) < 2 := by omega
        obtain ⟨z0, z1, z2, z3, z4⟩ := cells5 HBX.out
        go_wp2_with fail
        refine (lay_words (WordSl.of_rows (HV.out.1.ext HX.out)) (by omega)).mono ?_
        rintro e w2 ⟨p, g, bm, q, gq, B, rfl, hB⟩
        have HB := Lib.hid hB
        have B2 := Lib.hid ((Below.block hB.ext w.heap.size (Array.getElem?_eq_some_iff.1 HBX.out).1).trans HBX.out)
        clear hB z0 z1 z2 z3 z4
        obtain ⟨z0, z1, z2, z3, z4⟩ := cells5 B2.out
        have n0 := (Array.getElem?_eq_some_iff.1 B2.out).1
        go_upto_region 10 with fail
        refine wp_alloc2 fun W4 hE4 hS4 b2 b3 => ?_
        obtain ⟨vR, hR3⟩ := HB.out.r
        have hgw : w.heap.size ≤ g := by have := HB.out.ge.2.1; have := HX.out.size; omega
        have HGW := Lib.hid hgw
        have HX2 := Lib.hid (HX.out.trans HB.out.ext)
        have K0 := Lib.hid (show Tw w2 W4 p g bm q gq B (l.length + 10) w2.heap.size (w2.heap.size + 1) vR (rigW l l.length) (rigR (max 1 l.length)) h0 from ⟨HB.out.a.ext hE4, hR3.ext hE4, ⟨_, hR3⟩, b2, b3, Turn.of_ext hE4, HB.out.lt, ⟨Nat.le_refl _, by omega⟩, HB.out.size⟩)
        have B4 := Lib.hid ((Below.block hE4 _ (Array.getElem?_eq_some_iff.1 B2.out).1).trans B2.out)
        have HB0 := Lib.hid (Below.size HB.out.ext)
        have HE2 := Lib.hid HB.out.ext
        have HGW2 := Lib.hid HB.out.ge.2.1
        clear hE4 hS4 b2 b3 z0 z1 z2 z3 z4 n0 hR3 HB B2 hgw
        generalize hg0 : w2.heap.size = t0 at K0 ⊢
        have HT0 := Lib.hid hg0
        clear hg0
        generalize hg1 : t0 + 1 = t1 at K0 ⊢
        have HT1 := Lib.hid hg1
        clear hg1
        obtain ⟨x0, x1⟩ := cells2 K0.out.two
        obtain ⟨y0, y1, y2, y3⟩ := cells4 K0.out.hp
        have f0 := free_at K0.out.hp (i := 0)
        go_upto_region 11 with fail
        refine wp_fill1 K0.out.hp fun W5 h5 hT5 hS5 => ?_
        have K1 := Lib.hid (K0.out.fill (h' := ⟨3, h0.half, h0.space, h0.top⟩) h5 hT5)
        have HX5 := Lib.hid (K1.out.done HX2.out HGW.out)
        have B5 := Lib.hid ((hT5.block w.heap.size (Array.getElem?_eq_some_iff.1 B4.out).1 (by have := HT0.out; have := HT1.out; have := (Array.getElem?_eq_some_iff.1 HBX.out).1; have := HB0.out; simp; omega)).trans B4.out)
        clear hS5 h5 hT5 K0 x0 x1 y0 y1 y2 y3 f0 B4
        refine wp_region_noPanic ?_
        refine wp_region_last 10 (S := (fun w' => w'.cell? ⟨t0, 0, none⟩ = some (.pointer (some ⟨p, 0, none⟩)) ∧ w'.cell? ⟨t1, 0, none⟩ = some (.int .i64 3) ∧ w'.cell? ⟨t1, 1, none⟩ = some (.int .i64 h0.half) ∧ w'.cell? ⟨t1, 2, none⟩ = some (.int .i64 h0.space) ∧ w'.cell? ⟨t1, 3, none⟩ = some (.int .i64 h0.top))) (by kernel_rfl) (by kernel_rfl) _ rfl ?_ (fun hHeld => ?_)
        · skip
          have kA := K1.out.ext (Ext.drew W5)
          have hXW := HX5.out.trans (Ext.drew W5)
          generalize W5.drew = W at *
          (first | with_reducible exact ⟨(cells2 kA.two).1, cells4 kA.hp⟩ | with_reducible exact ⟨(cells2 kB.two).1, cells4 kB.hp⟩ | exact ⟨(cells2 kC.two).1, cells4 kC.hp⟩)
        have kA := K1.out.ext (Ext.drew W5)
        have hXW := HX5.out.trans (Ext.drew W5)
        generalize W5.drew = W at *
        simp only [List.take_succ_cons, List.take_zero]
        refine wpAnyH_take (i := 0) (v := ?v1) rfl (by kernel_rfl) (by kernel_rfl) (by kernel_rfl) (fun _ _ _ h => h) (Or.inl ⟨by rfl, ?y1⟩) (by assumption) ?r1
        case y1 => intro w hSw; (try dsimp only at hSw); go_simp; (try with_reducible rfl)
        (try simp only [Act.put, setIfInBounds_toArray, set_cons_zero, set_cons_succ, getElem_toArray, getElem_cons_zero, getElem_cons_succ])
        refine wpAnyH_take (i := 1) (v := ?v2) rfl (by kernel_rfl) (by kernel_rfl) (by kernel_rfl) (fun _ _ _ h => h) (Or.inl ⟨by rfl, ?y2⟩) (by assumption) ?r2
        case y2 => intro w hSw; (try dsimp only at hSw); go_simp; (try with_reducible rfl)
        (try simp only [Act.put, setIfInBounds_toArray, set_cons_zero, set_cons_succ, getElem_toArray, getElem_cons_zero, getElem_cons_succ])
        refine wpAnyH_take (i := 2) (v := ?v3) rfl (by kernel_rfl) (by kernel_rfl) (by kernel_rfl) (fun _ _ _ h => h) (Or.inl ⟨by rfl, ?y3⟩) (by assumption) ?r3
        case y3 => intro w hSw; (try dsimp only at hSw); go_simp; (try with_reducible rfl)
        (try simp only [Act.put, setIfInBounds_toArray, set_cons_zero, set_cons_succ, getElem_toArray, getElem_cons_zero, getElem_cons_succ])
        refine wpAnyH_take (i := 3) (v := ?v4) rfl (by kernel_rfl) (by kernel_rfl) (by kernel_rfl) (fun _ _ _ h => h) (Or.inl ⟨by rfl, ?y4⟩) (by assumption) ?r4
        case y4 => intro w hSw; (try dsimp only at hSw); go_simp; (try with_reducible rfl)
        (try simp only [Act.put, setIfInBounds_toArray, set_cons_zero, set_cons_succ, getElem_toArray, getElem_cons_zero, getElem_cons_succ])
        refine wpAnyH_ready (rs := [4]) (by kernel_rfl) (by simp) ?_
        refine AllReadyH.cons rfl (fun K hK => ?_) AllReadyH.nil
        go_simp
        refine (own_words (HR.out.1.ext hXW) (by omega)).mono ?_
        rintro e w6 ⟨v6, rfl, ho6, hx6⟩
        have kB := kA.ext hx6
        have hXW6 := hXW.trans hx6
        obtain ⟨q6, c6, rfl, hl6, _⟩ := ho6.len
        rw [List.length_map] at ho6 ⊢
        clear hx6
        refine hK.out _ _ ?s5 (fun hHeld => ?k5)
        case s5 => ((try dsimp only); (first | with_reducible exact ⟨(cells2 kA.two).1, cells4 kA.hp⟩ | with_reducible exact ⟨(cells2 kB.two).1, cells4 kB.hp⟩ | exact ⟨(cells2 kC.two).1, cells4 kC.hp⟩))
        clear hK K
        (try simp only [Act.put, setIfInBounds_toArray, set_cons_zero, set_cons_succ, getElem_toArray, getElem_cons_zero, getElem_cons_succ])
        refine wpAnyH_ready (rs := [5]) (by kernel_rfl) (by simp) ?_
        refine AllReadyH.cons rfl (fun K hK => ?_) AllReadyH.nil
        go_simp
        refine (TF0.out.live _ _ _ _ _ _ kB.a ho6.p).mono ?_
        rintro e w7 ⟨rfl, hx7⟩
        have kC := kB.ext hx7
        have hXW7 := hXW6.trans hx7
        refine hK.out _ _ ?s6 (fun hHeld => ?k6)
        case s6 => ((try dsimp only); (first | with_reducible exact ⟨(cells2 kA.two).1, cells4 kA.hp⟩ | with_reducible exact ⟨(cells2 kB.two).1, cells4 kB.hp⟩ | exact ⟨(cells2 kC.two).1, cells4 kC.hp⟩))
        clear hK K
        (try simp only [Act.put, setIfInBounds_toArray, set_cons_zero, set_cons_succ, getElem_toArray, getElem_cons_zero, getElem_cons_succ])
        refine wpAnyH_take (i := 6) (v := ?v7) rfl (by kernel_rfl) (by kernel_rfl) (by kernel_rfl) (fun _ _ _ h => h) (Or.inl ⟨by rfl, ?y7⟩) (by assumption) ?r7
        case y7 => intro w hSw; (try dsimp only at hSw); go_simp; (try with_reducible rfl)
        (try simp only [Act.put, setIfInBounds_toArray, set_cons_zero, set_cons_succ, getElem_toArray, getElem_cons_zero, getElem_cons_succ])
        refine wpAnyH_take (i := 7) (v := ?v8) rfl (by kernel_rfl) (by kernel_rfl) (by kernel_rfl) (fun _ _ _ h => h) (Or.inl ⟨by rfl, ?y8⟩) (by assumption) ?r8
        case y8 => intro w hSw; (try dsimp only at hSw); go_simp; (try with_reducible rfl)
        (try simp only [Act.put, setIfInBounds_toArray, set_cons_zero, set_cons_succ, getElem_toArray, getElem_cons_zero, getElem_cons_succ])
        refine wpAnyH_take (i := 8) (v := ?v9) rfl (by kernel_rfl) (by kernel_rfl) (by kernel_rfl) (fun _ _ _ h => h) (Or.inl ⟨by rfl, ?y9⟩) (by assumption) ?r9
        case y9 => intro w hSw; (try dsimp only at hSw); go_simp; (try with_reducible rfl)
        (try simp only [Act.put, setIfInBounds_toArray, set_cons_zero, set_cons_succ, getElem_toArray, getElem_cons_zero, getElem_cons_succ])
        refine wpAnyH_take (i := 9) (v := ?v10) rfl (by kernel_rfl) (by kernel_rfl) (by kernel_rfl) (fun _ _ _ h => h) (Or.inl ⟨by rfl, ?y10⟩) (by assumption) ?r10
        case y10 => intro w hSw; (try dsimp only at hSw); go_simp; (try with_reducible rfl)
        (try simp only [Act.put, setIfInBounds_toArray, set_cons_zero, set_cons_succ, getElem_toArray, getElem_cons_zero, getElem_cons_succ])
        refine wpAnyH_done (by kernel_rfl) ?_ _
        show wpList _ _ _ _ _ _
        clear hHeld
        have K7 := Lib.hid kC; have HX7 := Lib.hid hXW7
        clear kC hXW7 kB hXW6 ho6 hx7 kA hXW hl6
        go_wp2
        refine NoPanic.normal ?_
        obtain ⟨x0, x1⟩ := cells2 K7.out.two
        obtain ⟨y0, y1, y2, y3⟩ := cells4 K7.out.hp
        go_wp2_with fail
        refine (TF0.out.rlive _ _ _ _ _ _ _ K7.out.r (HR.out.1.ext HX7.out)).mono ?_
        rintro e w8 ⟨rfl, hx8⟩
        have K8 := Lib.hid (K7.out.ext hx8)
        clear hx8 K7 x0 x1 y0 y1 y2 y3
        obtain ⟨x0, x1⟩ := cells2 K8.out.two
        have hge : decide (0 ≤ m) = xb := by
          rcases TF0.out.rel with ⟨h1, h2⟩ | ⟨h1, h2, h3⟩
          · rw [h1, h2]; exact decide_eq_true (by omega)
          · rw [h1, h2]; rfl
        have hmax : max 0 m = (lv : Int) := by
          rcases TF0.out.rel with ⟨h1, h2⟩ | ⟨h1, h2, h3⟩
          · omega
          · rw [h2, h3]; rfl
        have hif : (if (0 : Int) < m then m else 0) = (lv : Int) := by
          rcases TF0.out.rel with ⟨h1, h2⟩ | ⟨h1, h2, h3⟩
          · rw [h2]; split <;> omega
          · rw [h2, h3]; rfl
        go_wp2_with fail
        refine (same_tw K8.out (by omega) (rigW_take _ _)).mono ?_
        rintro e w9 ⟨rfl, hx9⟩
        have K9 := Lib.hid (K8.out.ext hx9)
        have B9 := Lib.hid B5.out
        clear hx9 K8 x0 x1 hge hmax hif
        have hT10 := HT1.out
        have HT2 := Lib.hid (show t0 < t1 by omega)
        clear hT10
        by_cases hk0 : k = 0
        · obtain rfl := hk0
          go_upto_region 16 with fail
          go_cut [15, 16, 17] from 31 to 157 (fun v15 v16 v17 wx => ∃ nA q7 c7, v15 = .pointer (some ⟨nA, 0, none⟩) ∧ v16 = .slice q7 GC.rs.length c7 ∧ v17 = .bool GC.ok ∧ wx.heap[nA]? = some (.cells #[.int .i64 GC.b, .int .i64 GC.hf, .int .i64 GC.sp, .int .i64 GC.tp] 24 (0, 0)) ∧ t1 < nA ∧ Md w2 wx p g bm q gq B (l.length + 10) t0 t1 vR GC.ws (rigW l l.length) (rigR (max 1 l.length)) ⟨3, h0.half, h0.space, h0.top⟩ ∧ OwnP wx (gq + 1) 51 (.slice q7 GC.rs.length c7) 1 (GC.rs.map wordC))
          case first =>
            refine wp_region_noPanic ?_
            refine wp_region_last 13 (S := (fun w' => w'.cell? ⟨t0, 0, none⟩ = some (.pointer (some ⟨p, 0, none⟩)) ∧ w'.cell? ⟨t1, 0, none⟩ = some (.int .i64 3) ∧ w'.cell? ⟨t1, 1, none⟩ = some (.int .i64 h0.half) ∧ w'.cell? ⟨t1, 2, none⟩ = some (.int .i64 h0.space) ∧ w'.cell? ⟨t1, 3, none⟩ = some (.int .i64 h0.top))) (by kernel_rfl) (by kernel_rfl) _ rfl ?_ (fun hHeld => ?_)
            · skip
              have kA := K9.out.ext (Ext.drew w9)
              generalize w9.drew = W at *
              (first | with_reducible exact ⟨(cells2 kA.two).1, cells4 kA.hp⟩ | exact ⟨(cells2 md.two).1, cells4 md.hp⟩)
            have kA := K9.out.ext (Ext.drew w9)
            generalize w9.drew = W at *
            simp only [List.take_succ_cons, List.take_zero]
            refine wpAnyH_take (i := 0) (v := ?v11) rfl (by kernel_rfl) (by kernel_rfl) (by kernel_rfl) (fun _ _ _ h => h) (Or.inl ⟨by rfl, ?y11⟩) (by assumption) ?r11
            case y11 => intro w hSw; (try dsimp only at hSw); go_simp; (try with_reducible rfl)
            (try simp only [Act.put, setIfInBounds_toArray, set_cons_zero, set_cons_succ, getElem_toArray, getElem_cons_zero, getElem_cons_succ])
            refine wpAnyH_take (i := 1) (v := ?v12) rfl (by kernel_rfl) (by kernel_rfl) (by kernel_rfl) (fun _ _ _ h => h) (Or.inl ⟨by rfl, ?y12⟩) (by assumption) ?r12
            case y12 => intro w hSw; (try dsimp only at hSw); go_simp; (try with_reducible rfl)
            (try simp only [Act.put, setIfInBounds_toArray, set_cons_zero, set_cons_succ, getElem_toArray, getElem_cons_zero, getElem_cons_succ])
            refine wpAnyH_take (i := 2) (v := ?v13) rfl (by kernel_rfl) (by kernel_rfl) (by kernel_rfl) (fun _ _ _ h => h) (Or.inl ⟨by rfl, ?y13⟩) (by assumption) ?r13
            case y13 => intro w hSw; (try dsimp only at hSw); go_simp; (try with_reducible rfl)
            (try simp only [Act.put, setIfInBounds_toArray, set_cons_zero, set_cons_succ, getElem_toArray, getElem_cons_zero, getElem_cons_succ])
            refine wpAnyH_take (i := 3) (v := ?v14) rfl (by kernel_rfl) (by kernel_rfl) (by kernel_rfl) (fun _ _ _ h => h) (Or.inl ⟨by rfl, ?y14⟩) (by assumption) ?r14
            case y14 => intro w hSw; (try dsimp only at hSw); go_simp; (try with_reducible rfl)
            (try simp only [Act.put, setIfInBounds_toArray, set_cons_zero, set_cons_succ, getElem_toArray, getElem_cons_zero, getElem_cons_succ])
            refine wpAnyH_ready (rs := [4, 10]) (by kernel_rfl) (by simp) ?_
            refine AllReadyH.cons rfl (fun K hK => ?_) (AllReadyH.cons rfl (fun K hK => ?_) (AllReadyH.nil))
            · skip
              go_simp
              have hgW : g < W.heap.size ∧ gq < W.heap.size := ⟨kA.a.lt.2.1, kA.r.lt.2⟩
              refine (own_words (HR.out.1.ext (kA.done HX2.out HGW.out)) (by omega)).mono ?_
              rintro e w6 ⟨v6, rfl, ho, hx6⟩
              replace kA := kA.ext hx6
              try replace hAl := (Below.block hx6 _ (Array.getElem?_eq_some_iff.1 hAl).1).trans hAl
              obtain ⟨q6, c6, rfl, hl6, _⟩ := ho.len
              rw [List.length_map] at ho ⊢
              clear hx6 hl6
              generalize w6 = W at *
              refine hK.out _ _ ?s15 (fun hHeld => ?k15)
              case s15 => ((try dsimp only); (first | with_reducible exact ⟨(cells2 kA.two).1, cells4 kA.hp⟩ | exact ⟨(cells2 md.two).1, cells4 md.hp⟩))
              clear hK K
              (try simp only [Act.put, setIfInBounds_toArray, set_cons_zero, set_cons_succ, getElem_toArray, getElem_cons_zero, getElem_cons_succ])
              refine wpAnyH_ready (rs := [5, 10]) (by kernel_rfl) (by simp) ?_
              refine AllReadyH.cons rfl (fun K hK => ?_) (AllReadyH.cons rfl (fun K hK => ?_) (AllReadyH.nil))
              · skip
                go_simp
                have hgq2 : gq + 1 ≤ W.heap.size := kA.r.lt.2
                refine (TF0.out.coll _ _ _ _ _ _ kA.a (ho.rowStay hgW.1)).mono ?_
                rintro e w7 ⟨q7, c7, rfl, ha7, hO1, ht7⟩
                have md := kA.md ha7 ht7
                have hO := hO1.mono hgq2
                try replace hAl := ht7.keep hAl (by omega)
                clear ha7 ht7 kA ho hO1 hgW hgq2
                generalize w7 = W at *
                refine hK.out _ _ ?s16 (fun hHeld => ?k16)
                case s16 => ((try dsimp only); (first | with_reducible exact ⟨(cells2 kA.two).1, cells4 kA.hp⟩ | exact ⟨(cells2 md.two).1, cells4 md.hp⟩))
                clear hK K
                (try simp only [Act.put, setIfInBounds_toArray, set_cons_zero, set_cons_succ, getElem_toArray, getElem_cons_zero, getElem_cons_succ])
                refine wpAnyH_take (i := 6) (v := ?v17) rfl (by kernel_rfl) (by kernel_rfl) (by kernel_rfl) (fun _ _ _ h => h) (Or.inl ⟨by rfl, ?y17⟩) (by assumption) ?r17
                case y17 => intro w hSw; (try dsimp only at hSw); go_simp; (try with_reducible rfl)
                (try simp only [Act.put, setIfInBounds_toArray, set_cons_zero, set_cons_succ, getElem_toArray, getElem_cons_zero, getElem_cons_succ])
                refine wpAnyH_take (i := 7) (v := ?v18) rfl (by kernel_rfl) (by kernel_rfl) (by kernel_rfl) (fun _ _ _ h => h) (Or.inl ⟨by rfl, ?y18⟩) (by assumption) ?r18
                case y18 => intro w hSw; (try dsimp only at hSw); go_simp; (try with_reducible rfl)
                (try simp only [Act.put, setIfInBounds_toArray, set_cons_zero, set_cons_succ, getElem_toArray, getElem_cons_zero, getElem_cons_succ])
                refine wpAnyH_take (i := 8) (v := ?v19) rfl (by kernel_rfl) (by kernel_rfl) (by kernel_rfl) (fun _ _ _ h => h) (Or.inl ⟨by rfl, ?y19⟩) (by assumption) ?r19
                case y19 => intro w hSw; (try dsimp only at hSw); go_simp; (try with_reducible rfl)
                (try simp only [Act.put, setIfInBounds_toArray, set_cons_zero, set_cons_succ, getElem_toArray, getElem_cons_zero, getElem_cons_succ])
                refine wpAnyH_take (i := 9) (v := ?v20) rfl (by kernel_rfl) (by kernel_rfl) (by kernel_rfl) (fun _ _ _ h => h) (Or.inl ⟨by rfl, ?y20⟩) (by assumption) ?r20
                case y20 => intro w hSw; (try dsimp only at hSw); go_simp; (try with_reducible rfl)
                (try simp only [Act.put, setIfInBounds_toArray, set_cons_zero, set_cons_succ, getElem_toArray, getElem_cons_zero, getElem_cons_succ])
                refine wpAnyH_ready (rs := [10]) (by kernel_rfl) (by simp) ?_
                refine AllReadyH.cons rfl (fun K hK => ?_) AllReadyH.nil
                go_simp
                have e1 := Ext.alloc W (.cells #[.int .i64 0, .int .i64 0, .int .i64 0, .int .i64 0] 24)
                have hAl := heap_alloc_new W (.cells #[.int .i64 0, .int .i64 0, .int .i64 0, .int .i64 0] 24)
                have hn : t1 < W.heap.size ∧ g < W.heap.size := by
                  first
                    | exact ⟨(Array.getElem?_eq_some_iff.1 kA.hp).1, kA.a.lt.2.1⟩
                    | exact ⟨(Array.getElem?_eq_some_iff.1 md.hp).1, md.a.lt.2.1⟩
                try replace kA := kA.ext e1
                try replace md := md.ext e1
                try replace ho := ho.ext e1
                try replace hO := hO.ext e1
                clear e1
                generalize W.heap.size = nA at *
                generalize W.alloc (.cells #[.int .i64 0, .int .i64 0, .int .i64 0, .int .i64 0] 24) = W at *
                refine hK.out _ _ ?s21 (fun hHeld => ?k21)
                case s21 => ((try dsimp only); (first | with_reducible exact ⟨(cells2 kA.two).1, cells4 kA.hp⟩ | exact ⟨(cells2 md.two).1, cells4 md.hp⟩))
                clear hK K
                (try simp only [Act.put, setIfInBounds_toArray, set_cons_zero, set_cons_succ, getElem_toArray, getElem_cons_zero, getElem_cons_succ])
                refine wpAnyH_ready (rs := [11]) (by kernel_rfl) (by simp) ?_
                refine AllReadyH.cons rfl (fun K hK => ?_) AllReadyH.nil
                have f0 := free_at hAl (i := 0)
                have f1 := free_at hAl (i := 1)
                have f2 := free_at hAl (i := 2)
                have f3 := free_at hAl (i := 3)
                obtain ⟨y0, y1, y2, y3⟩ := cells4 hAl
                have MD := Lib.hid md; have HAL := Lib.hid hAl; have HO := Lib.hid hO; have HN := Lib.hid hn
                clear md hAl hO hn
                go_simp
                refine k_gen (fun W' => W'.heap[nA]? = some (.cells #[.int .i64 GC.b, .int .i64 GC.hf, .int .i64 GC.sp, .int .i64 GC.tp] 24 (0, 0)) ∧ Turn [nA] W W') ⟨(fill4 HAL.out _ _ _ _).1, (fill4 HAL.out _ _ _ _).2.1⟩ fun W2 hW2 => ?_
                clear y0 y1 y2 y3 f0 f1 f2 f3
                obtain ⟨hAl, hT⟩ := hW2
                have hn := HN.out
                have md := MD.out.other hT (fun b hb => by have h1 := HN.out.1; have h2 := HT2.out; have h3 := MD.out.st.1; rw [List.mem_singleton.1 hb]; exact ⟨by omega, by omega, by omega⟩)
                have hO := HO.out.turn hT (fun b hb hm => HO.out.not_at HAL.out (by decide) (by rw [List.mem_singleton.1 hm] at hb; exact hb))
                clear MD HAL HO HN hT
                generalize W2 = W at *
                refine hK.out _ _ ?s22 (fun hHeld => ?k22)
                case s22 => ((try dsimp only); (first | with_reducible exact ⟨(cells2 kA.two).1, cells4 kA.hp⟩ | exact ⟨(cells2 md.two).1, cells4 md.hp⟩))
                clear hK K
                (try simp only [Act.put, setIfInBounds_toArray, set_cons_zero, set_cons_succ, getElem_toArray, getElem_cons_zero, getElem_cons_succ])
                refine wpAnyH_take (i := 12) (v := ?v23) rfl (by kernel_rfl) (by kernel_rfl) (by kernel_rfl) (fun _ _ _ h => h) (Or.inl ⟨by rfl, ?y23⟩) (by assumption) ?r23
                case y23 => intro w hSw; (try dsimp only at hSw); go_simp; (try with_reducible rfl)
                (try simp only [Act.put, setIfInBounds_toArray, set_cons_zero, set_cons_succ, getElem_toArray, getElem_cons_zero, getElem_cons_succ])
                refine wpAnyH_done (by kernel_rfl) ?_ _
                show wpList _ _ _ _ _ _
                have MD := Lib.hid md; have HAL := Lib.hid hAl; have HO := Lib.hid hO; have HN := Lib.hid hn
                clear md hAl hO hn hHeld
                go_wp2
                refine NoPanic.normal ?_
                go_wp2
                go_meet
                exact ⟨_, _, _, rfl, rfl, rfl, HAL.out, HN.out.1, MD.out, HO.out⟩
              · skip
                go_simp
                have e1 := Ext.alloc W (.cells #[.int .i64 0, .int .i64 0, .int .i64 0, .int .i64 0] 24)
                have hAl := heap_alloc_new W (.cells #[.int .i64 0, .int .i64 0, .int .i64 0, .int .i64 0] 24)
                have hn : t1 < W.heap.size ∧ g < W.heap.size := by
                  first
                    | exact ⟨(Array.getElem?_eq_some_iff.1 kA.hp).1, kA.a.lt.2.1⟩
                    | exact ⟨(Array.getElem?_eq_some_iff.1 md.hp).1, md.a.lt.2.1⟩
                try replace kA := kA.ext e1
                try replace md := md.ext e1
                try replace ho := ho.ext e1
                try replace hO := hO.ext e1
                clear e1
                generalize W.heap.size = nA at *
                generalize W.alloc (.cells #[.int .i64 0, .int .i64 0, .int .i64 0, .int .i64 0] 24) = W at *
                refine hK.out _ _ ?s24 (fun hHeld => ?k24)
                case s24 => ((try dsimp only); (first | with_reducible exact ⟨(cells2 kA.two).1, cells4 kA.hp⟩ | exact ⟨(cells2 md.two).1, cells4 md.hp⟩))
                clear hK K
                (try simp only [Act.put, setIfInBounds_toArray, set_cons_zero, set_cons_succ, getElem_toArray, getElem_cons_zero, getElem_cons_succ])
                refine wpAnyH_ready (rs := [5]) (by kernel_rfl) (by simp) ?_
                refine AllReadyH.cons rfl (fun K hK => ?_) AllReadyH.nil
                go_simp
                have hgq2 : gq + 1 ≤ W.heap.size := kA.r.lt.2
                refine (TF0.out.coll _ _ _ _ _ _ kA.a (ho.rowStay hgW.1)).mono ?_
                rintro e w7 ⟨q7, c7, rfl, ha7, hO1, ht7⟩
                have md := kA.md ha7 ht7
                have hO := hO1.mono hgq2
                try replace hAl := ht7.keep hAl (by omega)
                clear ha7 ht7 kA ho hO1 hgW hgq2
                generalize w7 = W at *
                refine hK.out _ _ ?s25 (fun hHeld => ?k25)
                case s25 => ((try dsimp only); (first | with_reducible exact ⟨(cells2 kA.two).1, cells4 kA.hp⟩ | exact ⟨(cells2 md.two).1, cells4 md.hp⟩))
                clear hK K
                (try simp only [Act.put, setIfInBounds_toArray, set_cons_zero, set_cons_succ, getElem_toArray, getElem_cons_zero, getElem_cons_succ])
                refine wpAnyH_take (i := 6) (v := ?v26) rfl (by kernel_rfl) (by kernel_rfl) (by kernel_rfl) (fun _ _ _ h => h) (Or.inl ⟨by rfl, ?y26⟩) (by assumption) ?r26
                case y26 => intro w hSw; (try dsimp only at hSw); go_simp; (try with_reducible rfl)
                (try simp only [Act.put, setIfInBounds_toArray, set_cons_zero, set_cons_succ, getElem_toArray, getElem_cons_zero, getElem_cons_succ])
                refine wpAnyH_take (i := 7) (v := ?v27) rfl (by kernel_rfl) (by kernel_rfl) (by kernel_rfl) (fun _ _ _ h => h) (Or.inl ⟨by rfl, ?y27⟩) (by assumption) ?r27
                case y27 => intro w hSw; (try dsimp only at hSw); go_simp; (try with_reducible rfl)
                (try simp only [Act.put, setIfInBounds_toArray, set_cons_zero, set_cons_succ, getElem_toArray, getElem_cons_zero, getElem_cons_succ])
                refine wpAnyH_take (i := 8) (v := ?v28) rfl (by kernel_rfl) (by kernel_rfl) (by kernel_rfl) (fun _ _ _ h => h) (Or.inl ⟨by rfl, ?y28⟩) (by assumption) ?r28
                case y28 => intro w hSw; (try dsimp only at hSw); go_simp; (try with_reducible rfl)
                (try simp only [Act.put, setIfInBounds_toArray, set_cons_zero, set_cons_succ, getElem_toArray, getElem_cons_zero, getElem_cons_succ])
                refine wpAnyH_take (i := 9) (v := ?v29) rfl (by kernel_rfl) (by kernel_rfl) (by kernel_rfl) (fun _ _ _ h => h) (Or.inl ⟨by rfl, ?y29⟩) (by assumption) ?r29
                case y29 => intro w hSw; (try dsimp only at hSw); go_simp; (try with_reducible rfl)
                (try simp only [Act.put, setIfInBounds_toArray, set_cons_zero, set_cons_succ, getElem_toArray, getElem_cons_zero, getElem_cons_succ])
                refine wpAnyH_ready (rs := [11]) (by kernel_rfl) (by simp) ?_
                refine AllReadyH.cons rfl (fun K hK => ?_) AllReadyH.nil
                have f0 := free_at hAl (i := 0)
                have f1 := free_at hAl (i := 1)
                have f2 := free_at hAl (i := 2)
                have f3 := free_at hAl (i := 3)
                obtain ⟨y0, y1, y2, y3⟩ := cells4 hAl
                have MD := Lib.hid md; have HAL := Lib.hid hAl; have HO := Lib.hid hO; have HN := Lib.hid hn
                clear md hAl hO hn
                go_simp
                refine k_gen (fun W' => W'.heap[nA]? = some (.cells #[.int .i64 GC.b, .int .i64 GC.hf, .int .i64 GC.sp, .int .i64 GC.tp] 24 (0, 0)) ∧ Turn [nA] W W') ⟨(fill4 HAL.out _ _ _ _).1, (fill4 HAL.out _ _ _ _).2.1⟩ fun W2 hW2 => ?_
                clear y0 y1 y2 y3 f0 f1 f2 f3
                obtain ⟨hAl, hT⟩ := hW2
                have hn := HN.out
                have md := MD.out.other hT (fun b hb => by have h1 := HN.out.1; have h2 := HT2.out; have h3 := MD.out.st.1; rw [List.mem_singleton.1 hb]; exact ⟨by omega, by omega, by omega⟩)
                have hO := HO.out.turn hT (fun b hb hm => HO.out.not_at HAL.out (by decide) (by rw [List.mem_singleton.1 hm] at hb; exact hb))
                clear MD HAL HO HN hT
                generalize W2 = W at *
                refine hK.out _ _ ?s30 (fun hHeld => ?k30)
                case s30 => ((try dsimp only); (first | with_reducible exact ⟨(cells2 kA.two).1, cells4 kA.hp⟩ | exact ⟨(cells2 md.two).1, cells4 md.hp⟩))
                clear hK K
                (try simp only [Act.put, setIfInBounds_toArray, set_cons_zero, set_cons_succ, getElem_toArray, getElem_cons_zero, getElem_cons_succ])
                refine wpAnyH_take (i := 12) (v := ?v31) rfl (by kernel_rfl) (by kernel_rfl) (by kernel_rfl) (fun _ _ _ h => h) (Or.inl ⟨by rfl, ?y31⟩) (by assumption) ?r31
                case y31 => intro w hSw; (try dsimp only at hSw); go_simp; (try with_reducible rfl)
                (try simp only [Act.put, setIfInBounds_toArray, set_cons_zero, set_cons_succ, getElem_toArray, getElem_cons_zero, getElem_cons_succ])
                refine wpAnyH_done (by kernel_rfl) ?_ _
                show wpList _ _ _ _ _ _
                have MD := Lib.hid md; have HAL := Lib.hid hAl; have HO := Lib.hid hO; have HN := Lib.hid hn
                clear md hAl hO hn hHeld
                go_wp2
                refine NoPanic.normal ?_
                go_wp2
                go_meet
                exact ⟨_, _, _, rfl, rfl, rfl, HAL.out, HN.out.1, MD.out, HO.out⟩
            · skip
              go_simp
              have e1 := Ext.alloc W (.cells #[.int .i64 0, .int .i64 0, .int .i64 0, .int .i64 0] 24)
              have hAl := heap_alloc_new W (.cells #[.int .i64 0, .int .i64 0, .int .i64 0, .int .i64 0] 24)
              have hn : t1 < W.heap.size ∧ g < W.heap.size := by
                first
                  | exact ⟨(Array.getElem?_eq_some_iff.1 kA.hp).1, kA.a.lt.2.1⟩
                  | exact ⟨(Array.getElem?_eq_some_iff.1 md.hp).1, md.a.lt.2.1⟩
              try replace kA := kA.ext e1
              try replace md := md.ext e1
              try replace ho := ho.ext e1
              try replace hO := hO.ext e1
              clear e1
              generalize W.heap.size = nA at *
              generalize W.alloc (.cells #[.int .i64 0, .int .i64 0, .int .i64 0, .int .i64 0] 24) = W at *
              refine hK.out _ _ ?s32 (fun hHeld => ?k32)
              case s32 => ((try dsimp only); (first | with_reducible exact ⟨(cells2 kA.two).1, cells4 kA.hp⟩ | exact ⟨(cells2 md.two).1, cells4 md.hp⟩))
              clear hK K
              (try simp only [Act.put, setIfInBounds_toArray, set_cons_zero, set_cons_succ, getElem_toArray, getElem_cons_zero, getElem_cons_succ])
              refine wpAnyH_ready (rs := [4]) (by kernel_rfl) (by simp) ?_
              refine AllReadyH.cons rfl (fun K hK => ?_) AllReadyH.nil
              go_simp
              have hgW : g < W.heap.size ∧ gq < W.heap.size := ⟨kA.a.lt.2.1, kA.r.lt.2⟩
              refine (own_words (HR.out.1.ext (kA.done HX2.out HGW.out)) (by omega)).mono ?_
              rintro e w6 ⟨v6, rfl, ho, hx6⟩
              replace kA := kA.ext hx6
              try replace hAl := (Below.block hx6 _ (Array.getElem?_eq_some_iff.1 hAl).1).trans hAl
              obtain ⟨q6, c6, rfl, hl6, _⟩ := ho.len
              rw [List.length_map] at ho ⊢
              clear hx6 hl6
              generalize w6 = W at *
              refine hK.out _ _ ?s33 (fun hHeld => ?k33)
              case s33 => ((try dsimp only); (first | with_reducible exact ⟨(cells2 kA.two).1, cells4 kA.hp⟩ | exact ⟨(cells2 md.two).1, cells4 md.hp⟩))
              clear hK K
              (try simp only [Act.put, setIfInBounds_toArray, set_cons_zero, set_cons_succ, getElem_toArray, getElem_cons_zero, getElem_cons_succ])
              refine wpAnyH_ready (rs := [5]) (by kernel_rfl) (by simp) ?_
              refine AllReadyH.cons rfl (fun K hK => ?_) AllReadyH.nil
              go_simp
              have hgq2 : gq + 1 ≤ W.heap.size := kA.r.lt.2
              refine (TF0.out.coll _ _ _ _ _ _ kA.a (ho.rowStay hgW.1)).mono ?_
              rintro e w7 ⟨q7, c7, rfl, ha7, hO1, ht7⟩
              have md := kA.md ha7 ht7
              have hO := hO1.mono hgq2
              try replace hAl := ht7.keep hAl (by omega)
              clear ha7 ht7 kA ho hO1 hgW hgq2
              generalize w7 = W at *
              refine hK.out _ _ ?s34 (fun hHeld => ?k34)
              case s34 => ((try dsimp only); (first | with_reducible exact ⟨(cells2 kA.two).1, cells4 kA.hp⟩ | exact ⟨(cells2 md.two).1, cells4 md.hp⟩))
              clear hK K
              (try simp only [Act.put, setIfInBounds_toArray, set_cons_zero, set_cons_succ, getElem_toArray, getElem_cons_zero, getElem_cons_succ])
              refine wpAnyH_take (i := 6) (v := ?v35) rfl (by kernel_rfl) (by kernel_rfl) (by kernel_rfl) (fun _ _ _ h => h) (Or.inl ⟨by rfl, ?y35⟩) (by assumption) ?r35
              case y35 => intro w hSw; (try dsimp only at hSw); go_simp; (try with_reducible rfl)
              (try simp only [Act.put, setIfInBounds_toArray, set_cons_zero, set_cons_succ, getElem_toArray, getElem_cons_zero, getElem_cons_succ])
              refine wpAnyH_take (i := 7) (v := ?v36) rfl (by kernel_rfl) (by kernel_rfl) (by kernel_rfl) (fun _ _ _ h => h) (Or.inl ⟨by rfl, ?y36⟩) (by assumption) ?r36
              case y36 => intro w hSw; (try dsimp only at hSw); go_simp; (try with_reducible rfl)
              (try simp only [Act.put, setIfInBounds_toArray, set_cons_zero, set_cons_succ, getElem_toArray, getElem_cons_zero, getElem_cons_succ])
              refine wpAnyH_take (i := 8) (v := ?v37) rfl (by kernel_rfl) (by kernel_rfl) (by kernel_rfl) (fun _ _ _ h => h) (Or.inl ⟨by rfl, ?y37⟩) (by assumption) ?r37
              case y37 => intro w hSw; (try dsimp only at hSw); go_simp; (try with_reducible rfl)
              (try simp only [Act.put, setIfInBounds_toArray, set_cons_zero, set_cons_succ, getElem_toArray, getElem_cons_zero, getElem_cons_succ])
              refine wpAnyH_take (i := 9) (v := ?v38) rfl (by kernel_rfl) (by kernel_rfl) (by kernel_rfl) (fun _ _ _ h => h) (Or.inl ⟨by rfl, ?y38⟩) (by assumption) ?r38
              case y38 => intro w hSw; (try dsimp only at hSw); go_simp; (try with_reducible rfl)
              (try simp only [Act.put, setIfInBounds_toArray, set_cons_zero, set_cons_succ, getElem_toArray, getElem_cons_zero, getElem_cons_succ])
              refine wpAnyH_ready (rs := [11]) (by kernel_rfl) (by simp) ?_
              refine AllReadyH.cons rfl (fun K hK => ?_) AllReadyH.nil
              have f0 := free_at hAl (i := 0)
              have f1 := free_at hAl (i := 1)
              have f2 := free_at hAl (i := 2)
              have f3 := free_at hAl (i := 3)
              obtain ⟨y0, y1, y2, y3⟩ := cells4 hAl
              have MD := Lib.hid md; have HAL := Lib.hid hAl; have HO := Lib.hid hO; have HN := Lib.hid hn
              clear md hAl hO hn
              go_simp
              refine k_gen (fun W' => W'.heap[nA]? = some (.cells #[.int .i64 GC.b, .int .i64 GC.hf, .int .i64 GC.sp, .int .i64 GC.tp] 24 (0, 0)) ∧ Turn [nA] W W') ⟨(fill4 HAL.out _ _ _ _).1, (fill4 HAL.out _ _ _ _).2.1⟩ fun W2 hW2 => ?_
              clear y0 y1 y2 y3 f0 f1 f2 f3
              obtain ⟨hAl, hT⟩ := hW2
              have hn := HN.out
              have md := MD.out.other hT (fun b hb => by have h1 := HN.out.1; have h2 := HT2.out; have h3 := MD.out.st.1; rw [List.mem_singleton.1 hb]; exact ⟨by omega, by omega, by omega⟩)
              have hO := HO.out.turn hT (fun b hb hm => HO.out.not_at HAL.out (by decide) (by rw [List.mem_singleton.1 hm] at hb; exact hb))
              clear MD HAL HO HN hT
              generalize W2 = W at *
              refine hK.out _ _ ?s39 (fun hHeld => ?k39)
              case s39 => ((try dsimp only); (first | with_reducible exact ⟨(cells2 kA.two).1, cells4 kA.hp⟩ | exact ⟨(cells2 md.two).1, cells4 md.hp⟩))
              clear hK K
              (try simp only [Act.put, setIfInBounds_toArray, set_cons_zero, set_cons_succ, getElem_toArray, getElem_cons_zero, getElem_cons_succ])
              refine wpAnyH_take (i := 12) (v := ?v40) rfl (by kernel_rfl) (by kernel_rfl) (by kernel_rfl) (fun _ _ _ h => h) (Or.inl ⟨by rfl, ?y40⟩) (by assumption) ?r40
              case y40 => intro w hSw; (try dsimp only at hSw); go_simp; (try with_reducible rfl)
              (try simp only [Act.put, setIfInBounds_toArray, set_cons_zero, set_cons_succ, getElem_toArray, getElem_cons_zero, getElem_cons_succ])
              refine wpAnyH_done (by kernel_rfl) ?_ _
              show wpList _ _ _ _ _ _
              have MD := Lib.hid md; have HAL := Lib.hid hAl; have HO := Lib.hid hO; have HN := Lib.hid hn
              clear md hAl hO hn hHeld
              go_wp2
              refine NoPanic.normal ?_
              go_wp2
              go_meet
              exact ⟨_, _, _, rfl, rfl, rfl, HAL.out, HN.out.1, MD.out, HO.out⟩
          case rest =>
            obtain ⟨nA, q7, c7, rfl, rfl, rfl, hnA, hnt, hmd, hown⟩ := hcut
            have HNA := Lib.hid hnA; have HNT := Lib.hid hnt; have MD := Lib.hid hmd; have HO := Lib.hid hown
            clear hnA hnt hmd hown K9
            obtain ⟨x0, x1⟩ := cells2 MD.out.two
            obtain ⟨y0, y1, y2, y3⟩ := cells4 MD.out.hp
            go_wp2_with fail
            refine (TF0.out.rcoll _ _ _ _ _ _ _ MD.out.r (HR.out.1.ext (MD.out.out HX2.out HGW.out))).mono ?_
            rintro e w10 ⟨q8, c8, rfl, hr10, ho10, ht10⟩
            have K10 := Lib.hid (MD.out.done hr10 ht10)
            have HNA10 := Lib.hid (ht10.keep HNA.out (by have h1 := MD.out.low; have h2 := HNT.out; have h3 := MD.out.st; omega))
            have HO10 := Lib.hid (own_lows HO.out ht10 (by omega))
            have HQ10 := Lib.hid ho10
            clear hr10 ho10 ht10 MD HNA HO x0 x1 y0 y1 y2 y3
            go_upto_region 18 with fail
            refine wp_alloc1 fun W11 hE11 _ b11 => ?_
            have K11 := Lib.hid (K10.out.ext hE11)
            have HNA11 := Lib.hid ((Below.block hE11 _ (Array.getElem?_eq_some_iff.1 HNA10.out).1).trans HNA10.out)
            have HO11 := Lib.hid (HO10.out.ext hE11)
            have HQ11 := Lib.hid (HQ10.out.ext hE11)
            have HG11 := Lib.hid b11
            clear hE11 b11 K10 HNA10 HO10 HQ10
            generalize w10.heap.size = nG at *
            have hz : GC.ws.take 3 = [0, 0, 0] := by rw [TF0.out.tc]; exact rigW_take _ _
            have HZ := Lib.hid hz
            clear hz
            obtain ⟨rs, hrs⟩ : ∃ rs, rs = GC.rs := ⟨_, rfl⟩
            rw [← hrs] at HO11 HQ11 HG11 ⊢
            obtain ⟨ok, hok⟩ : ∃ ok, ok = GC.ok := ⟨_, rfl⟩
            rw [← hok] at HG11 ⊢
            clear hrs hok
            obtain ⟨x0, x1⟩ := cells2 K11.out.two
            obtain ⟨y0, y1, y2, y3⟩ := cells4 HNA11.out
            obtain ⟨v0, v1, v2, v3, v4, v5⟩ := cells6 HG11.out
            go_wp2_with fail
            refine (keep_words (WordSl.of_rows HO11.out.p) (WordSl.of_rows HQ11.out.p)).mono ?_
            rintro e w12 ⟨rfl, hx12⟩
            rw [show decide (rs = rs) = true by simp]
            have K12 := Lib.hid (K11.out.ext hx12)
            have HG12 := (Below.block hx12 _ (Array.getElem?_eq_some_iff.1 HG11.out).1).trans HG11.out
            clear hx12 K11 HNA11 HO11 HQ11 HG11 x0 x1 y0 y1 y2 y3 v0 v1 v2 v3 v4 v5
            obtain ⟨x0, x1⟩ := cells2 K12.out.two
            obtain ⟨v0, v1, v2, v3, v4, v5⟩ := cells6 HG12
            have hokk : (ok != ok) = false := by simp
            go_wp2_with fail
            refine (same_tw K12.out (by omega) HZ.out).mono ?_
            rintro e w13 ⟨rfl, hx13⟩
            have K13 := Lib.hid (K12.out.ext hx13)
            clear hx13 K12 HG12 x0 x1 v0 v1 v2 v3 v4 v5
            go_wp2
            exact ⟨⟨1, by omega, rfl, K13.out.done HX2.out HGW.out, ((Below.block (K13.out.done HE2.out HGW2.out) _ (Array.getElem?_eq_some_iff.1 HBX.out).1).trans HBX.out).trans B1.out.symm⟩, by simp [Go.RowKit.intOf]⟩
        · obtain rfl : k = 1 := by omega
          go_upto_region 20 with fail
          go_cut [19, 20, 21] from 31 to 157 (fun v15 v16 v17 wx => ∃ nA q7 c7, v15 = .pointer (some ⟨nA, 0, none⟩) ∧ v16 = .slice q7 GR.rs.length c7 ∧ v17 = .bool GR.ok ∧ wx.heap[nA]? = some (.cells #[.int .i64 GR.b, .int .i64 GR.hf, .int .i64 GR.sp, .int .i64 GR.tp] 24 (0, 0)) ∧ t1 < nA ∧ Md w2 wx p g bm q gq B (l.length + 10) t0 t1 vR GR.ws (rigW l l.length) (rigR (max 1 l.length)) ⟨3, h0.half, h0.space, h0.top⟩ ∧ OwnP wx (gq + 1) 51 (.slice q7 GR.rs.length c7) 1 (GR.rs.map wordC))
          case first =>
            refine wp_region_noPanic ?_
            refine wp_region_last 14 (S := (fun w' => w'.cell? ⟨t0, 0, none⟩ = some (.pointer (some ⟨p, 0, none⟩)) ∧ w'.cell? ⟨t1, 0, none⟩ = some (.int .i64 3) ∧ w'.cell? ⟨t1, 1, none⟩ = some (.int .i64 h0.half) ∧ w'.cell? ⟨t1, 2, none⟩ = some (.int .i64 h0.space) ∧ w'.cell? ⟨t1, 3, none⟩ = some (.int .i64 h0.top))) (by kernel_rfl) (by kernel_rfl) _ rfl ?_ (fun hHeld => ?_)
            · skip
              have kA := K9.out.ext (Ext.drew w9)
              generalize w9.drew = W at *
              (first | with_reducible exact ⟨(cells2 kA.two).1, cells4 kA.hp⟩ | exact ⟨(cells2 md.two).1, cells4 md.hp⟩)
            have kA := K9.out.ext (Ext.drew w9)
            generalize w9.drew = W at *
            simp only [List.take_succ_cons, List.take_zero]
            refine wpAnyH_take (i := 0) (v := ?v41) rfl (by kernel_rfl) (by kernel_rfl) (by kernel_rfl) (fun _ _ _ h => h) (Or.inl ⟨by rfl, ?y41⟩) (by assumption) ?r41
            case y41 => intro w hSw; (try dsimp only at hSw); go_simp; (try with_reducible rfl)
            (try simp only [Act.put, setIfInBounds_toArray, set_cons_zero, set_cons_succ, getElem_toArray, getElem_cons_zero, getElem_cons_succ])
            refine wpAnyH_take (i := 1) (v := ?v42) rfl (by kernel_rfl) (by kernel_rfl) (by kernel_rfl) (fun _ _ _ h => h) (Or.inl ⟨by rfl, ?y42⟩) (by assumption) ?r42
            case y42 => intro w hSw; (try dsimp only at hSw); go_simp; (try with_reducible rfl)
            (try simp only [Act.put, setIfInBounds_toArray, set_cons_zero, set_cons_succ, getElem_toArray, getElem_cons_zero, getElem_cons_succ])
            refine wpAnyH_take (i := 2) (v := ?v43) rfl (by kernel_rfl) (by kernel_rfl) (by kernel_rfl) (fun _ _ _ h => h) (Or.inl ⟨by rfl, ?y43⟩) (by assumption) ?r43
            case y43 => intro w hSw; (try dsimp only at hSw); go_simp; (try with_reducible rfl)
            (try simp only [Act.put, setIfInBounds_toArray, set_cons_zero, set_cons_succ, getElem_toArray, getElem_cons_zero, getElem_cons_succ])
            refine wpAnyH_take (i := 3) (v := ?v44) rfl (by kernel_rfl) (by kernel_rfl) (by kernel_rfl) (fun _ _ _ h => h) (Or.inl ⟨by rfl, ?y44⟩) (by assumption) ?r44
            case y44 => intro w hSw; (try dsimp only at hSw); go_simp; (try with_reducible rfl)
            (try simp only [Act.put, setIfInBounds_toArray, set_cons_zero, set_cons_succ, getElem_toArray, getElem_cons_zero, getElem_cons_succ])
            refine wpAnyH_take (i := 5) (v := ?v45) rfl (by kernel_rfl) (by kernel_rfl) (by kernel_rfl) (fun _ _ _ h => h) (Or.inl ⟨by rfl, ?y45⟩) (by assumption) ?r45
            case y45 => intro w hSw; (try dsimp only at hSw); go_simp; (try with_reducible rfl)
            (try simp only [Act.put, setIfInBounds_toArray, set_cons_zero, set_cons_succ, getElem_toArray, getElem_cons_zero, getElem_cons_succ])
            refine wpAnyH_ready (rs := [4, 11]) (by kernel_rfl) (by simp) ?_
            refine AllReadyH.cons rfl (fun K hK => ?_) (AllReadyH.cons rfl (fun K hK => ?_) (AllReadyH.nil))
            · skip
              go_simp
              have hgW : g < W.heap.size ∧ gq < W.heap.size := ⟨kA.a.lt.2.1, kA.r.lt.2⟩
              refine (own_words (HR.out.1.ext (kA.done HX2.out HGW.out)) (by omega)).mono ?_
              rintro e w6 ⟨v6, rfl, ho, hx6⟩
              replace kA := kA.ext hx6
              try replace hAl := (Below.block hx6 _ (Array.getElem?_eq_some_iff.1 hAl).1).trans hAl
              obtain ⟨q6, c6, rfl, hl6, _⟩ := ho.len
              rw [List.length_map] at ho ⊢
              clear hx6 hl6
              generalize w6 = W at *
              refine hK.out _ _ ?s46 (fun hHeld => ?k46)
              case s46 => ((try dsimp only); (first | with_reducible exact ⟨(cells2 kA.two).1, cells4 kA.hp⟩ | exact ⟨(cells2 md.two).1, cells4 md.hp⟩))
              clear hK K
              (try simp only [Act.put, setIfInBounds_toArray, set_cons_zero, set_cons_succ, getElem_toArray, getElem_cons_zero, getElem_cons_succ])
              refine wpAnyH_ready (rs := [6, 11]) (by kernel_rfl) (by simp) ?_
              refine AllReadyH.cons rfl (fun K hK => ?_) (AllReadyH.cons rfl (fun K hK => ?_) (AllReadyH.nil))
              · skip
                go_simp
                have hgq2 : gq + 1 ≤ W.heap.size := kA.r.lt.2
                refine (TF0.out.room _ _ _ _ _ _ kA.a (ho.rowStay hgW.1)).mono ?_
                rintro e w7 ⟨q7, c7, rfl, ha7, hO1, ht7⟩
                have md := kA.md ha7 ht7
                have hO := hO1.mono hgq2
                try replace hAl := ht7.keep hAl (by omega)
                clear ha7 ht7 kA ho hO1 hgW hgq2
                generalize w7 = W at *
                refine hK.out _ _ ?s47 (fun hHeld => ?k47)
                case s47 => ((try dsimp only); (first | with_reducible exact ⟨(cells2 kA.two).1, cells4 kA.hp⟩ | exact ⟨(cells2 md.two).1, cells4 md.hp⟩))
                clear hK K
                (try simp only [Act.put, setIfInBounds_toArray, set_cons_zero, set_cons_succ, getElem_toArray, getElem_cons_zero, getElem_cons_succ])
                refine wpAnyH_take (i := 7) (v := ?v48) rfl (by kernel_rfl) (by kernel_rfl) (by kernel_rfl) (fun _ _ _ h => h) (Or.inl ⟨by rfl, ?y48⟩) (by assumption) ?r48
                case y48 => intro w hSw; (try dsimp only at hSw); go_simp; (try with_reducible rfl)
                (try simp only [Act.put, setIfInBounds_toArray, set_cons_zero, set_cons_succ, getElem_toArray, getElem_cons_zero, getElem_cons_succ])
                refine wpAnyH_take (i := 8) (v := ?v49) rfl (by kernel_rfl) (by kernel_rfl) (by kernel_rfl) (fun _ _ _ h => h) (Or.inl ⟨by rfl, ?y49⟩) (by assumption) ?r49
                case y49 => intro w hSw; (try dsimp only at hSw); go_simp; (try with_reducible rfl)
                (try simp only [Act.put, setIfInBounds_toArray, set_cons_zero, set_cons_succ, getElem_toArray, getElem_cons_zero, getElem_cons_succ])
                refine wpAnyH_take (i := 9) (v := ?v50) rfl (by kernel_rfl) (by kernel_rfl) (by kernel_rfl) (fun _ _ _ h => h) (Or.inl ⟨by rfl, ?y50⟩) (by assumption) ?r50
                case y50 => intro w hSw; (try dsimp only at hSw); go_simp; (try with_reducible rfl)
                (try simp only [Act.put, setIfInBounds_toArray, set_cons_zero, set_cons_succ, getElem_toArray, getElem_cons_zero, getElem_cons_succ])
                refine wpAnyH_take (i := 10) (v := ?v51) rfl (by kernel_rfl) (by kernel_rfl) (by kernel_rfl) (fun _ _ _ h => h) (Or.inl ⟨by rfl, ?y51⟩) (by assumption) ?r51
                case y51 => intro w hSw; (try dsimp only at hSw); go_simp; (try with_reducible rfl)
                (try simp only [Act.put, setIfInBounds_toArray, set_cons_zero, set_cons_succ, getElem_toArray, getElem_cons_zero, getElem_cons_succ])
                refine wpAnyH_ready (rs := [11]) (by kernel_rfl) (by simp) ?_
                refine AllReadyH.cons rfl (fun K hK => ?_) AllReadyH.nil
                go_simp
                have e1 := Ext.alloc W (.cells #[.int .i64 0, .int .i64 0, .int .i64 0, .int .i64 0] 24)
                have hAl := heap_alloc_new W (.cells #[.int .i64 0, .int .i64 0, .int .i64 0, .int .i64 0] 24)
                have hn : t1 < W.heap.size ∧ g < W.heap.size := by
                  first
                    | exact ⟨(Array.getElem?_eq_some_iff.1 kA.hp).1, kA.a.lt.2.1⟩
                    | exact ⟨(Array.getElem?_eq_some_iff.1 md.hp).1, md.a.lt.2.1⟩
                try replace kA := kA.ext e1
                try replace md := md.ext e1
                try replace ho := ho.ext e1
                try replace hO := hO.ext e1
                clear e1
                generalize W.heap.size = nA at *
                generalize W.alloc (.cells #[.int .i64 0, .int .i64 0, .int .i64 0, .int .i64 0] 24) = W at *
                refine hK.out _ _ ?s52 (fun hHeld => ?k52)
                case s52 => ((try dsimp only); (first | with_reducible exact ⟨(cells2 kA.two).1, cells4 kA.hp⟩ | exact ⟨(cells2 md.two).1, cells4 md.hp⟩))
                clear hK K
                (try simp only [Act.put, setIfInBounds_toArray, set_cons_zero, set_cons_succ, getElem_toArray, getElem_cons_zero, getElem_cons_succ])
                refine wpAnyH_ready (rs := [12]) (by kernel_rfl) (by simp) ?_
                refine AllReadyH.cons rfl (fun K hK => ?_) AllReadyH.nil
                have f0 := free_at hAl (i := 0)
                have f1 := free_at hAl (i := 1)
                have f2 := free_at hAl (i := 2)
                have f3 := free_at hAl (i := 3)
                obtain ⟨y0, y1, y2, y3⟩ := cells4 hAl
                have MD := Lib.hid md; have HAL := Lib.hid hAl; have HO := Lib.hid hO; have HN := Lib.hid hn
                clear md hAl hO hn
                go_simp
                refine k_gen (fun W' => W'.heap[nA]? = some (.cells #[.int .i64 GR.b, .int .i64 GR.hf, .int .i64 GR.sp, .int .i64 GR.tp] 24 (0, 0)) ∧ Turn [nA] W W') ⟨(fill4 HAL.out _ _ _ _).1, (fill4 HAL.out _ _ _ _).2.1⟩ fun W2 hW2 => ?_
                clear y0 y1 y2 y3 f0 f1 f2 f3
                obtain ⟨hAl, hT⟩ := hW2
                have hn := HN.out
                have md := MD.out.other hT (fun b hb => by have h1 := HN.out.1; have h2 := HT2.out; have h3 := MD.out.st.1; rw [List.mem_singleton.1 hb]; exact ⟨by omega, by omega, by omega⟩)
                have hO := HO.out.turn hT (fun b hb hm => HO.out.not_at HAL.out (by decide) (by rw [List.mem_singleton.1 hm] at hb; exact hb))
                clear MD HAL HO HN hT
                generalize W2 = W at *
                refine hK.out _ _ ?s53 (fun hHeld => ?k53)
                case s53 => ((try dsimp only); (first | with_reducible exact ⟨(cells2 kA.two).1, cells4 kA.hp⟩ | exact ⟨(cells2 md.two).1, cells4 md.hp⟩))
                clear hK K
                (try simp only [Act.put, setIfInBounds_toArray, set_cons_zero, set_cons_succ, getElem_toArray, getElem_cons_zero, getElem_cons_succ])
                refine wpAnyH_take (i := 13) (v := ?v54) rfl (by kernel_rfl) (by kernel_rfl) (by kernel_rfl) (fun _ _ _ h => h) (Or.inl ⟨by rfl, ?y54⟩) (by assumption) ?r54
                case y54 => intro w hSw; (try dsimp only at hSw); go_simp; (try with_reducible rfl)
                (try simp only [Act.put, setIfInBounds_toArray, set_cons_zero, set_cons_succ, getElem_toArray, getElem_cons_zero, getElem_cons_succ])
                refine wpAnyH_done (by kernel_rfl) ?_ _
                show wpList _ _ _ _ _ _
                have MD := Lib.hid md; have HAL := Lib.hid hAl; have HO := Lib.hid hO; have HN := Lib.hid hn
                clear md hAl hO hn hHeld
                go_wp2
                refine NoPanic.normal ?_
                go_wp2
                go_meet
                exact ⟨_, _, _, rfl, rfl, rfl, HAL.out, HN.out.1, MD.out, HO.out⟩
              · skip
                go_simp
                have e1 := Ext.alloc W (.cells #[.int .i64 0, .int .i64 0, .int .i64 0, .int .i64 0] 24)
                have hAl := heap_alloc_new W (.cells #[.int .i64 0, .int .i64 0, .int .i64 0, .int .i64 0] 24)
                have hn : t1 < W.heap.size ∧ g < W.heap.size := by
                  first
                    | exact ⟨(Array.getElem?_eq_some_iff.1 kA.hp).1, kA.a.lt.2.1⟩
                    | exact ⟨(Array.getElem?_eq_some_iff.1 md.hp).1, md.a.lt.2.1⟩
                try replace kA := kA.ext e1
                try replace md := md.ext e1
                try replace ho := ho.ext e1
                try replace hO := hO.ext e1
                clear e1
                generalize W.heap.size = nA at *
                generalize W.alloc (.cells #[.int .i64 0, .int .i64 0, .int .i64 0, .int .i64 0] 24) = W at *
                refine hK.out _ _ ?s55 (fun hHeld => ?k55)
                case s55 => ((try dsimp only); (first | with_reducible exact ⟨(cells2 kA.two).1, cells4 kA.hp⟩ | exact ⟨(cells2 md.two).1, cells4 md.hp⟩))
                clear hK K
                (try simp only [Act.put, setIfInBounds_toArray, set_cons_zero, set_cons_succ, getElem_toArray, getElem_cons_zero, getElem_cons_succ])
                refine wpAnyH_ready (rs := [6]) (by kernel_rfl) (by simp) ?_
                refine AllReadyH.cons rfl (fun K hK => ?_) AllReadyH.nil
                go_simp
                have hgq2 : gq + 1 ≤ W.heap.size := kA.r.lt.2
                refine (TF0.out.room _ _ _ _ _ _ kA.a (ho.rowStay hgW.1)).mono ?_
                rintro e w7 ⟨q7, c7, rfl, ha7, hO1, ht7⟩
                have md := kA.md ha7 ht7
                have hO := hO1.mono hgq2
                try replace hAl := ht7.keep hAl (by omega)
                clear ha7 ht7 kA ho hO1 hgW hgq2
                generalize w7 = W at *
                refine hK.out _ _ ?s56 (fun hHeld => ?k56)
                case s56 => ((try dsimp only); (first | with_reducible exact ⟨(cells2 kA.two).1, cells4 kA.hp⟩ | exact ⟨(cells2 md.two).1, cells4 md.hp⟩))
                clear hK K
                (try simp only [Act.put, setIfInBounds_toArray, set_cons_zero, set_cons_succ, getElem_toArray, getElem_cons_zero, getElem_cons_succ])
                refine wpAnyH_take (i := 7) (v := ?v57) rfl (by kernel_rfl) (by kernel_rfl) (by kernel_rfl) (fun _ _ _ h => h) (Or.inl ⟨by rfl, ?y57⟩) (by assumption) ?r57
                case y57 => intro w hSw; (try dsimp only at hSw); go_simp; (try with_reducible rfl)
                (try simp only [Act.put, setIfInBounds_toArray, set_cons_zero, set_cons_succ, getElem_toArray, getElem_cons_zero, getElem_cons_succ])
                refine wpAnyH_take (i := 8) (v := ?v58) rfl (by kernel_rfl) (by kernel_rfl) (by kernel_rfl) (fun _ _ _ h => h) (Or.inl ⟨by rfl, ?y58⟩) (by assumption) ?r58
                case y58 => intro w hSw; (try dsimp only at hSw); go_simp; (try with_reducible rfl)
                (try simp only [Act.put, setIfInBounds_toArray, set_cons_zero, set_cons_succ, getElem_toArray, getElem_cons_zero, getElem_cons_succ])
                refine wpAnyH_take (i := 9) (v := ?v59) rfl (by kernel_rfl) (by kernel_rfl) (by kernel_rfl) (fun _ _ _ h => h) (Or.inl ⟨by rfl, ?y59⟩) (by assumption) ?r59
                case y59 => intro w hSw; (try dsimp only at hSw); go_simp; (try with_reducible rfl)
                (try simp only [Act.put, setIfInBounds_toArray, set_cons_zero, set_cons_succ, getElem_toArray, getElem_cons_zero, getElem_cons_succ])
                refine wpAnyH_take (i := 10) (v := ?v60) rfl (by kernel_rfl) (by kernel_rfl) (by kernel_rfl) (fun _ _ _ h => h) (Or.inl ⟨by rfl, ?y60⟩) (by assumption) ?r60
                case y60 => intro w hSw; (try dsimp only at hSw); go_simp; (try with_reducible rfl)
                (try simp only [Act.put, setIfInBounds_toArray, set_cons_zero, set_cons_succ, getElem_toArray, getElem_cons_zero, getElem_cons_succ])
                refine wpAnyH_ready (rs := [12]) (by kernel_rfl) (by simp) ?_
                refine AllReadyH.cons rfl (fun K hK => ?_) AllReadyH.nil
                have f0 := free_at hAl (i := 0)
                have f1 := free_at hAl (i := 1)
                have f2 := free_at hAl (i := 2)
                have f3 := free_at hAl (i := 3)
                obtain ⟨y0, y1, y2, y3⟩ := cells4 hAl
                have MD := Lib.hid md; have HAL := Lib.hid hAl; have HO := Lib.hid hO; have HN := Lib.hid hn
                clear md hAl hO hn
                go_simp
                refine k_gen (fun W' => W'.heap[nA]? = some (.cells #[.int .i64 GR.b, .int .i64 GR.hf, .int .i64 GR.sp, .int .i64 GR.tp] 24 (0, 0)) ∧ Turn [nA] W W') ⟨(fill4 HAL.out _ _ _ _).1, (fill4 HAL.out _ _ _ _).2.1⟩ fun W2 hW2 => ?_
                clear y0 y1 y2 y3 f0 f1 f2 f3
                obtain ⟨hAl, hT⟩ := hW2
                have hn := HN.out
                have md := MD.out.other hT (fun b hb => by have h1 := HN.out.1; have h2 := HT2.out; have h3 := MD.out.st.1; rw [List.mem_singleton.1 hb]; exact ⟨by omega, by omega, by omega⟩)
                have hO := HO.out.turn hT (fun b hb hm => HO.out.not_at HAL.out (by decide) (by rw [List.mem_singleton.1 hm] at hb; exact hb))
                clear MD HAL HO HN hT
                generalize W2 = W at *
                refine hK.out _ _ ?s61 (fun hHeld => ?k61)
                case s61 => ((try dsimp only); (first | with_reducible exact ⟨(cells2 kA.two).1, cells4 kA.hp⟩ | exact ⟨(cells2 md.two).1, cells4 md.hp⟩))
                clear hK K
                (try simp only [Act.put, setIfInBounds_toArray, set_cons_zero, set_cons_succ, getElem_toArray, getElem_cons_zero, getElem_cons_succ])
                refine wpAnyH_take (i := 13) (v := ?v62) rfl (by kernel_rfl) (by kernel_rfl) (by kernel_rfl) (fun _ _ _ h => h) (Or.inl ⟨by rfl, ?y62⟩) (by assumption) ?r62
                case y62 => intro w hSw; (try dsimp only at hSw); go_simp; (try with_reducible rfl)
                (try simp only [Act.put, setIfInBounds_toArray, set_cons_zero, set_cons_succ, getElem_toArray, getElem_cons_zero, getElem_cons_succ])
                refine wpAnyH_done (by kernel_rfl) ?_ _
                show wpList _ _ _ _ _ _
                have MD := Lib.hid md; have HAL := Lib.hid hAl; have HO := Lib.hid hO; have HN := Lib.hid hn
                clear md hAl hO hn hHeld
                go_wp2
                refine NoPanic.normal ?_
                go_wp2
                go_meet
                exact ⟨_, _, _, rfl, rfl, rfl, HAL.out, HN.out.1, MD.out, HO.out⟩
            · skip
              go_simp
              have e1 := Ext.alloc W (.cells #[.int .i64 0, .int .i64 0, .int .i64 0, .int .i64 0] 24)
              have hAl := heap_alloc_new W (.cells #[.int .i64 0, .int .i64 0, .int .i64 0, .int .i64 0] 24)
              have hn : t1 < W.heap.size ∧ g < W.heap.size := by
                first
                  | exact ⟨(Array.getElem?_eq_some_iff.1 kA.hp).1, kA.a.lt.2.1⟩
                  | exact ⟨(Array.getElem?_eq_some_iff.1 md.hp).1, md.a.lt.2.1⟩
              try replace kA := kA.ext e1
              try replace md := md.ext e1
              try replace ho := ho.ext e1
              try replace hO := hO.ext e1
              clear e1
              generalize W.heap.size = nA at *
              generalize W.alloc (.cells #[.int .i64 0, .int .i64 0, .int .i64 0, .int .i64 0] 24) = W at *
              refine hK.out _ _ ?s63 (fun hHeld => ?k63)
              case s63 => ((try dsimp only); (first | with_reducible exact ⟨(cells2 kA.two).1, cells4 kA.hp⟩ | exact ⟨(cells2 md.two).1, cells4 md.hp⟩))
              clear hK K
              (try simp only [Act.put, setIfInBounds_toArray, set_cons_zero, set_cons_succ, getElem_toArray, getElem_cons_zero, getElem_cons_succ])
              refine wpAnyH_ready (rs := [4]) (by kernel_rfl) (by simp) ?_
              refine AllReadyH.cons rfl (fun K hK => ?_) AllReadyH.nil
              go_simp
              have hgW : g < W.heap.size ∧ gq < W.heap.size := ⟨kA.a.lt.2.1, kA.r.lt.2⟩
              refine (own_words (HR.out.1.ext (kA.done HX2.out HGW.out)) (by omega)).mono ?_
              rintro e w6 ⟨v6, rfl, ho, hx6⟩
              replace kA := kA.ext hx6
              try replace hAl := (Below.block hx6 _ (Array.getElem?_eq_some_iff.1 hAl).1).trans hAl
              obtain ⟨q6, c6, rfl, hl6, _⟩ := ho.len
              rw [List.length_map] at ho ⊢
              clear hx6 hl6
              generalize w6 = W at *
              refine hK.out _ _ ?s64 (fun hHeld => ?k64)
              case s64 => ((try dsimp only); (first | with_reducible exact ⟨(cells2 kA.two).1, cells4 kA.hp⟩ | exact ⟨(cells2 md.two).1, cells4 md.hp⟩))
              clear hK K
              (try simp only [Act.put, setIfInBounds_toArray, set_cons_zero, set_cons_succ, getElem_toArray, getElem_cons_zero, getElem_cons_succ])
              refine wpAnyH_ready (rs := [6]) (by kernel_rfl) (by simp) ?_
              refine AllReadyH.cons rfl (fun K hK => ?_) AllReadyH.nil
              go_simp
              have hgq2 : gq + 1 ≤ W.heap.size := kA.r.lt.2
              refine (TF0.out.room _ _ _ _ _ _ kA.a (ho.rowStay hgW.1)).mono ?_
              rintro e w7 ⟨q7, c7, rfl, ha7, hO1, ht7⟩
              have md := kA.md ha7 ht7
              have hO := hO1.mono hgq2
              try replace hAl := ht7.keep hAl (by omega)
              clear ha7 ht7 kA ho hO1 hgW hgq2
              generalize w7 = W at *
              refine hK.out _ _ ?s65 (fun hHeld => ?k65)
              case s65 => ((try dsimp only); (first | with_reducible exact ⟨(cells2 kA.two).1, cells4 kA.hp⟩ | exact ⟨(cells2 md.two).1, cells4 md.hp⟩))
              clear hK K
              (try simp only [Act.put, setIfInBounds_toArray, set_cons_zero, set_cons_succ, getElem_toArray, getElem_cons_zero, getElem_cons_succ])
              refine wpAnyH_take (i := 7) (v := ?v66) rfl (by kernel_rfl) (by kernel_rfl) (by kernel_rfl) (fun _ _ _ h => h) (Or.inl ⟨by rfl, ?y66⟩) (by assumption) ?r66
              case y66 => intro w hSw; (try dsimp only at hSw); go_simp; (try with_reducible rfl)
              (try simp only [Act.put, setIfInBounds_toArray, set_cons_zero, set_cons_succ, getElem_toArray, getElem_cons_zero, getElem_cons_succ])
              refine wpAnyH_take (i := 8) (v := ?v67) rfl (by kernel_rfl) (by kernel_rfl) (by kernel_rfl) (fun _ _ _ h => h) (Or.inl ⟨by rfl, ?y67⟩) (by assumption) ?r67
              case y67 => intro w hSw; (try dsimp only at hSw); go_simp; (try with_reducible rfl)
              (try simp only [Act.put, setIfInBounds_toArray, set_cons_zero, set_cons_succ, getElem_toArray, getElem_cons_zero, getElem_cons_succ])
              refine wpAnyH_take (i := 9) (v := ?v68) rfl (by kernel_rfl) (by kernel_rfl) (by kernel_rfl) (fun _ _ _ h => h) (Or.inl ⟨by rfl, ?y68⟩) (by assumption) ?r68
              case y68 => intro w hSw; (try dsimp only at hSw); go_simp; (try with_reducible rfl)
              (try simp only [Act.put, setIfInBounds_toArray, set_cons_zero, set_cons_succ, getElem_toArray, getElem_cons_zero, getElem_cons_succ])
              refine wpAnyH_take (i := 10) (v := ?v69) rfl (by kernel_rfl) (by kernel_rfl) (by kernel_rfl) (fun _ _ _ h => h) (Or.inl ⟨by rfl, ?y69⟩) (by assumption) ?r69
              case y69 => intro w hSw; (try dsimp only at hSw); go_simp; (try with_reducible rfl)
              (try simp only [Act.put, setIfInBounds_toArray, set_cons_zero, set_cons_succ, getElem_toArray, getElem_cons_zero, getElem_cons_succ])
              refine wpAnyH_ready (rs := [12]) (by kernel_rfl) (by simp) ?_
              refine AllReadyH.cons rfl (fun K hK => ?_) AllReadyH.nil
              have f0 := free_at hAl (i := 0)
              have f1 := free_at hAl (i := 1)
              have f2 := free_at hAl (i := 2)
              have f3 := free_at hAl (i := 3)
              obtain ⟨y0, y1, y2, y3⟩ := cells4 hAl
              have MD := Lib.hid md; have HAL := Lib.hid hAl; have HO := Lib.hid hO; have HN := Lib.hid hn
              clear md hAl hO hn
              go_simp
              refine k_gen (fun W' => W'.heap[nA]? = some (.cells #[.int .i64 GR.b, .int .i64 GR.hf, .int .i64 GR.sp, .int .i64 GR.tp] 24 (0, 0)) ∧ Turn [nA] W W') ⟨(fill4 HAL.out _ _ _ _).1, (fill4 HAL.out _ _ _ _).2.1⟩ fun W2 hW2 => ?_
              clear y0 y1 y2 y3 f0 f1 f2 f3
              obtain ⟨hAl, hT⟩ := hW2
              have hn := HN.out
              have md := MD.out.other hT (fun b hb => by have h1 := HN.out.1; have h2 := HT2.out; have h3 := MD.out.st.1; rw [List.mem_singleton.1 hb]; exact ⟨by omega, by omega, by omega⟩)
              have hO := HO.out.turn hT (fun b hb hm => HO.out.not_at HAL.out (by decide) (by rw [List.mem_singleton.1 hm] at hb; exact hb))
              clear MD HAL HO HN hT
              generalize W2 = W at *
              refine hK.out _ _ ?s70 (fun hHeld => ?k70)
              case s70 => ((try dsimp only); (first | with_reducible exact ⟨(cells2 kA.two).1, cells4 kA.hp⟩ | exact ⟨(cells2 md.two).1, cells4 md.hp⟩))
              clear hK K
              (try simp only [Act.put, setIfInBounds_toArray, set_cons_zero, set_cons_succ, getElem_toArray, getElem_cons_zero, getElem_cons_succ])
              refine wpAnyH_take (i := 13) (v := ?v71) rfl (by kernel_rfl) (by kernel_rfl) (by kernel_rfl) (fun _ _ _ h => h) (Or.inl ⟨by rfl, ?y71⟩) (by assumption) ?r71
              case y71 => intro w hSw; (try dsimp only at hSw); go_simp; (try with_reducible rfl)
              (try simp only [Act.put, setIfInBounds_toArray, set_cons_zero, set_cons_succ, getElem_toArray, getElem_cons_zero, getElem_cons_succ])
              refine wpAnyH_done (by kernel_rfl) ?_ _
              show wpList _ _ _ _ _ _
              have MD := Lib.hid md; have HAL := Lib.hid hAl; have HO := Lib.hid hO; have HN := Lib.hid hn
              clear md hAl hO hn hHeld
              go_wp2
              refine NoPanic.normal ?_
              go_wp2
              go_meet
              exact ⟨_, _, _, rfl, rfl, rfl, HAL.out, HN.out.1, MD.out, HO.out⟩
          case rest =>
            obtain ⟨nA, q7, c7, rfl, rfl, rfl, hnA, hnt, hmd, hown⟩ := hcut
            have HNA := Lib.hid hnA; have HNT := Lib.hid hnt; have MD := Lib.hid hmd; have HO := Lib.hid hown
            clear hnA hnt hmd hown K9
            obtain ⟨x0, x1⟩ := cells2 MD.out.two
            obtain ⟨y0, y1, y2, y3⟩ := cells4 MD.out.hp
            go_wp2_with fail
            refine (TF0.out.rroom _ _ _ _ _ _ _ MD.out.r (HR.out.1.ext (MD.out.out HX2.out HGW.out))).mono ?_
            rintro e w10 ⟨q8, c8, rfl, hr10, ho10, ht10⟩
            have K10 := Lib.hid (MD.out.done hr10 ht10)
            have HNA10 := Lib.hid (ht10.keep HNA.out (by have h1 := MD.out.low; have h2 := HNT.out; have h3 := MD.out.st; omega))
            have HO10 := Lib.hid (own_lows HO.out ht10 (by omega))
            have HQ10 := Lib.hid ho10
            clear hr10 ho10 ht10 MD HNA HO x0 x1 y0 y1 y2 y3
            go_upto_region 22 with fail
            refine wp_alloc1 fun W11 hE11 _ b11 => ?_
            have K11 := Lib.hid (K10.out.ext hE11)
            have HNA11 := Lib.hid ((Below.block hE11 _ (Array.getElem?_eq_some_iff.1 HNA10.out).1).trans HNA10.out)
            have HO11 := Lib.hid (HO10.out.ext hE11)
            have HQ11 := Lib.hid (HQ10.out.ext hE11)
            have HG11 := Lib.hid b11
            clear hE11 b11 K10 HNA10 HO10 HQ10
            generalize w10.heap.size = nG at *
            have hz : GR.ws.take 3 = [0, 0, 0] := by rw [TF0.out.tr]; exact rigW_take _ _
            have HZ := Lib.hid hz
            clear hz
            obtain ⟨rs, hrs⟩ : ∃ rs, rs = GR.rs := ⟨_, rfl⟩
            rw [← hrs] at HO11 HQ11 HG11 ⊢
            obtain ⟨ok, hok⟩ : ∃ ok, ok = GR.ok := ⟨_, rfl⟩
            rw [← hok] at HG11 ⊢
            clear hrs hok
            obtain ⟨x0, x1⟩ := cells2 K11.out.two
            obtain ⟨y0, y1, y2, y3⟩ := cells4 HNA11.out
            obtain ⟨v0, v1, v2, v3, v4, v5⟩ := cells6 HG11.out
            go_wp2_with fail
            refine (keep_words (WordSl.of_rows HO11.out.p) (WordSl.of_rows HQ11.out.p)).mono ?_
            rintro e w12 ⟨rfl, hx12⟩
            rw [show decide (rs = rs) = true by simp]
            have K12 := Lib.hid (K11.out.ext hx12)
            have HG12 := (Below.block hx12 _ (Array.getElem?_eq_some_iff.1 HG11.out).1).trans HG11.out
            clear hx12 K11 HNA11 HO11 HQ11 HG11 x0 x1 y0 y1 y2 y3 v0 v1 v2 v3 v4 v5
            obtain ⟨x0, x1⟩ := cells2 K12.out.two
            obtain ⟨v0, v1, v2, v3, v4, v5⟩ := cells6 HG12
            have hokk : (ok != ok) = false := by simp
            go_wp2_with fail
            refine (same_tw K12.out (by omega) HZ.out).mono ?_
            rintro e w13 ⟨rfl, hx13⟩
            have K13 := Lib.hid (K12.out.ext hx13)
            clear hx13 K12 HG12 x0 x1 v0 v1 v2 v3 v4 v5
            go_wp2
            exact ⟨⟨2, by omega, rfl, K13.out.done HX2.out HGW.out, ((Below.block (K13.out.done HE2.out HGW2.out) _ (Array.getElem?_eq_some_iff.1 HBX.out).1).trans HBX.out).trans B1.out.symm⟩, by simp [Go.RowKit.intOf]⟩
      · have i1 : ¬ (k : Int) < 2 := by omega
        go_wp2_with fail
        refine (wakes4 _).mono ?_
        rintro e w2 ⟨rfl, hx2⟩
        have HX2 := Lib.hid (HX.out.trans hx2)
        clear hx2
        go_wp2
        go_ret
        exact ⟨rfl, HX2.out⟩
open Go Go.RowKit Go.Maps Arena
theorem tells_walk' {w : World} {v vr : Value} {x : RawI} {l : List Int} {k : Int} (h : v = .agg (rawC x).toArray ∧ RawP w x) (hr : WdsP w vr l) : Calls Tryz.prog 3 #[v, vr, .int .i64 k] w (TrueExt w) := by
  obtain ⟨rfl, hp⟩ := h
  exact tells_walk hp.p hp.h hr k
end Go.Proofs.YtinakendlpomnaaGreat
