/- ArenaApart: the walk. -/
import Derived.Test.YtibpnhaamdelmaaArenaT
import Derived.Deep.RegionHeld3
import Derived.Deep.DrawnRows
namespace Go.Proofs.Ytibpnhaamdelmaa
open Go.RowKit Go.Maps Arena
set_option maxHeartbeats 8000000
set_option maxRecDepth 100000
/-- what a cut answers, either way -/
def CutSaid (w : World) (p g bm n k : Nat) (ws : List Int) (R : List (Nat × Nat)) (b : Bool) (a : Nat) (w' : World) : Prop :=
  (b = true ∧ scan k 0 R + k ≤ n ∧ a = scan k 0 R ∧ ArenaAt w' p g bm n (setMany ws a (List.replicate k 0)) (ins (a, k) R) ∧ Turn [g, bm] w w') ∨ (b = false ∧ ¬ scan k 0 R + k ≤ n ∧ ArenaAt w' p g bm n ws R ∧ Turn [g, bm] w w')
theorem cut_said {w : World} {p g bm n : Nat} {ws : List Int} {R : List (Nat × Nat)} {k : Nat} (h : ArenaAt w p g bm n ws R) (hk : 1 ≤ k) (hk2 : k ≤ 9223372036854775807) :
    Calls Try.prog 10 #[.pointer (some ⟨p, 0, none⟩), .int .i64 k] w fun e w' => ∃ (b : Bool) (a : Nat), e = .returned (.tuple #[.int .i64 a, .bool b]) ∧ CutSaid w p g bm n k ws R b a w' := by
  refine (cut_is h hk hk2).mono ?_
  rintro e w' (⟨h1, h2, h3, h4⟩ | ⟨h1, h2, h3⟩)
  · exact ⟨true, _, h2, .inl ⟨rfl, h1, rfl, h3, h4⟩⟩
  · exact ⟨false, 0, h2, .inr ⟨rfl, h1, h.ext h3, Turn.of_ext h3⟩⟩
theorem ins_ne_nil (x : Nat × Nat) (R : List (Nat × Nat)) : ins x R ≠ [] := by
  intro h
  have := length_ins x R
  rw [h] at this
  simp at this
theorem row_mono {w : World} {base base' size : Nat} {e : TypeId} {v : Value} {n : Nat} {xs : List Value} (h : w.ownsRow base e size v n xs) (hb : base' ≤ base) : w.ownsRow base' e size v n xs :=
  ⟨h.1, h.2.imp id fun ⟨g, cap, cur, h1, hb1, r⟩ => ⟨g, cap, cur, h1, Nat.le_trans hb hb1, r⟩⟩
theorem rows_apart {w : World} {b1 b2 e1 e2 s1 s2 n1 n2 : Nat} {v1 v2 : Value} {x1 x2 : List Value} (h1 : w.ownsRow b1 e1 s1 v1 n1 x1) (h2 : w.ownsRow b2 e2 s2 v2 n2 x2) (hne : e1 ≠ e2) : v1.ownBlock = none ∨ v1.ownBlock ≠ v2.ownBlock := by
  rcases h1.2 with ⟨rfl, _⟩ | ⟨g, cap, cur, rfl, _, hg, _⟩
  · exact .inl rfl
  rcases h2.2 with ⟨rfl, _⟩ | ⟨g2, cap2, cur2, rfl, _, hg2, _⟩
  · exact .inr (by simp [Value.ownBlock])
  · refine .inr fun h => hne ?_
    simp only [Value.ownBlock, Option.some.injEq] at h
    subst h
    rw [hg] at hg2
    simp only [Option.some.injEq, Obj.cells.injEq] at hg2
    exact hg2.2.1
/-- a set in one of the regions: what it leaves -/
def SetSaid (w : World) (p g bm n : Nat) (ws : List Int) (R : List (Nat × Nat)) (k : Nat) (w' : World) : Prop :=
  Turn [g] w w' ∧ ∃ ws', ArenaAt w' p g bm n ws' R ∧ ∀ (j : Nat) (hj : j < R.length), j ≠ k → wordsOf ws' R[j] = wordsOf ws R[j]
theorem set_said {w : World} {p g bm n : Nat} {ws : List Int} {R : List (Nat × Nat)} {k : Nat} {a v : Int} (h : ArenaAt w p g bm n ws R) (hk : k < R.length) :
    Calls Try.prog 16 #[.pointer (some ⟨p, 0, none⟩), .int .i64 R[k].1, .int .i64 a, .int .u64 v] w fun e w' => ∃ b, e = .returned (.bool b) ∧ SetSaid w p g bm n ws R k w' := by
  by_cases ha : a < 0 ∨ (R[k].2 : Int) ≤ a
  · refine (set_out h (List.getElem_mem hk) ha).mono ?_
    rintro e w' ⟨rfl, rfl⟩
    exact ⟨false, rfl, Turn.refl _ _, ws, h, fun _ _ _ => rfl⟩
  · obtain ⟨m, rfl⟩ := Int.eq_ofNat_of_zero_le (by omega : 0 ≤ a)
    refine (set_yes (a := m) h (List.getElem_mem hk) (by omega)).mono ?_
    rintro e w' ⟨rfl, hA, hT⟩
    exact ⟨true, rfl, hT, _, hA, fun j hj hne => words_apart h.good hk hj (fun e => hne e.symm) (by omega) v⟩
theorem apart_walk {v u : Value} {sz : List Nat} {l : List StepD} {w : World} (hv : ByteSl w v sz) (hu : StepSl w u l) : Calls Try.prog 4 #[v, u] w (TrueExt w) := by
  obtain ⟨q, c, rfl, hc1, hc2, hcell⟩ := hv
  obtain ⟨q2, c2, rfl, hd1, hd2, hcell2⟩ := hu
  have HC := Lib.hid hcell
  have HL := Lib.hid hcell2
  unfold maxLen at hc2 hd2
  clear hcell hcell2
  by_cases hbig : 12 < sz.length ∨ 40 < l.length
  · have b1 : decide ((12 : Int) < (sz.length : Int)) = true ∨ (decide ((12 : Int) < (sz.length : Int)) = false ∧ decide ((40 : Int) < (l.length : Int)) = true) := by
      by_cases h : 12 < sz.length
      · exact .inl (decide_eq_true (by omega))
      · exact .inr ⟨decide_eq_false (by omega), decide_eq_true (by omega)⟩
    clear hbig
    rcases b1 with b1 | ⟨b1, b2⟩
    all_goals
      go_enter Try.func4, Try.ntmps4
      go_wp2_with fail
      refine (new_is (n := 500) (by omega) (by omega)).mono ?_; rintro e w1 ⟨p, g, bm, rfl, h1, hx1, hp, hg, hm⟩
      have HX := Lib.hid hx1
      clear h1 hx1
      go_wp2_with fail
      refine (arena_wakes w1).mono ?_; rintro e w2 ⟨rfl, hx2⟩
      go_wp2
      go_ret
      exact ⟨rfl, HX.out.trans hx2⟩
  · have b1 : decide ((12 : Int) < (sz.length : Int)) = false := decide_eq_false (by omega)
    have b2 : decide ((40 : Int) < (l.length : Int)) = false := decide_eq_false (by omega)
    clear hbig
    go_enter Try.func4, Try.ntmps4
    go_wp2_with fail
    refine (new_is (n := 500) (by omega) (by omega)).mono ?_; rintro e w1 ⟨p, g, bm, rfl, h1, hx1, hp, hg, hm⟩
    have HX := Lib.hid hx1; have H1 := Lib.hid h1
    have hsz1 := hx1.size
    clear h1 hx1
    go_wp2_with fail
    go_loopw [7] (fun i wr => ∃ (j : Nat) (ws : List Int) (R : List (Nat × Nat)), j ≤ sz.length ∧ i = .int .i64 j ∧ ArenaAt wr p g bm 500 ws R ∧ Turn [g, bm] w1 wr) (fun i _ => sz.length - (intOf i).toNat)
    case atStart => exact ⟨0, _, [], by omega, rfl, H1.out, Turn.refl _ _⟩
    case round =>
      obtain ⟨j, ws, R, hj, rfl, hA, hT⟩ := hrel
      have HA := Lib.hid hA; have HT := Lib.hid hT
      have hszT := hT.size
      clear hA hT
      by_cases hlt : j < sz.length
      · obtain ⟨hx255, ad, rfl, hcj, hbw⟩ := HC.out j _ (List.getElem?_eq_getElem hlt)
        have hcr := HT.out.cell (a := ad.add j) (by rw [add_block]; simp; omega) (HX.out.cell hcj)
        generalize sz[j] = x at *
        have i1 : (j : Int) < (sz.length : Int) := by omega
        clear hcj
        go_wp2_with fail
        rw [show (1 : Int) + (x : Int) % 60 = ((1 + x % 60 : Nat) : Int) by omega]
        have hk1 : 1 ≤ 1 + x % 60 := by omega
        have hk2 : 1 + x % 60 ≤ 60 := by omega
        generalize 1 + x % 60 = kk at *
        refine (cut_said (k := kk) HA.out hk1 (by omega)).mono ?_; rintro e w2 ⟨b, a, rfl, hcs⟩
        have HCS := Lib.hid hcs
        clear hcs hcr
        go_upto_if 73 with fail
        as_aux_lemma =>
          go_cut [] from 54 to 128 (fun wx => ∃ (ws' : List Int) (R' : List (Nat × Nat)), ArenaAt wx p g bm 500 ws' R' ∧ R' ≠ [] ∧ Turn [g, bm] w1 wx)
          case first =>
            rcases HCS.out with ⟨rfl, hfit, rfl, hA2, hT2⟩ | ⟨rfl, hfit, hA2, hT2⟩
            · have HA2 := Lib.hid hA2; have HT2 := Lib.hid (HT.out.trans hT2)
              have HW2 := Lib.hid (wordsOf_cut (ws := ws) kk (scan kk 0 R) (by rw [HA.out.len]; exact hfit))
              have hsc : scan kk 0 R + kk ≤ 500 := hfit
              clear hA2 hT2 HCS hfit
              generalize scan kk 0 R = s0 at *
              go_wp2_with fail
              refine (words_yes (r := (s0, kk)) HA2.out (mem_ins.2 (.inl rfl))).mono ?_; rintro e w3 ⟨v3, rfl, r3, x3⟩
              have r3' : w3.ownsRow w2.heap.size 29 1 v3 (List.replicate kk (0 : Int)).length ((List.replicate kk (0 : Int)).map fun x => Value.int .u64 x) := by
                have e0 := HW2.out
                unfold wordsOf at e0
                rw [e0] at r3; rw [List.length_replicate]; exact r3
              obtain ⟨bl, cl, rfl, hb1, hb2, hb3, hb4⟩ := word_row r3' (by rw [List.length_replicate]; omega)
              have HR3 := Lib.hid r3'
              have HA3 := Lib.hid (HA2.out.ext x3); have HT3 := Lib.hid (HT2.out.trans (Turn.of_ext (bs := [g, bm]) x3))
              have hlt2 := HA2.out.lt
              clear r3 r3' x3
              rw [List.length_replicate] at hb3 ⊢
              have hneq : ((kk : Int) != (kk : Int)) = false := by simp
              go_wp2_with fail
              go_loopw [13] (fun i wx => ∃ (jj : Nat) (ws' : List Int), jj ≤ kk ∧ i = .int .i64 jj ∧ ArenaAt wx p g bm 500 ws' (ins (s0, kk) R) ∧ Turn [g, bm] w3 wx) (fun i _ => kk - (intOf i).toNat)
              case atStart => exact ⟨0, _, by omega, rfl, HA3.out, Turn.refl _ _⟩
              case round =>
                obtain ⟨jj, ws', hjj, rfl, hA4, hT4⟩ := hrel
                have hrow := row_turn HR3.out hT4 (by simp; omega)
                have hc := World.ownsRow.cellAt (by rw [List.length_replicate] at hrow; exact hrow) jj
                have HA4 := Lib.hid hA4; have HT4 := Lib.hid hT4
                clear hrow hA4 hT4
                by_cases hl2 : jj < kk
                · have hc0 := hc (by omega)
                  rw [List.getElem?_map, List.getElem?_replicate, if_pos hl2] at hc0
                  simp only [Option.map_some] at hc0
                  have i2 : (jj : Int) < (kk : Int) := by omega
                  clear hc
                  go_wp2_with fail
                  refine (set_yes (r := (s0, kk)) (a := jj) HA4.out (mem_ins.2 (.inl rfl)) hl2).mono ?_; rintro e w5 ⟨rfl, hA5, hT5⟩
                  have HA5 := Lib.hid hA5; have HT5 := Lib.hid (HT4.out.trans (hT5.mono (cs := [g, bm]) (by simp)))
                  clear hA5 hT5
                  go_wp2_with fail
                  exact ⟨⟨jj + 1, _, by omega, by go_num, HA5.out, HT5.out⟩, by simp [intOf]; omega⟩
                · obtain rfl : jj = kk := by omega
                  clear hc
                  go_wp2_with fail
                  go_meet
                  exact ⟨_, _, HA4.out, ins_ne_nil _ _, HT3.out.trans HT4.out⟩
            · have hne : R ≠ [] := by
                rintro rfl
                exact hfit (by simp [scan]; omega)
              have HT2 := Lib.hid (HT.out.trans hT2); have HA2 := Lib.hid hA2
              clear hT2 hA2 HCS hfit
              go_wp2_with fail
              go_meet
              exact ⟨_, _, HA2.out, hne, HT2.out⟩
          case rest =>
            obtain ⟨ws', R', hA3, hne, hT3⟩ := hcut
            have HA3 := Lib.hid hA3; have HT3 := Lib.hid hT3
            have hrl : 0 < R'.length := List.length_pos_iff.2 hne
            have hrm := good_len hA3.good
            clear hA3 hT3 hne HA HT HCS
            by_cases h4 : j % 4 = 3
            · have t4 : ((j : Int) % 4 == 3) = true := by simp; omega
              clear h4
              go_wp2_with fail
              refine (regions_is HA3.out).mono ?_; rintro e w4 ⟨vr, rfl, hr, hx4⟩
              obtain ⟨q4, c4, rfl, hq1, hq2, hcells⟩ := hr.sl
              have HA4 := Lib.hid (HA3.out.ext hx4); have HT4 := Lib.hid (HT3.out.trans (Turn.of_ext (bs := [g, bm]) hx4))
              unfold maxLen at hq2
              have hmm : j % R'.length < R'.length := Nat.mod_lt _ hrl
              have hmod : (j : Int) % (R'.length : Int) = ((j % R'.length : Nat) : Int) := by omega
              generalize j % R'.length = m at *
              obtain ⟨b4, off4, rfl, p0, p1⟩ := hcells m _ (List.getElem?_eq_getElem hmm)
              have hFR := Lib.hid (free_yes (r := R'[m]) HA4.out (List.getElem_mem hmm))
              have i2 : (m : Int) < (R'.length : Int) := by omega
              have z1 : ((R'.length : Int) == 0) = false := beq_false_of_ne (by omega)
              clear hr hx4 hcells p1
              generalize R'[m] = y at *
              go_wp2_with fail
              refine hFR.out.mono ?_; rintro e w5 ⟨rfl, hA5, hT5⟩
              have HA5 := Lib.hid hA5; have HT5 := Lib.hid (HT4.out.trans (hT5.mono (cs := [g, bm]) (by simp)))
              clear hA5 hT5
              go_wp2_with fail
              exact ⟨⟨j + 1, _, _, by omega, by go_num, HA5.out, HT5.out⟩, by simp [intOf]; omega⟩
            · have t4 : ((j : Int) % 4 == 3) = false := beq_false_of_ne (by omega)
              clear h4
              go_wp2_with fail
              exact ⟨⟨j + 1, _, _, by omega, by go_num, HA3.out, HT3.out⟩, by simp [intOf]; omega⟩
      · obtain rfl : j = sz.length := by omega
        have hx2 : Ext w wr := Below.trans HX.out (HT.out.below hsz1 (by intro b hb; simp at hb; rcases hb with h | h <;> omega))
        have HX2 := Lib.hid hx2
        clear HT hszT HX H1 hlt hx2
        go_wp2_with fail
        refine (regions_is HA.out).mono ?_; rintro e w2 ⟨vr, rfl, hr, hx2⟩
        have HPR := Lib.hid hr
        obtain ⟨q4, c4, rfl, hq1, hq2, hcells⟩ := hr.sl
        have HA2 := Lib.hid (HA.out.ext hx2); have HX2 := Lib.hid (HX2.out.trans hx2)
        have hrm := good_len HA.out.good
        have hltA := HA.out.lt
        unfold maxLen at hq2
        have HCC := Lib.hid hcells
        have HGD := Lib.hid HA.out.good
        clear hr hx2 hcells
        go_wp2_with fail
        go_loopw [16] (fun i wx => ∃ ii : Nat, ii ≤ R.length ∧ i = .int .i64 ii ∧ Ext w2 wx) (fun i _ => R.length - (intOf i).toNat)
        case atStart => exact ⟨0, by omega, rfl, Ext.refl _⟩
        case round =>
          obtain ⟨ii, hii, rfl, hx⟩ := hrel
          have HXR := Lib.hid hx
          clear hx
          by_cases hil : ii < R.length
          · obtain ⟨b4, off4, rfl, p0, p1⟩ := HCC.out ii _ (List.getElem?_eq_getElem hil)
            have P0 := HXR.out.cell p0; have P1 := HXR.out.cell p1
            have hbb := HGD.out.2 R[ii] (List.getElem_mem hil)
            have i1 : (ii : Int) < (R.length : Int) := by omega
            have t1 : decide ((R[ii].1 : Int) < 0) = false := decide_eq_false (by omega)
            have t2 : decide ((R[ii].2 : Int) < 1) = false := decide_eq_false (by omega)
            have t3 : decide ((500 : Int) < (R[ii].1 : Int) + (R[ii].2 : Int)) = false := decide_eq_false (by omega)
            have s1 : IntKind.i64.wrap ((R[ii].1 : Int) + (R[ii].2 : Int)) = (R[ii].1 : Int) + (R[ii].2 : Int) := IntWalk.i64_in _ (by omega)
            by_cases h0 : ii = 0
            · as_aux_lemma =>
                have t4 : decide (0 < ii) = false := decide_eq_false (by omega)
                clear p0 p1 h0
                generalize R[ii] = y at *
                go_wp2_with fail
                go_big_quiet (fail)
                go_wp2
                exact ⟨⟨ii + 1, by omega, by go_num, HXR.out.trans (Ext.drewN _ _)⟩, by simp [intOf]; omega⟩
            · as_aux_lemma =>
                obtain ⟨b5, off5, hq5, p2, p3⟩ := HCC.out (ii - 1) _ (List.getElem?_eq_getElem (by omega))
                simp only [Option.some.injEq, Addr.mk.injEq, and_true] at hq5
                obtain ⟨rfl, rfl⟩ := hq5
                have P2 := HXR.out.cell p2; have P3 := HXR.out.cell p3
                have hgn := good_ne HGD.out (i := ii - 1) (j := ii) (by omega) hil
                have hbb2 := HGD.out.2 R[ii - 1] (List.getElem_mem (by omega))
                have t4 : decide (0 < ii) = true := decide_eq_true (by omega)
                have t4' : 0 < ii := by omega
                have t5 : decide ((R[ii].1 : Int) < (R[ii - 1].1 : Int) + (R[ii - 1].2 : Int)) = false := decide_eq_false (by omega)
                have s2 : IntKind.i64.wrap ((R[ii - 1].1 : Int) + (R[ii - 1].2 : Int)) = (R[ii - 1].1 : Int) + (R[ii - 1].2 : Int) := IntWalk.i64_in _ (by omega)
                have s3 : IntKind.i64.wrap ((ii : Int) - 1) = (ii : Int) - 1 := IntWalk.i64_in _ (by omega)
                have s4 : ((ii : Int) - 1).toNat = ii - 1 := by omega
                have s5 : (0 : Int) ≤ (ii : Int) - 1 := by omega
                have s6 : (ii : Int) - 1 < (R.length : Int) := by omega
                clear p0 p1 p2 p3
                generalize R[ii] = y at *
                generalize R[ii - 1] = z at *
                go_wp2_with fail
                go_big_quiet (fail)
                go_wp2
                exact ⟨⟨ii + 1, by omega, by go_num, HXR.out.trans (Ext.drewN _ _)⟩, by simp [intOf]; omega⟩
          · obtain rfl : ii = R.length := by omega
            have HA3 := Lib.hid (HA2.out.ext HXR.out); have HX3 := Lib.hid (HX2.out.trans HXR.out)
            have HR3 := Lib.hid (HPR.out.turn (Turn.of_ext (bs := []) HXR.out) (by simp))
            by_cases hnil : R.length = 0
            · have z1 : ((R.length : Int) == 0) = true := by rw [hnil]; rfl
              clear hnil hil hii
              go_wp2_with fail
              refine (arena_wakes _).mono ?_; rintro e w4 ⟨rfl, hx4⟩
              go_wp2
              go_ret
              exact ⟨rfl, HX3.out.trans hx4⟩
            · have z1 : ((R.length : Int) == 0) = false := beq_false_of_ne (by omega)
              have hR1 : 1 ≤ R.length := by omega
              have hszr := HXR.out.size
              generalize wr = wq at *
              go_wp2_with fail
              go_loopw [17] (fun i wx => ∃ (ii : Nat) (ws' : List Int), ii ≤ l.length ∧ i = .int .i64 ii ∧ ArenaAt wx p g bm 500 ws' R ∧ Turn [g, bm] wq wx) (fun i _ => l.length - (intOf i).toNat)
              case atStart => exact ⟨0, ws, by omega, rfl, HA3.out, Turn.refl _ _⟩
              case round =>
                obtain ⟨ii, ws', hii', rfl, hA4, hT4⟩ := hrel
                have hx4 : Ext w wr := Below.trans HX3.out (hT4.below HX3.out.size (by intro b hb; simp at hb; rcases hb with h | h <;> omega))
                have HA4 := Lib.hid hA4; have HT4 := Lib.hid hT4; have HX4 := Lib.hid hx4
                have HR4 := Lib.hid (HR3.out.turn hT4 (by intro b hb; simp at hb; rcases hb with h | h <;> (have := HX3.out.size; omega)))
                have hsz4 := hT4.size
                clear hA4 hT4 hx4
                by_cases hil2 : ii < l.length
                · obtain ⟨wn, wa, b6, off6, rfl, s0, s1, s2, s3⟩ := HL.out ii _ (List.getElem?_eq_getElem hil2)
                  have hb6 : b6 < w.heap.size := by simpa using World.block_lt_of_cell? w _ s0
                  have S1 := HX4.out.cell s1; have S2 := HX4.out.cell s2; have S3 := HX4.out.cell s3
                  have i1 : (ii : Int) < (l.length : Int) := by omega
                  clear s0 s1 s2 s3
                  generalize l[ii] = x at *
                  go_wp2_with fail
                  refine (mod_is wn hR1 (by omega)).mono ?_; rintro e w' ⟨⟨k, hk, rfl⟩, rfl⟩
                  generalize wr = wp at *
                  go_wp2_with fail
                  go_loopw [19, 20] (fun was j wx => ∃ (jj : Nat) (Vs : List Value), jj ≤ R.length ∧ j = .int .i64 jj ∧ Vs.length = jj ∧ wx.ownsRow wp.heap.size 42 1 was Vs.length Vs ∧ Ext wp wx ∧ ∀ (i : Nat) (V : Value) (hi : i < R.length), Vs[i]? = some V → wx.ownsRow wp.heap.size 29 1 V (wordsOf ws' R[i]).length ((wordsOf ws' R[i]).map fun x => Value.int .u64 x)) (fun _ j _ => R.length - (intOf j).toNat)
                  case atStart => exact ⟨0, [], by omega, rfl, rfl, World.ownsRow_nil _ _ _ _, Ext.refl _, fun i V hi h => by simp at h⟩
                  case round =>
                    obtain ⟨jj, Vs, hjj, rfl, hvl, hwas, hx5, hall⟩ := hrel
                    have HWAS := Lib.hid hwas; have HX5 := Lib.hid hx5; have HALL := Lib.hid hall; have HVL := Lib.hid hvl
                    have hsz5 := hx5.size
                    have HA5 := Lib.hid (HA4.out.ext hx5)
                    have HR5 := Lib.hid (HR4.out.turn (Turn.of_ext (bs := []) hx5) (by simp))
                    clear hwas hx5 hall hvl
                    obtain ⟨q7, c7, hq7, _, _, hcells7⟩ := HR5.out.sl
                    obtain ⟨rfl, _, rfl⟩ := Value.slice.inj hq7
                    clear hq7
                    by_cases hjl : jj < R.length
                    · as_aux_lemma =>
                        obtain ⟨b7, off7, rfl, p0, p1⟩ := hcells7 jj _ (List.getElem?_eq_getElem hjl)
                        have i2 : (jj : Int) < (R.length : Int) := by omega
                        have HWY := Lib.hid (words_yes (r := R[jj]) HA5.out (List.getElem_mem hjl))
                        have HWL := Lib.hid (wordsOf_length (ws := ws') HGD.out HA5.out.len (List.getElem_mem hjl))
                        have hpos := (HGD.out.2 R[jj] (List.getElem_mem hjl)).1
                        have HI := Lib.hid (show R[jj] = R[jj] from rfl)
                        generalize hy : R[jj] = y at HI HWY HWL hpos p0
                        have HY := Lib.hid hy
                        clear hcells7 p1 hy HI
                        go_wp2_with fail
                        refine HWY.out.mono ?_; rintro e w6 ⟨v6, rfl, r6, x6⟩
                        have r6' : w6.ownsRow wr.heap.size 29 1 v6 (wordsOf ws' y).length ((wordsOf ws' y).map fun x => Value.int .u64 x) := by rw [HWL.out]; exact r6
                        have r6b : w6.ownsRow wp.heap.size 29 1 v6 (wordsOf ws' y).length ((wordsOf ws' y).map fun x => Value.int .u64 x) := row_mono r6' hsz5
                        obtain ⟨bl, cl, rfl, _, _, _, _⟩ := word_row r6b (by rw [HWL.out]; exact hpos)
                        have HR6 := Lib.hid r6b
                        have HWAS6 := Lib.hid (row_turn HWAS.out (Turn.of_ext (bs := []) x6) (by simp))
                        have HX6 := Lib.hid (HX5.out.trans x6)
                        have hsz6 := HX6.out.size
                        have HALL6 := Lib.hid (fun (i : Nat) (V : Value) (hi : i < R.length) (h : Vs[i]? = some V) => row_turn (HALL.out i V hi h) (Turn.of_ext (bs := []) x6) (by simp))
                        clear r6 r6' r6b x6
                        go_wp2_with (at_builtin; refine wpList_append_sl (w := w6) (by rfl) _ _ (by rfl) wp.heap.size _ Vs (by rfl) HWAS6.out (.slice (some ⟨bl, 0, none⟩) (wordsOf ws' y).length cl) (by rfl) w6.heap.size (by rfl) rfl (by have := HVL.out; omega) hsz6 ?_; intro v' w7 hown' hgrow)
                        refine ⟨⟨jj + 1, Vs ++ [.slice (some ⟨bl, 0, none⟩) (wordsOf ws' y).length cl], by omega, by go_num, by rw [List.length_append, HVL.out]; rfl, by rw [List.length_append]; exact hown', ?_, ?_⟩, by simp [intOf]; omega⟩
                        · exact (HX6.out.trans (Ext.alloc _ _)).grown hgrow (by simp; omega) (fun b hb => (HWAS6.out.lt b hb).1)
                        · intro i V hi hV
                          by_cases hiv : i < Vs.length
                          · rw [List.getElem?_append_left hiv] at hV
                            exact ((HALL6.out i V hi hV).alloc _).kept hgrow (rows_apart (HALL6.out i V hi hV) HWAS6.out (by decide))
                          · have hile : i = Vs.length := by
                              have := (List.getElem?_eq_some_iff.1 hV).1
                              simp at this; omega
                            subst hile
                            rw [List.getElem?_append_right (Nat.le_refl _), Nat.sub_self] at hV
                            simp only [List.getElem?_cons_zero, Option.some.injEq] at hV
                            subst hV
                            have hey : R[Vs.length] = y := by rw [← HY.out]; simp only [HVL.out]
                            rw [hey]
                            exact (HR6.out.alloc _).kept hgrow (rows_apart HR6.out HWAS6.out (by decide))
                    · obtain rfl : jj = R.length := by omega
                      obtain ⟨b7, off7, rfl, p0, p1⟩ := hcells7 k _ (List.getElem?_eq_getElem hk)
                      obtain ⟨bw, cw, rfl, hw1, hw2⟩ := HWAS.out.form (by have := HVL.out; omega)
                      have S2' := HX5.out.cell S2; have S3' := HX5.out.cell S3
                      have i2 : (k : Int) < (R.length : Int) := by omega
                      have i3 : (0 : Int) ≤ (k : Int) := by omega
                      have i4 : (0 : Int) ≤ (ii : Int) := by omega
                      have S1' := S1
                      clear p1 S1 S2 S3 S1'
                      have hlt5 := HA5.out.lt
                      have hbp := World.block_lt_of_cell? wr _ p0
                      have hbs := World.block_lt_of_cell? wr _ S2'
                      have hgb : g < b7 := by
                        obtain ⟨b9, c9, he9, hb9, _⟩ := pair_row HR5.out (by omega)
                        simp only [Value.slice.injEq, Option.some.injEq, Addr.mk.injEq, and_true] at he9
                        obtain ⟨⟨rfl, _⟩, _⟩ := he9
                        omega
                      have hgs : b6 ≠ g := by omega
                      go_wp2_with fail
                      go_region_held3 (fun w' => w'.cell? ⟨b7, off7 + k * 2, none⟩ = some (.int .i64 R[k].1) ∧ w'.cell? ⟨b6, off6 + ii * 4 + 2, none⟩ = some (.int .i64 x.at_) ∧ w'.cell? ⟨b6, off6 + ii * 4 + 3, none⟩ = some (.int .u64 x.wd))
                        (first | go_keep | exact ⟨hT8.cell (by simp; omega) (by simpa using p0), hT8.cell (by simp; omega) (by simpa using S2'), hT8.cell (by simp; omega) (by simpa using S3')⟩)
                        (first | (go_at_call 16; refine (set_said (k := k) (HA5.out.ext (Ext.drew _)) hk).mono ?_; rintro e w8 ⟨bb, rfl, hT8, ws8, hA8, hW8⟩))
                      have hltq := HA4.out.lt
                      have hT8' : Turn [g] wr w8 := (Turn.of_ext (bs := [g]) (Ext.drew _)).trans hT8
                      have HA8 := Lib.hid hA8; have HW8 := Lib.hid hW8
                      have HWAS8 := Lib.hid (row_turn HWAS.out hT8' (by simp; omega))
                      have HALL8 := Lib.hid (fun (i : Nat) (V : Value) (hi : i < R.length) (h : Vs[i]? = some V) => row_turn (HALL.out i V hi h) hT8' (by simp; omega))
                      have HR8 := Lib.hid (HR5.out.turn hT8' (by simp; omega))
                      have HT8 := Lib.hid ((HT4.out.trans (Turn.of_ext (bs := [g, bm]) HX5.out)).trans (hT8'.mono (cs := [g, bm]) (by simp)))
                      clear hA8 hW8 hT8 hT8'
                      generalize wr = wo at *
                      go_wp2_with fail
                      go_loopw [23] (fun i wx => ∃ jj : Nat, jj ≤ R.length ∧ i = .int .i64 jj ∧ Ext w8 wx) (fun i _ => R.length - (intOf i).toNat)
                      case atStart => exact ⟨0, by omega, rfl, Ext.refl _⟩
                      case round =>
                        obtain ⟨jj, hjj2, rfl, hx9⟩ := hrel
                        have HA9 := Lib.hid (HA8.out.ext hx9)
                        have hr9 := (HR8.out.turn (Turn.of_ext (bs := []) hx9) (by simp)).sl
                        have hw9 := row_turn HWAS8.out (Turn.of_ext (bs := []) hx9) (by simp)
                        have HX9 := Lib.hid hx9
                        clear hx9
                        by_cases hjl : jj < R.length
                        · obtain ⟨q9, c9, hq9, _, _, hcells9⟩ := hr9
                          obtain ⟨rfl, _, rfl⟩ := Value.slice.inj hq9
                          obtain ⟨b9, off9, he9, r0, r1⟩ := hcells9 jj _ (List.getElem?_eq_getElem hjl)
                          simp only [Option.some.injEq, Addr.mk.injEq, and_true] at he9
                          obtain ⟨rfl, rfl⟩ := he9
                          have i6 : (jj : Int) < (R.length : Int) := by omega
                          have HWY := Lib.hid (words_yes (r := R[jj]) HA9.out (List.getElem_mem hjl))
                          have HWL := Lib.hid (wordsOf_length (ws := ws8) HGD.out HA9.out.len (List.getElem_mem hjl))
                          have hpos := (HGD.out.2 R[jj] (List.getElem_mem hjl)).1
                          have hvj : jj < Vs.length := by have := HVL.out; omega
                          have hcw := World.ownsRow.cellAt hw9 jj (by omega)
                          rw [List.getElem?_eq_getElem hvj] at hcw
                          have HVJ := Lib.hid (fun (hne : jj ≠ k) => (HW8.out jj hjl hne))
                          have HVR := Lib.hid (row_turn (HALL8.out jj Vs[jj] hjl (List.getElem?_eq_getElem hvj)) (Turn.of_ext (bs := []) HX9.out) (by simp))
                          have HVW := Lib.hid (wordsOf_length (ws := ws') HGD.out HA4.out.len (List.getElem_mem hjl))
                          have HI := Lib.hid (show R[jj] = R[jj] from rfl)
                          generalize R[jj] = y at HI HWY HWL hpos r0 HVR HVW HVJ
                          obtain ⟨bv, cv, hve, _, _, _, _⟩ := word_row HVR.out (by rw [HVW.out]; exact hpos)
                          generalize Vs[jj] = V at hcw HVR hve
                          subst hve
                          clear r1 HI hcells9 hw9 hq9
                          go_wp2_with fail
                          refine HWY.out.mono ?_; rintro e w10 ⟨v10, rfl, r10, x10⟩
                          have r10b : w10.ownsRow wr.heap.size 29 1 v10 (wordsOf ws8 y).length ((wordsOf ws8 y).map fun x => Value.int .u64 x) := by rw [HWL.out]; exact r10
                          obtain ⟨bl, cl, rfl, _, _, _, _⟩ := word_row r10b (by rw [HWL.out]; exact hpos)
                          have HX10 := Lib.hid (HX9.out.trans x10)
                          by_cases hjk : jj = k
                          · have t1 : ((jj : Int) != (k : Int)) = false := by simp [hjk]
                            have t2 : (jj != k) = false := by simp [hjk]
                            clear hjk r10 r10b x10
                            go_wp2_with fail
                            exact ⟨⟨jj + 1, by omega, by go_num, HX10.out⟩, by simp [intOf]; omega⟩
                          · have t1 : ((jj : Int) != (k : Int)) = true := by simp; omega
                            have t2 : (jj != k) = true := by simpa using hjk
                            have HKW := Lib.hid (keep_words (WordSl.of_row r10b) (WordSl.of_row (row_turn HVR.out (Turn.of_ext (bs := []) x10) (by simp))))
                            have hdd : decide (wordsOf ws8 y = wordsOf ws' y) = true := decide_eq_true (HVJ.out hjk)
                            rw [hdd] at HKW
                            have hcw10 := x10.cell hcw
                            clear hjk r10 r10b x10 hdd hcw
                            go_wp2_with fail
                            refine HKW.out.mono ?_; rintro e w11 ⟨rfl, x11⟩
                            have HX11 := Lib.hid (HX10.out.trans x11)
                            clear x11
                            go_wp2_with fail
                            exact ⟨⟨jj + 1, by omega, by go_num, HX11.out⟩, by simp [intOf]; omega⟩
                        · obtain rfl : jj = R.length := by omega
                          clear hr9 hw9
                          go_wp2_with fail
                          exact ⟨⟨ii + 1, ws8, by omega, by go_num, HA9.out, HT8.out.trans (Turn.of_ext HX9.out)⟩, by simp [intOf]; omega⟩
                · obtain rfl : ii = l.length := by omega
                  go_wp2_with fail
                  refine (arena_wakes _).mono ?_; rintro e w4 ⟨rfl, hx4⟩
                  go_wp2
                  go_ret
                  exact ⟨rfl, HX4.out.trans hx4⟩
end Go.Proofs.Ytibpnhaamdelmaa
