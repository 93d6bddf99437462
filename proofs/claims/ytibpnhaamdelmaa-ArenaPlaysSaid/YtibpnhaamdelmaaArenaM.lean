/- ArenaLeast: the walk. -/
import Derived.Test.YtibpnhaamdelmaaArenaL
namespace Go.Proofs.Ytibpnhaamdelmaa
open Go.RowKit Go.Maps Arena
set_option maxHeartbeats 4000000
set_option maxRecDepth 100000
/-- a slice that reads as bytes, wherever it lies -/
def ByteSl (w : World) (v : Value) (l : List Nat) : Prop := ∃ q c, v = .slice q l.length c ∧ l.length ≤ c ∧ c ≤ maxLen ∧ ∀ (i x : Nat), l[i]? = some x → x ≤ 255 ∧ ∃ a : Addr, q = some a ∧ w.cell? (a.add i) = some (.int .u8 x) ∧ a.block < w.heap.size
theorem add_block (a : Addr) (i : Nat) : (a.add i).block = a.block := by
  unfold Addr.add; split <;> rfl
theorem least_walk {v : Value} {l : List Nat} {kn : Nat} {w : World} (hv : ByteSl w v l) (hk : kn ≤ 255) : Calls Try.prog 5 #[v, .int .u8 kn] w (TrueExt w) := by
  obtain ⟨q, c, rfl, hc1, hc2, hcell⟩ := hv
  have HC := Lib.hid hcell
  unfold maxLen at hc2
  clear hcell
  by_cases hbig : 12 < l.length
  · have b1 : decide ((12 : Int) < (l.length : Int)) = true := decide_eq_true (by omega)
    go_enter Try.func5, Try.ntmps5
    go_wp2_with fail
    refine (new_is (n := 300) (by omega) (by omega)).mono ?_; rintro e w1 ⟨p, g, bm, rfl, h1, hx1, hp, hg, hm⟩
    have HX := Lib.hid hx1
    clear h1 hx1
    go_wp2_with fail
    refine (arena_wakes w1).mono ?_; rintro e w2 ⟨rfl, hx2⟩
    go_wp2
    go_ret
    exact ⟨rfl, HX.out.trans hx2⟩
  · have b1 : decide ((12 : Int) < (l.length : Int)) = false := decide_eq_false (by omega)
    go_enter Try.func5, Try.ntmps5
    go_wp2_with fail
    refine (new_is (n := 300) (by omega) (by omega)).mono ?_; rintro e w1 ⟨p, g, bm, rfl, h1, hx1, hp, hg, hm⟩
    have HX := Lib.hid hx1; have H1 := Lib.hid h1
    clear h1 hx1
    go_wp2_with fail
    go_loopw [7] (fun i wr => ∃ (j : Nat) (ws : List Int) (R : List (Nat × Nat)), j ≤ l.length ∧ i = .int .i64 j ∧ ArenaAt wr p g bm 300 ws R ∧ Turn [g, bm] w1 wr) (fun i _ => l.length - (intOf i).toNat)
    case atStart => exact ⟨0, _, [], by omega, rfl, H1.out, Turn.refl _ _⟩
    case round =>
      obtain ⟨j, ws, R, hj, rfl, hA, hT⟩ := hrel
      have HA := Lib.hid hA; have HT := Lib.hid hT
      have hszT := hT.size
      clear hA hT
      by_cases hlt : j < l.length
      · obtain ⟨hx255, ad, rfl, hcj, hbw⟩ := HC.out j _ (List.getElem?_eq_getElem hlt)
        have hsz1 := HX.out.size
        have hcr := HT.out.cell (a := ad.add j) (by rw [add_block]; simp; omega) (HX.out.cell hcj)
        generalize l[j] = x at *
        have i1 : (j : Int) < (l.length : Int) := by omega
        clear hcj
        go_wp2_with fail
        rw [show (1 : Int) + (x : Int) % 50 = ((1 + x % 50 : Nat) : Int) by omega]
        refine (cut_is (k := 1 + x % 50) HA.out (by omega) (by omega)).mono ?_
        generalize hkk : 1 + x % 50 = kk at *
        generalize hs0 : scan kk 0 R = s0 at *
        rintro e w2 (⟨hf, rfl, hA2, hT2⟩ | ⟨hf, rfl, hx2⟩)
        · have HA2 := Lib.hid hA2; have HT2 := Lib.hid (HT.out.trans hT2)
          have hcr2 := hT2.cell (a := ad.add j) (by rw [add_block]; simp; omega) hcr
          clear hA2 hT2 hcr hs0 hkk
          by_cases h3 : x % 3 = 0
          · have b3 : ((x : Int) % 3 == 0) = true := by simp; omega
            clear h3
            go_wp2_with fail
            refine (free_yes (r := (s0, kk)) HA2.out (mem_ins.2 (.inl rfl))).mono ?_; rintro e w3 ⟨rfl, hA3, hT3⟩
            have HT3 := Lib.hid (HT2.out.trans (hT3.mono (cs := [g, bm]) (by simp)))
            clear hT3
            go_wp2_with fail
            exact ⟨⟨j + 1, _, _, by omega, by go_num, hA3, HT3.out⟩, by simp [intOf]; omega⟩
          · have b3 : ((x : Int) % 3 == 0) = false := beq_false_of_ne (by omega)
            clear h3
            go_wp2_with fail
            exact ⟨⟨j + 1, _, _, by omega, by go_num, HA2.out, HT2.out⟩, by simp [intOf]; omega⟩
        · have HT2 := Lib.hid (HT.out.trans (Turn.of_ext (bs := [g, bm]) hx2))
          have HA2 := Lib.hid (HA.out.ext hx2)
          clear hx2 hcr hs0 hkk hf
          go_wp2_with fail
          exact ⟨⟨j + 1, _, _, by omega, by go_num, HA2.out, HT2.out⟩, by simp [intOf]; omega⟩
      · obtain rfl : j = l.length := by omega
        go_wp2_with fail
        have hkk : (1 : Int) + (kn : Int) % 50 = ((1 + kn % 50 : Nat) : Int) := by omega
        rw [hkk]
        have hk1 : 1 ≤ 1 + kn % 50 := by omega
        have hk2 : 1 + kn % 50 ≤ 50 := by omega
        generalize 1 + kn % 50 = kk at *
        clear hkk
        refine (regions_is HA.out).mono ?_; rintro e w2 ⟨vr, rfl, hr, hx2⟩
        obtain ⟨q2, c2, rfl, hd1, hd2, hcells⟩ := hr.sl
        have HA2 := Lib.hid (HA.out.ext hx2); have HT2 := Lib.hid (HT.out.trans (Turn.of_ext (bs := [g, bm]) hx2))
        have HCC := Lib.hid hcells
        have hrl := good_len HA.out.good
        unfold maxLen at hd2
        clear hr hx2 hcells
        go_wp2_with fail
        go_loopw [12, 13, 14] (fun at_ want i wx => ∃ (ii a : Nat) (wt : Int), i = .int .i64 ii ∧ at_ = .int .i64 a ∧ want = .int .i64 wt ∧ Ext w2 wx ∧ ((ii ≤ R.length ∧ Arena.Found 300 kk R ii a wt) ∨ (ii = R.length + 1 ∧ a ≤ 300 ∧ ((wt = -1 ∧ ¬ scan kk 0 R + kk ≤ 300) ∨ (wt = (scan kk 0 R : Int) ∧ scan kk 0 R + kk ≤ 300))))) (fun _ _ i _ => R.length + 1 - (intOf i).toNat)
        case atStart => exact ⟨0, 0, -1, rfl, rfl, rfl, Ext.refl _, .inl ⟨Nat.zero_le _, found_start _ _ _⟩⟩
        case round =>
          obtain ⟨ii, a, wt, rfl, rfl, rfl, hx, hrel⟩ := hrel
          rcases hrel with ⟨hii, hfd⟩ | ⟨rfl, ha, hdone⟩
          · by_cases hil : ii < R.length
            · obtain ⟨b, off, rfl, p0, p1⟩ := HCC.out ii _ (List.getElem?_eq_getElem hil)
              have P0 := hx.cell p0; have P1 := hx.cell p1
              have hbb := HA2.out.good.2 R[ii] (List.getElem_mem hil)
              have hal := hfd.1
              have i1 : (ii : Int) < (R.length : Int) := by omega
              rcases hfd.2 with ⟨rfl, _⟩ | ⟨hwt, _⟩
              · by_cases hroom : a + kk ≤ R[ii].1
                · have hnx := found_take HA2.out.good hfd hil hroom
                  have HN := Lib.hid hnx
                  clear hnx hfd p0 p1
                  generalize R[ii] = x at *
                  obtain ⟨xb, xl⟩ := x
                  dsimp only at P0 P1 hbb hroom HN
                  have g1 : (kk : Int) ≤ (xb : Int) - (a : Int) := by omega
                  go_wp2_with fail
                  go_big_quiet (fail)
                  go_wp2
                  exact ⟨⟨ii + 1, xb + xl, _, by go_num, by go_num, rfl, hx.trans (Ext.drewN _ _), .inl ⟨by omega, HN.out⟩⟩, by simp [intOf]; omega⟩
                · have hnx := found_pass HA2.out.good hfd hil (fun _ => hroom)
                  have HN := Lib.hid hnx
                  clear hnx hfd p0 p1
                  generalize R[ii] = x at *
                  obtain ⟨xb, xl⟩ := x
                  dsimp only at P0 P1 hbb hroom HN
                  have g1 : ¬ (kk : Int) ≤ (xb : Int) - (a : Int) := by omega
                  go_wp2_with fail
                  go_big_quiet (fail)
                  go_wp2
                  exact ⟨⟨ii + 1, xb + xl, _, by go_num, by go_num, rfl, hx.trans (Ext.drewN _ _), .inl ⟨by omega, HN.out⟩⟩, by simp [intOf]; omega⟩
              · have hnx := found_pass HA2.out.good hfd hil (fun h => by omega)
                have HN := Lib.hid hnx
                have hw0 : ¬ wt < 0 := by omega
                clear hnx hfd p0 p1 hwt
                generalize R[ii] = x at *
                obtain ⟨xb, xl⟩ := x
                dsimp only at P0 P1 hbb HN
                go_wp2_with fail
                go_big_quiet (fail)
                go_wp2
                exact ⟨⟨ii + 1, xb + xl, _, by go_num, by go_num, rfl, hx.trans (Ext.drewN _ _), .inl ⟨by omega, HN.out⟩⟩, by simp [intOf]; omega⟩
            · obtain rfl : ii = R.length := by omega
              have hal := hfd.1
              rcases found_last hfd with ⟨rfl, hsa⟩ | ⟨hwt, hfit⟩
              · by_cases hroom : a + kk ≤ 300
                · have HN := Lib.hid (show (a : Int) = (scan kk 0 R : Int) ∧ scan kk 0 R + kk ≤ 300 by rw [hsa]; exact ⟨rfl, hroom⟩)
                  have g1 : (kk : Int) ≤ 300 - (a : Int) := by omega
                  clear hfd hsa hroom
                  go_wp2_with fail
                  exact ⟨⟨R.length + 1, a, _, by go_num, rfl, rfl, hx, .inr ⟨rfl, hal, .inr HN.out⟩⟩, by simp [intOf]⟩
                · have HN := Lib.hid (show (-1 : Int) = -1 ∧ ¬ scan kk 0 R + kk ≤ 300 by rw [hsa]; exact ⟨rfl, hroom⟩)
                  have g1 : ¬ (kk : Int) ≤ 300 - (a : Int) := by omega
                  clear hfd hsa hroom
                  go_wp2_with fail
                  exact ⟨⟨R.length + 1, a, _, by go_num, rfl, rfl, hx, .inr ⟨rfl, hal, .inl HN.out⟩⟩, by simp [intOf]⟩
              · have HN := Lib.hid (show wt = (scan kk 0 R : Int) ∧ scan kk 0 R + kk ≤ 300 from ⟨hwt, hfit⟩)
                have hw0 : ¬ wt < 0 := by omega
                clear hfd hwt hfit
                go_wp2_with fail
                exact ⟨⟨R.length + 1, a, _, by go_num, rfl, rfl, hx, .inr ⟨rfl, hal, .inr HN.out⟩⟩, by simp [intOf]⟩
          · have HD := Lib.hid hdone
            clear hdone
            have HA3 := Lib.hid (HA2.out.ext hx); have HT3 := Lib.hid (HT2.out.trans (Turn.of_ext (bs := [g, bm]) hx))
            clear hx
            rcases HD.out with ⟨rfl, hno⟩ | ⟨hwt, hfit⟩
            · have HNO := Lib.hid hno
              clear hno HD
              go_wp2_with fail
              refine (cut_no (k := kk) HA3.out hk1 (by omega) HNO.out).mono ?_; rintro e w3 ⟨rfl, hA4, hT4⟩
              have HA4 := Lib.hid hA4; have HT4 := Lib.hid (HT3.out.trans (hT4.mono (cs := [g, bm]) (by simp)))
              clear hA4 hT4
              go_wp2_with fail
              refine (regions_is HA4.out).mono ?_; rintro e w4 ⟨v4, rfl, hr4, hx4⟩
              obtain ⟨q4, c4, rfl, _, _⟩ := hr4.len
              have HT5 := Lib.hid (HT4.out.trans (Turn.of_ext (bs := [g, bm]) hx4))
              clear hr4 hx4
              go_wp2_with fail
              refine (arena_wakes w4).mono ?_; rintro e w5 ⟨rfl, hx5⟩
              go_wp2
              go_ret
              exact ⟨rfl, Ext.trans (Below.trans HX.out (HT5.out.below HX.out.size (by intro b hb; simp at hb; rcases hb with h | h <;> omega))) hx5⟩
            · generalize hs0 : scan kk 0 R = s0 at *
              subst hwt
              have HF := Lib.hid hfit; have HS0 := Lib.hid hs0
              have HNE := Lib.hid (scan_ne (k := kk) HA3.out.good hk1)
              clear hfit hs0 HD
              go_wp2_with fail
              refine (cut_yes (k := kk) (at_ := s0) HA3.out hk1 (by omega) HS0.out HF.out rfl).mono ?_; rintro e w3 ⟨rfl, hA4, hT4⟩
              have HA4 := Lib.hid hA4; have HT4 := Lib.hid (HT3.out.trans hT4)
              clear hA4 hT4
              go_wp2_with fail
              refine (free_yes (r := (s0, kk)) HA4.out (mem_ins.2 (.inl rfl))).mono ?_; rintro e w4 ⟨rfl, hA5, hT5⟩
              rw [drop_ins (x := (s0, kk)) (by rw [← HS0.out]; exact HNE.out)] at hA5
              have HA5 := Lib.hid hA5; have HT5 := Lib.hid (HT4.out.trans (hT5.mono (cs := [g, bm]) (by simp)))
              clear hA5 hT5
              go_wp2_with fail
              refine (cut_yes (k := kk) (at_ := s0) HA5.out hk1 (by omega) HS0.out HF.out rfl).mono ?_; rintro e w5 ⟨rfl, hA6, hT6⟩
              have HA6 := Lib.hid hA6; have HT6 := Lib.hid (HT5.out.trans hT6)
              clear hA6 hT6
              go_wp2_with fail
              refine (regions_is HA6.out).mono ?_; rintro e w6 ⟨v6, rfl, hr6, hx6⟩
              obtain ⟨q6, c6, rfl, _, _⟩ := hr6.len
              rw [length_ins]
              have HT7 := Lib.hid (HT6.out.trans (Turn.of_ext (bs := [g, bm]) hx6))
              clear hr6 hx6
              go_wp2_with fail
              refine (arena_wakes w6).mono ?_; rintro e w7 ⟨rfl, hx7⟩
              go_wp2
              go_ret
              exact ⟨rfl, Ext.trans (Below.trans HX.out (HT7.out.below HX.out.size (by intro b hb; simp at hb; rcases hb with h | h <;> omega))) hx7⟩
end Go.Proofs.Ytibpnhaamdelmaa
