/- ArenaOwn: the walk. -/
import Derived.Test.YtibpnhaamdelmaaArenaR
namespace Go.Proofs.Ytibpnhaamdelmaa
open Go.RowKit Go.Maps Arena
set_option maxHeartbeats 4000000
set_option maxRecDepth 100000
theorem take_set_succ {α : Type} {l : List α} {j : Nat} {v : α} (h : j < l.length) : (l.set j v).take (j + 1) = l.take j ++ [v] := by
  rw [List.take_succ_eq_append_getElem (by simpa using h), List.take_set_of_le (Nat.le_refl _)]
  simp
theorem Turn.of_row {bs : List Nat} {w w' : World} {g : Nat} (h : w.grownBy w' (some g)) (hg : g ∈ bs) : Turn bs w w' := Turn.of_grown h fun b hb => by obtain rfl := Option.some.inj hb; exact .inl hg
/-- a row of words that the call owns, at a known block -/
theorem word_row {w : World} {base : Nat} {v : Value} {l : List Int} (h : w.ownsRow base 29 1 v l.length (l.map fun x => Value.int .u64 x)) (hl : 0 < l.length) :
    ∃ b c, v = .slice (some ⟨b, 0, none⟩) l.length c ∧ base ≤ b ∧ b < w.heap.size ∧ l.length ≤ c ∧ c ≤ maxLen := by
  rcases h.2 with ⟨h1, h2⟩ | ⟨b, c, cur, h1, hb, hg, h2, h3, h4, h5⟩
  · omega
  · exact ⟨b, c, h1, hb, (Array.getElem?_eq_some_iff.1 hg).1, h2, h3⟩
theorem row_turn {w w' : World} {base size : Nat} {e : TypeId} {bs : List Nat} {v : Value} {n : Nat} {xs : List Value} (h : w.ownsRow base e size v n xs) (t : Turn bs w w') (hb : ∀ b ∈ bs, b < base) : w'.ownsRow base e size v n xs := by
  refine ⟨h.1, ?_⟩
  rcases h.2 with h1 | ⟨g, cap, cur, h1, hb1, hg, h2⟩
  · exact .inl h1
  · exact .inr ⟨g, cap, cur, h1, hb1, by rw [t.block g (Array.getElem?_eq_some_iff.1 hg).1 (fun hm => by have := hb g hm; omega)]; exact hg, h2⟩
theorem pair_row {w : World} {base : Nat} {v : Value} {R : List (Nat × Nat)} (h : PairRow w base v R) (hl : 0 < R.length) :
    ∃ b c, v = .slice (some ⟨b, 0, none⟩) R.length c ∧ base ≤ b ∧ b < w.heap.size ∧ R.length ≤ c ∧ c ≤ maxLen := by
  rcases h.2 with ⟨h1, h2⟩ | ⟨b, c, cur, h1, hb, hg, h2, h3, h4, h5⟩
  · omega
  · exact ⟨b, c, h1, hb, (Array.getElem?_eq_some_iff.1 hg).1, h2, h3⟩
theorem own_walk {v : Value} {l : List Int} {w : World} (hv : WordSl w v l) : Calls Try.prog 6 #[v] w (TrueExt w) := by
  obtain ⟨q, c, rfl, hc1, hc2, hcell⟩ := hv
  have HC := Lib.hid hcell
  unfold maxLen at hc2
  clear hcell
  by_cases hbig : 60 < l.length
  · have b1 : decide ((60 : Int) < (l.length : Int)) = true := decide_eq_true (by omega)
    go_enter Try.func6, Try.ntmps6
    go_wp2_with fail
    refine (new_is (n := 100) (by omega) (by omega)).mono ?_; rintro e w1 ⟨p, g, bm, rfl, h1, hx1, hp, hg, hm⟩
    have HX := Lib.hid hx1
    clear h1 hx1
    go_wp2_with fail
    refine (arena_wakes w1).mono ?_; rintro e w2 ⟨rfl, hx2⟩
    go_wp2
    go_ret
    exact ⟨rfl, HX.out.trans hx2⟩
  by_cases hnil : l.length = 0
  · have b1 : decide ((60 : Int) < (l.length : Int)) = false := decide_eq_false (by omega)
    have b2 : ((l.length : Int) == 0) = true := by rw [hnil]; rfl
    clear hnil hbig
    go_enter Try.func6, Try.ntmps6
    go_wp2_with fail
    refine (new_is (n := 100) (by omega) (by omega)).mono ?_; rintro e w1 ⟨p, g, bm, rfl, h1, hx1, hp, hg, hm⟩
    have HX := Lib.hid hx1
    clear h1 hx1
    go_wp2_with fail
    refine (arena_wakes w1).mono ?_; rintro e w2 ⟨rfl, hx2⟩
    go_wp2
    go_ret
    exact ⟨rfl, HX.out.trans hx2⟩
  · have b1 : decide ((60 : Int) < (l.length : Int)) = false := decide_eq_false (by omega)
    have b2 : ((l.length : Int) == 0) = false := beq_false_of_ne (by omega)
    have hl1 : 1 ≤ l.length := by omega
    have hl2 : l.length ≤ 60 := by omega
    clear hnil hbig
    go_enter Try.func6, Try.ntmps6
    go_wp2_with fail
    refine (new_is (n := 100) (by omega) (by omega)).mono ?_; rintro e w1 ⟨p, g, bm, rfl, h1, hx1, hp, hg, hm⟩
    have HX := Lib.hid hx1; have H1 := Lib.hid h1
    clear h1 hx1
    go_wp2_with fail
    refine (cut_yes (k := l.length) (at_ := 0) (R' := [(0, l.length)]) H1.out (by omega) (by omega) rfl (by omega) rfl).mono ?_; rintro e w2 ⟨rfl, h2, t2⟩
    have H2 := Lib.hid h2; have T2 := Lib.hid t2
    clear h2 t2
    go_wp2_with fail
    go_loopw [7] (fun i wr => ∃ (j : Nat) (ws : List Int), j ≤ l.length ∧ i = .int .i64 j ∧ ArenaAt wr p g bm 100 ws [(0, l.length)] ∧ ws.take j = l.take j ∧ Turn [g, bm] w1 wr) (fun i _ => l.length - (intOf i).toNat)
    case atStart => exact ⟨0, _, by omega, rfl, H2.out, by simp, T2.out⟩
    case round =>
      obtain ⟨j, ws, hj, rfl, hA, htk, hT⟩ := hrel
      have HA := Lib.hid hA; have HT := Lib.hid hT; have HK := Lib.hid htk
      have hszT := hT.size
      clear hA hT htk
      by_cases hlt : j < l.length
      · obtain ⟨b, off, rfl, hcj⟩ := HC.out j _ (List.getElem?_eq_getElem hlt)
        have hbw := World.block_lt_of_cell? w _ hcj
        have hsz1 := HX.out.size
        have hcr := HT.out.cell (a := ⟨b, off + j, none⟩) (by simp at hbw ⊢; omega) (HX.out.cell hcj)
        have hnx : (ws.set (0 + j) l[j]).take (j + 1) = l.take (j + 1) := by
          rw [Nat.zero_add, take_set_succ (by rw [HA.out.len]; omega), HK.out, List.take_succ_eq_append_getElem hlt]
        have HN := Lib.hid hnx
        clear hcj hnx hbw
        generalize l[j] = x at *
        have i1 : (j : Int) < (l.length : Int) := by omega
        go_wp2_with fail
        refine (set_yes (r := (0, l.length)) (a := j) (v := x) HA.out (by simp) hlt).mono ?_; rintro e w3 ⟨rfl, hA3, hT3⟩
        have HT3 := Lib.hid (HT.out.trans (hT3.mono (cs := [g, bm]) (by simp)))
        have HA3 := Lib.hid hA3
        clear hA3 hT3
        go_wp2_with fail
        exact ⟨⟨j + 1, _, by omega, by go_num, HA3.out, HN.out, HT3.out⟩, by simp [intOf]; omega⟩
      · obtain rfl : j = l.length := by omega
        have hws : ws.take l.length = l := by rw [HK.out, List.take_length]
        have HW := Lib.hid hws
        clear hws
        go_wp2_with fail
        refine (words_yes (r := (0, l.length)) HA.out (by simp)).mono ?_; rintro e w3 ⟨v3, rfl, r3, x3⟩
        have r3' : w3.ownsRow wr.heap.size 29 1 v3 l.length (l.map fun x => Value.int .u64 x) := by
          have e0 : ((ws.drop (0, l.length).1).take (0, l.length).2) = l := by rw [List.drop_zero]; exact HW.out
          rw [e0] at r3; exact r3
        obtain ⟨bl, cl, rfl, hb1, hb2, hb3, hb4⟩ := word_row r3' (by omega)
        have HA3 := Lib.hid (HA.out.ext x3); have HT3 := Lib.hid (HT.out.trans (Turn.of_ext (bs := [g, bm]) x3))
        have HR3 := Lib.hid r3'
        have hszx := x3.size
        clear r3 r3' x3
        go_wp2_with fail
        refine (regions_is HA3.out).mono ?_; rintro e w4 ⟨v4, rfl, r4, x4⟩
        obtain ⟨br, cr, rfl, hr1, hr2, hr3, hr4⟩ := pair_row r4 (by simp)
        have HA4 := Lib.hid (HA3.out.ext x4); have HT4 := Lib.hid (HT3.out.trans (Turn.of_ext (bs := [g, bm]) x4))
        have HR4 := Lib.hid (row_turn HR3.out (Turn.of_ext (bs := []) x4) (by simp)); have HP4 := Lib.hid r4
        have hszx4 := x4.size
        have hltA := HA.out.lt
        clear r4 x4
        simp only [List.length_cons, List.length_nil, Nat.zero_add] at hr3 ⊢
        go_wp2_with fail
        go_loopw [11] (fun i wx => ∃ (j : Nat) (xs : List Int), j ≤ l.length ∧ xs.length = l.length ∧ i = .int .i64 j ∧ wx.ownsRow wr.heap.size 29 1 (.slice (some ⟨bl, 0, none⟩) l.length cl) l.length (xs.map fun x => Value.int .u64 x) ∧ Turn [bl] w4 wx) (fun i _ => l.length - (intOf i).toNat)
        case atStart => exact ⟨0, l, by omega, rfl, rfl, HR4.out, Turn.refl _ _⟩
        case round =>
          obtain ⟨j, xs, hj2, hxl, rfl, hrow, hT5⟩ := hrel
          have HRW := Lib.hid hrow; have HT5 := Lib.hid hT5; have HXL := Lib.hid hxl
          clear hrow hT5 hxl
          by_cases hlt : j < l.length
          · have hc := HRW.out.cellAt j (by omega)
            rw [List.getElem?_map, List.getElem?_eq_getElem (by rw [HXL.out]; exact hlt)] at hc
            simp only [Option.map_some] at hc
            have hf := HRW.out.frozenAt j
            have i1 : (j : Int) < (l.length : Int) := by omega
            generalize xs[j]'(by rw [HXL.out]; exact hlt) = x at hc
            go_wp2_with fail
            obtain ⟨hs1, hs2⟩ := HRW.out.stored j (.int .u64 (IntKind.u64.wrap (x + 1)))
            refine ⟨⟨j + 1, xs.set j (IntKind.u64.wrap (x + 1)), by omega, by rw [List.length_set]; exact HXL.out, by go_num, ?_, HT5.out.trans (Turn.of_row hs2 (by simp))⟩, by simp [intOf]; omega⟩
            rw [List.map_set]; exact hs1
          · obtain rfl : j = l.length := by omega
            have HA5 := Lib.hid (HA4.out.turn HT5.out (by simp; omega) (by simp; omega) (by simp; omega))
            have HP5 := Lib.hid (HP4.out.turn HT5.out (by simp; omega))
            go_wp2_with fail
            have hq0 := HP5.out.cellAt 0 (by simp)
            have hq1 := HP5.out.cellAt 1 (by simp)
            have hf0 := HP5.out.frozenAt 0
            have hf1 := HP5.out.frozenAt 1
            simp only [List.flatMap_cons, List.flatMap_nil, List.append_nil, pairC, List.getElem?_cons_zero, List.getElem?_cons_succ] at hq0 hq1
            generalize wr = wq at *
            go_loopw [12] (fun i wy => (i = .int .i64 0 ∧ wq = wy) ∨ (i = .int .i64 1 ∧ Turn [br] wq wy)) (fun i _ => 1 - (intOf i).toNat)
            case atStart => exact .inl ⟨rfl, rfl⟩
            case round =>
              rcases hrel with ⟨rfl, rfl⟩ | ⟨rfl, hT6⟩
              · go_wp2_with fail
                exact ⟨.inr ⟨rfl, ((Turn.refl _ _).setCell (.inl (by simp)) _).setCell (.inl (by simp)) _⟩, by simp [intOf]⟩
              · have hx5 : Ext w wq := Below.trans HX.out (Below.trans (HT4.out.below HX.out.size (by intro b hb; simp at hb; rcases hb with h | h <;> omega)) (HT5.out.below (by have := HX.out.size; have := HT4.out.size; omega) (by intro b hb; simp at hb; have := HX.out.size; have := HT.out.size; omega)))
                have hx6 := Below.trans hx5 (hT6.below hx5.size (by intro b hb; simp at hb; have := HX.out.size; have := HT.out.size; omega))
                have HA6 := Lib.hid (HA5.out.turn hT6 (by simp; omega) (by simp; omega) (by simp; omega))
                have HX6 := Lib.hid hx6
                clear hx6 hx5 hT6
                go_wp2_with fail
                refine (words_yes (r := (0, l.length)) HA6.out (by simp)).mono ?_; rintro e w7 ⟨v7, rfl, r7, x7⟩
                have e7 : ((ws.drop (0, l.length).1).take (0, l.length).2) = l := by rw [List.drop_zero]; exact HW.out
                rw [e7] at r7
                have HA7 := Lib.hid (HA6.out.ext x7); have HX7 := Lib.hid (Ext.trans HX6.out x7)
                have HS7 := Lib.hid (WordSl.of_row (l := l) r7)
                have HV7 := Lib.hid (WordSl.ext (v := .slice q l.length c) ⟨q, c, rfl, hc1, by unfold maxLen; omega, HC.out⟩ HX7.out)
                clear r7 x7 e7
                go_wp2_with fail
                refine (keep_words HS7.out HV7.out).mono ?_; rintro e w8 ⟨rfl, x8⟩
                have HA8 := Lib.hid (HA7.out.ext x8); have HX8 := Lib.hid (HX7.out.trans x8)
                have hd8 : decide (l = l) = true := decide_eq_true rfl
                rw [hd8]
                clear x8 hd8
                go_wp2_with fail
                refine (regions_is HA8.out).mono ?_; rintro e w9 ⟨v9, rfl, r9, x9⟩
                have e9 := Ext.alloc w9 (.cells (([(0, l.length)] : List (Nat × Nat)).flatMap pairC).toArray 55)
                have K9 := Lib.hid (keep_pairs (r9.sl.ext e9) (pair_lit w9 [(0, l.length)] (by simp) 55) (by simp))
                have HX9 := Lib.hid ((HX8.out.trans x9).trans e9)
                clear r9 x9 e9
                go_wp2_with fail
                refine K9.out.mono ?_; rintro e w10 ⟨rfl, x10⟩
                have HX10 := Lib.hid (HX9.out.trans x10)
                clear x10
                simp only [decide_true]
                go_wp2_with fail
                refine (arena_wakes w10).mono ?_; rintro e w11 ⟨rfl, x11⟩
                go_wp2
                go_ret
                exact ⟨rfl, HX10.out.trans x11⟩
end Go.Proofs.Ytibpnhaamdelmaa
