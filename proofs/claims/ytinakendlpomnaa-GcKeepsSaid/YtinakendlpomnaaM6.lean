/- Proved here: the contracts and laws of ObjZD, ObjZE, ObjZF, ObjZG, ObjZH, ObjZI, ObjRA, ObjRB, Both, RigP, ObjLC, HpP of this claim, each beneath its own remark; conditions: those that each theorem names. -/
import Derived.Test.YtinakendlpomnaaM5
import Derived.Test.YtinakendlpomnaaM2
import Derived.Test.YtinakendlpomnaaM3
import Derived.Deep.RegionHeld3
/- All objects of a heap (the reference's), where there is such a heap. -/
namespace Go.Proofs.Ytinakendlpomnaa
open Go.RowKit Go.Maps Arena
set_option maxHeartbeats 4000000
set_option maxRecDepth 100000
theorem objs_reads {S : List Int} {L : List (Nat × Ob)} (h : objs S 0 = some L) : ∀ x ∈ L, readS (S.drop x.1) = some x.2 := by
  have := objs_ind (P := fun S a L => ∀ x ∈ L, ∃ k, x.1 = a + k ∧ readS (S.drop k) = some x.2) (fun a x hx => by cases hx)
    (fun S a o L hS hr ih x hx => by
      rcases List.mem_cons.1 hx with rfl | hx
      · exact ⟨0, rfl, hr⟩
      · obtain ⟨k, h1, h2⟩ := ih x hx
        exact ⟨wordsO o + k, by omega, by rw [← List.drop_drop]; exact h2⟩) S.length (Nat.le_refl _) h
  intro x hx
  obtain ⟨k, h1, h2⟩ := this x hx
  rw [h1, Nat.zero_add]
  exact h2
/-- the first k places moved, the others not yet -/
def mixC (first : Nat) (L : List (Nat × Ob)) (k : Nat) : List (List Value) := (L.take k).map (plC first) ++ (L.drop k).map (plC 0)
theorem mixC_zero (first : Nat) (L : List (Nat × Ob)) : mixC first L 0 = L.map (plC 0) := by simp [mixC]
theorem mixC_all (first : Nat) (L : List (Nat × Ob)) : mixC first L L.length = L.map (plC first) := by simp [mixC]
theorem mixC_at {first : Nat} {L : List (Nat × Ob)} {k : Nat} {x : Nat × Ob} (h : L[k]? = some x) : (mixC first L k)[k]? = some [.int .i64 (x.1 : Int)] := by
  obtain ⟨h1, h2⟩ := List.getElem?_eq_some_iff.1 h
  have hl : ((L.take k).map (plC first)).length = k := by rw [List.length_map, List.length_take]; omega
  unfold mixC
  rw [List.getElem?_append_right (by omega), hl, Nat.sub_self, List.getElem?_map, List.getElem?_drop, Nat.add_zero, h]
  simp [plC]
theorem mixC_step {first : Nat} {L : List (Nat × Ob)} {k : Nat} {x : Nat × Ob} (h : L[k]? = some x) : mixC first L (k + 1) = (mixC first L k).set k ([.int .i64 (x.1 : Int)].set 0 (.int .i64 ((x.1 : Int) + (first : Int)))) := by
  obtain ⟨h1, h2⟩ := List.getElem?_eq_some_iff.1 h
  have hl : ((L.take k).map (plC first)).length = k := by rw [List.length_map, List.length_take]; omega
  unfold mixC
  rw [List.set_append_right _ _ (by omega), hl, Nat.sub_self, List.take_succ_eq_append_getElem h1, h2, List.map_append, List.append_assoc, List.drop_eq_getElem_cons h1, h2]
  simp [plC, Int.add_comm]
theorem rall_yes {w : World} {q gq B n : Nat} {ws : List Int} {vR : Value} {R : List (Nat × Nat)} (H : RefAt w q gq B n ws vR R) (h : Hp) (hW : ∀ x ∈ ws, W64 x) (ht : thereB R h = true) :
    Calls Try.prog 29 #[.pointer (some ⟨q, 0, none⟩), .agg #[.int .i64 h.base, .int .i64 h.half, .int .i64 h.space, .int .i64 h.top]] w (RAllSaid (allS (firstN h) (semi ws R h)) (firstN h) w) := by
  have hsv := semiV_yes (gq := gq) H.good H.len ht
  have HSM := Lib.hid (fun W (e : Ext w W) => semi_is (H.ext e) h)
  rw [hsv] at HSM
  have HROW := Lib.hid (fun W (e : Ext w W) => semi_rows (H.ext e) h ht)
  have hS64 : ∀ x ∈ semi ws R h, W64 x := fun x hx => hW x (semi_mem hx)
  have hsl := semi_len (h := h) H.good H.len ht
  have hok := (thereB_ok ht).1
  have hfi := firstN_is hok
  obtain ⟨hf1, hf2, hf3⟩ := hfi
  obtain ⟨a1, a2, a3, a4, a5, a6⟩ := hok
  have hst : (semi ws R h).length ≤ 2000 := by omega
  generalize h.base.toNat + (if h.top = 0 then 0 else firstN h) = sp at HSM HROW
  generalize h.top.toNat = st at HSM HROW hsl
  generalize firstN h = first at *
  generalize semi ws R h = S at *
  have HS64 := Lib.hid hS64
  have HF1 := Lib.hid hf1
  have hen : ∀ W, (binOp .eql 22 (.slice (some ⟨gq, sp, none⟩) S.length st) (.slice none 0 0)).run Try.prog W = .ok (.bool false) W := fun W => by rw [Lib.run_eql_slice_nil W 22 44 (some ⟨gq, sp, none⟩) S.length st 0 0 Try.underlying22]; rfl
  have hmk : ∀ W, (Instr.makeSlice 108 (.int .i64 ((S.length : Int) + 1)) (.int .i64 ((S.length : Int) + 1))).run Try.prog W = .ok (.slice (some ⟨W.heap.size, 0, none⟩) (S.length + 1) (S.length + 1)) (W.alloc (.cells (madeCells #[.bool false] (S.length + 1)) 4)) := fun W => by
    have := mk_bools (S.length + 1) (by omega) W
    exact_mod_cast this
  clear hsv hS64 hsl hf1 hf3 H hW ht
  go_enter Try.func29, Try.ntmps29
  go_upto_region 1 with fail
  refine wp_alloc2 fun W hE hS c0 c1 => ?_
  obtain ⟨x0, x1, x2, x3⟩ := cells4 c0
  go_wp2_with fail
  refine (HSM.out W hE).mono ?_
  rintro e w1 ⟨rfl, hx1⟩
  have d0 := (Below.block hx1 w.heap.size (by omega)).trans c0
  have d1 := (Below.block hx1 (w.heap.size + 1) (by omega)).trans c1
  have HE := Lib.hid (hE.trans hx1)
  clear hE hS c0 c1 hx1 x0 x1 x2 x3
  go_upto_region 2 with fail
  obtain ⟨x0, x1, x2, x3⟩ := cells4 d0
  go_quiet (fail)
  obtain ⟨W2, hW2, hx2⟩ : ∃ W2, W2 = w1.drewN nq ∧ Ext w1 W2 := ⟨_, rfl, Ext.drewN _ _⟩
  rw [← hW2]
  have e0 := (Below.block hx2 w.heap.size (Array.getElem?_eq_some_iff.1 d0).1).trans d0
  have e1 := (Below.block hx2 (w.heap.size + 1) (Array.getElem?_eq_some_iff.1 d1).1).trans d1
  have HE2 := Lib.hid (HE.out.trans hx2)
  clear hW2 hx2 d0 d1 x0 x1 x2 x3 hen
  go_upto_region 5 with fail
  refine wp_alloc1 fun W3 hE3 hS3 b3 => ?_
  have d0 := (Below.block hE3 w.heap.size (Array.getElem?_eq_some_iff.1 e0).1).trans e0
  have d1 := (Below.block hE3 (w.heap.size + 1) (Array.getElem?_eq_some_iff.1 e1).1).trans e1
  have HE3 := Lib.hid (HE2.out.trans hE3)
  have hpb : w.heap.size + 1 < W2.heap.size := (Array.getElem?_eq_some_iff.1 e1).1
  have hpb3 : W2.heap.size < W3.heap.size := by omega
  generalize W2.heap.size = pb at *
  clear hE3 hS3 e0 e1
  go_upto_region 6 with fail
  have hbg := made_own W3 4 (.bool false) (S.length + 1) W3.heap.size rfl (Nat.le_refl _) (by unfold maxLen; omega)
  rw [← begs_nil S.length] at hbg
  have hx4 := Ext.alloc W3 (.cells (madeCells #[.bool false] (S.length + 1)) 4)
  have hs4 : W3.heap.size < (W3.alloc (.cells (madeCells #[.bool false] (S.length + 1)) 4)).heap.size := by simp
  generalize W3.alloc (.cells (madeCells #[.bool false] (S.length + 1)) 4) = W4 at *
  have e0 := (Below.block hx4 w.heap.size (by omega)).trans d0
  have e1 := (Below.block hx4 (w.heap.size + 1) (by omega)).trans d1
  have e3 := (Below.block hx4 pb (by omega)).trans b3
  have HE4 := Lib.hid (HE3.out.trans hx4)
  obtain ⟨bg, hbge⟩ : ∃ bg, bg = W3.heap.size := ⟨_, rfl⟩
  rw [← hbge] at hbg hs4 hpb3 ⊢
  have HBG := Lib.hid hbg
  clear hbg hx4 d0 d1 b3 hbge hmk
  go_wp2_with fail
  go_loopw [8] (fun i wr => ∃ (pp : Nat) (L : List (Nat × Ob)) (qv : Option Addr) (cv : Nat), pp ≤ S.length ∧ i = .int .i64 pp ∧ Hid (objs S 0 = (objs (S.drop pp) pp).map (L ++ ·)) ∧ Hid (∀ x ∈ L, x.1 < pp) ∧ L.length ≤ pp ∧
    wr.heap[pb]? = some (.cells #[.slice qv L.length cv, .bool true] 69 (0, 0)) ∧ OwnP wr (bg + 1) 3 (.slice qv L.length cv) 1 (L.map (plC 0)) ∧ OwnP wr bg 4 (.slice (some ⟨bg, 0, none⟩) (S.length + 1) (S.length + 1)) 1 (begs S.length L) ∧
    wr.heap[w.heap.size]? = some (.cells #[.int .i64 h.base, .int .i64 h.half, .int .i64 h.space, .int .i64 h.top] 24 (0, 0)) ∧ wr.heap[w.heap.size + 1]? = some (.cells #[.slice none 0 0, .bool false] 69 (0, 0)) ∧ Ext w wr ∧ bg < wr.heap.size) (fun i _ => S.length - (Go.RowKit.intOf i).toNat)
  case atStart => exact ⟨0, [], none, 0, Nat.zero_le _, rfl, Lib.hid (by rw [List.drop_zero]; cases objs S 0 <;> rfl), Lib.hid (fun x hx => (by cases hx)), Nat.le_refl _, e3, OwnP.nil _ _ _ _, HBG.out, e0, e1, HE4.out, hs4⟩
  case round =>
    obtain ⟨pp, L, qv, cv, hpp, rfl, HOB, HLT, hLl, k3, hov, hob, k0, k1, hx, hbs⟩ := hrel
    have HX := Lib.hid hx; have HOV := Lib.hid hov; have HOBG := Lib.hid hob
    clear hx hov hob e0 e1 e3 HE4 HBG hs4
    by_cases hlt : pp < S.length
    · have i1 : (pp : Int) < (S.length : Int) := by omega
      have HAT := Lib.hid (refat_is pp wr (HROW.out wr HX.out) HS64.out (by omega))
      go_wp2_with fail
      refine HAT.out.mono ?_
      intro e w5 h5
      generalize hrd : readS (S.drop pp) = rd at h5
      have HRD := Lib.hid hrd
      have hne : S.drop pp ≠ [] := by intro e; have := congrArg List.length e; rw [List.length_drop] at this; simp at this; omega
      have hoc := objs_cons (a := pp) hne
      rw [hrd] at hoc
      have HOC := Lib.hid hoc
      clear hoc hne hrd
      cases rd with
      | none =>
        obtain ⟨he, hx5⟩ := h5
        unfold zeroRV at he
        subst he
        have m1 := (Below.block hx5 (w.heap.size + 1) (Array.getElem?_eq_some_iff.1 k1).1).trans k1
        have HX5 := Lib.hid (HX.out.trans hx5)
        have hall : allS first S = none := by unfold allS; rw [HOB.out, HOC.out]; rfl
        have HALL := Lib.hid hall
        clear hx5 hall k0 k1 k3
        go_upto_region 9 with fail
        refine wp_alloc1 fun W6 hE6 hS6 b6 => ?_
        have m2 := (Below.block hE6 (w.heap.size + 1) (Array.getElem?_eq_some_iff.1 m1).1).trans m1
        have HX6 := Lib.hid (HX5.out.trans hE6)
        clear hE6 hS6 m1
        obtain ⟨z0, z1, z2, z3, z4⟩ := cells5 b6
        obtain ⟨y0, y1⟩ := cells2 m2
        have f0 := free_at m2 (i := 0)
        have f1 := free_at m2 (i := 1)
        go_wp2
        refine post_fill2 m2 fun W7 k7 hT hS7 => ?_
        obtain ⟨y0, y1⟩ := cells2 k7
        refine bodyPost_ret (v := zeroPV) (by simp [results, Try.results29, go_sem, y0, y1, zeroPV]) rfl ?_
        rw [HALL.out]
        exact ⟨rfl, Turn.after HX6.out hT (by simp)⟩
      | some o =>
        obtain ⟨q5, c5, rfl, ho5, hx5⟩ := h5
        have m0 := (Below.block hx5 w.heap.size (Array.getElem?_eq_some_iff.1 k0).1).trans k0
        have m1 := (Below.block hx5 (w.heap.size + 1) (Array.getElem?_eq_some_iff.1 k1).1).trans k1
        have m3 := (Below.block hx5 pb (Array.getElem?_eq_some_iff.1 k3).1).trans k3
        have HX5 := Lib.hid (HX.out.trans hx5)
        have HOV5 := Lib.hid (HOV.out.ext hx5)
        have HOB5 := Lib.hid (HOBG.out.ext hx5)
        have hbs5 : bg < w5.heap.size := by have := Ext.size hx5; omega
        clear hx5 k0 k1 k3 ho5 hbs
        go_upto_region 9 with fail
        refine wp_alloc1 fun W6 hE6 hS6 b6 => ?_
        have k0 := (Below.block hE6 w.heap.size (Array.getElem?_eq_some_iff.1 m0).1).trans m0
        have k1 := (Below.block hE6 (w.heap.size + 1) (Array.getElem?_eq_some_iff.1 m1).1).trans m1
        have k3 := (Below.block hE6 pb (Array.getElem?_eq_some_iff.1 m3).1).trans m3
        have HX6 := Lib.hid (HX5.out.trans hE6)
        have HOV6 := Lib.hid (HOV5.out.ext hE6)
        have HOB6 := Lib.hid (HOB5.out.ext hE6)
        have hbs6 : bg < W6.heap.size := by have := Ext.size hE6; omega
        generalize w5.heap.size = rb at *
        clear hE6 hS6 m0 m1 m3
        obtain ⟨z0, z1, z2, z3, z4⟩ := cells5 b6
        obtain ⟨g', eg, _, u0, v0⟩ := HOB6.out.cell (begs_at hpp) (f := 0) (u := .bool (L.any fun x => x.1 == pp)) rfl
        obtain ⟨rfl, _⟩ := Addr.mk.inj (Option.some.inj eg)
        rw [Nat.mul_one, Nat.add_zero] at u0 v0
        have hst := HOB6.out.store (f := 0) (begs_at hpp) (by omega) (u := .bool true) rfl
        rw [← begs_set (o := o) hpp, Nat.mul_one, Nat.add_zero] at hst
        have HST := Lib.hid hst
        clear hst eg
        go_upto_region 12 with fail
        refine wp_gen (fun W => OwnP W bg 4 (.slice (some ⟨bg, 0, none⟩) (S.length + 1) (S.length + 1)) 1 (begs S.length (L ++ [(pp, o)])) ∧ Turn [bg] W6 W ∧ W.heap.size = W6.heap.size) ⟨HST.out, (Turn.refl _ _).setCell (.inl (by simp)) _, by simp⟩ fun W7 hF7 => ?_
        obtain ⟨hob7, hT7, hS7⟩ := hF7
        have hrbg : bg < rb := hbs5
        have m0 := (hT7.block w.heap.size (Array.getElem?_eq_some_iff.1 k0).1 (by simp; omega)).trans k0
        have m1 := (hT7.block (w.heap.size + 1) (Array.getElem?_eq_some_iff.1 k1).1 (by simp; omega)).trans k1
        have m3 := (hT7.block pb (Array.getElem?_eq_some_iff.1 k3).1 (by simp; omega)).trans k3
        have m6 := (hT7.block rb (Array.getElem?_eq_some_iff.1 b6).1 (by simp; omega)).trans b6
        have HX7 := Lib.hid (Turn.after HX6.out hT7 (by simp; omega))
        have HOV7 := Lib.hid (HOV6.out.turn hT7 (fun b hb hm => by have := (HOV6.out.own b hb).1; rw [List.mem_singleton.1 hm] at this; omega))
        have HOB7 := Lib.hid hob7
        have hbs7 : bg < W7.heap.size := by omega
        have hrs7 : rb < W7.heap.size := (Array.getElem?_eq_some_iff.1 m6).1
        clear hob7 hT7 hS7 k0 k1 k3 b6 z0 z1 z2 z3 z4 u0 v0 HST
        obtain ⟨z0, z1⟩ := cells2 m3
        have f0 := free_at m3 (i := 0)
        go_wp2_with (refine wpList_append_rows EInt (by rfl) _ _ (by rfl) (bg + 1) (.slice qv L.length cv) (.slice (some ⟨W7.heap.size, 0, none⟩) 1 1) (L.map (plC 0)) [[.int .i64 (pp : Int)]] (by rfl) (HOV7.out.ext (Ext.alloc _ _)) (by rfl) (rows_of_block (cs := #[.int .i64 (pp : Int)]) (heap_alloc_new _ _) rfl (by intro u hu; simp at hu; subst hu; rfl)) (by simp; unfold maxLen; omega) (by simp; omega) (by simp; omega) ?_)
        intro v8 W8 ho8 hg8 _ _
        have hA := Ext.alloc W7 (.cells #[.int .i64 (pp : Int)] 3)
        have hB8 : Below (bg + 1) W7 W8 := Below.grown (Below.alloc (Below.refl _ _) (by omega) _) hg8 (by simp; omega) (fun b hb => (HOV7.out.own b hb).1)
        have hovA := HOV7.out.ext hA
        have n0 := (Below.block hB8 w.heap.size (by omega)).trans m0
        have n1 := (Below.block hB8 (w.heap.size + 1) (by omega)).trans m1
        have n3 := (Below.block hB8 pb (by omega)).trans m3
        have n6 := grown_block hg8 ((Below.block hA rb hrs7).trans m6) (hovA.not_at ((Below.block hA rb hrs7).trans m6) (by decide))
        have HX8 := Lib.hid (HX7.out.go hB8 (by omega))
        have hob8 : OwnP W8 bg 4 (.slice (some ⟨bg, 0, none⟩) (S.length + 1) (S.length + 1)) 1 (begs S.length (L ++ [(pp, o)])) := HOB7.out.stays (fun b hb hl => by
          obtain rfl : bg = b := by simpa [Value.ownBlock] using hb
          exact Below.block hB8 bg (by omega))
        have HOB8 := Lib.hid hob8
        obtain ⟨q8, c8, hv8, _, _⟩ := ho8.len
        have hl8 : (L.map (plC 0) ++ [[.int .i64 (pp : Int)]] : List (List Value)).length = L.length + 1 := by simp
        rw [hl8] at hv8
        subst hv8
        have ho8' : OwnP W8 (bg + 1) 3 (.slice q8 (L.length + 1) c8) 1 ((L ++ [(pp, o)]).map (plC 0)) := by
          rw [List.map_append]
          have e : [[Value.int .i64 (pp : Int)]] = [((pp, o) : Nat × Ob)].map (plC 0) := by simp [plC]
          rw [← e]
          exact ho8
        have HO8 := Lib.hid ho8'
        have hbs8 : bg < W8.heap.size := by have := Below.size hB8; omega
        clear hA hB8 hovA m0 m1 m3 m6 hob8 ho8 ho8' hg8 hl8 z0 z1 f0
        obtain ⟨z0, z1⟩ := cells2 n3
        have f0 := free_at n3 (i := 0)
        go_upto_region 13 with fail
        refine wp_fill1 n3 fun W9 hb9 hT9 hS9 => ?_
        have k3 : W9.heap[pb]? = some (.cells #[.slice q8 (L.length + 1) c8, .bool true] 69 (0, 0)) := hb9
        have k0 := (hT9.block w.heap.size (Array.getElem?_eq_some_iff.1 n0).1 (by simp; omega)).trans n0
        have k1 := (hT9.block (w.heap.size + 1) (Array.getElem?_eq_some_iff.1 n1).1 (by simp; omega)).trans n1
        have k6 := (hT9.block rb (Array.getElem?_eq_some_iff.1 n6).1 (by simp; omega)).trans n6
        have HX9 := Lib.hid (Turn.after HX8.out hT9 (by simp; omega))
        have HO9 := Lib.hid (HO8.out.turn hT9 (fun b hb hm => by have := (HO8.out.own b hb).1; rw [List.mem_singleton.1 hm] at this; omega))
        have HOB9 := Lib.hid (HOB8.out.turn hT9 (fun b hb hm => by have := (HOB8.out.own b hb).1; rw [List.mem_singleton.1 hm] at this; omega))
        have hbs9 : bg < W9.heap.size := by omega
        have HWD := Lib.hid (fun W => refwords_is o c5 q5 W)
        obtain ⟨hw1, hw2, hmo⟩ := readS_words HRD.out
        rw [hmo, if_pos rfl] at HWD
        rw [List.length_drop] at hw1
        have hoc2 : objs S 0 = (objs (S.drop (pp + wordsO o)) (pp + wordsO o)).map ((L ++ [(pp, o)]) ++ ·) := by
          have h9 := HOC.out
          rw [HOB.out, h9, List.drop_drop, Option.map_map]
          congr 1
          funext y
          simp
        have hlt2 : ∀ x ∈ L ++ [(pp, o)], x.1 < pp + wordsO o := by
          intro x hx
          rcases List.mem_append.1 hx with hx | hx
          · have := HLT.out x hx; omega
          · rw [List.mem_singleton.1 hx]; dsimp only; omega
        have HOC2 := Lib.hid hoc2; have HLT2 := Lib.hid hlt2
        generalize wordsO o = wo at *
        clear hb9 hT9 hS9 n0 n1 n3 n6 hoc2 hlt2 z0 z1 f0 HOB HOC
        obtain ⟨z0, z1, z2, z3, z4⟩ := cells5 k6
        go_wp2_with fail
        refine (HWD.out _).mono ?_
        rintro e w10 ⟨rfl, hx10⟩
        have j0 := (Below.block hx10 w.heap.size (Array.getElem?_eq_some_iff.1 k0).1).trans k0
        have j1 := (Below.block hx10 (w.heap.size + 1) (Array.getElem?_eq_some_iff.1 k1).1).trans k1
        have j3 := (Below.block hx10 pb (Array.getElem?_eq_some_iff.1 k3).1).trans k3
        have HX10 := Lib.hid (HX9.out.trans hx10)
        have HO10 := Lib.hid (HO9.out.ext hx10)
        have HOB10 := Lib.hid (HOB9.out.ext hx10)
        have hbs10 : bg < w10.heap.size := by have := Ext.size hx10; omega
        clear hx10 k0 k1 k3 k6 z0 z1 z2 z3 z4
        go_wp2
        exact ⟨⟨pp + wo, L ++ [(pp, o)], q8, c8, by omega, by go_num, HOC2.out, HLT2.out, by simp; omega, by rw [List.length_append]; exact j3, by rw [List.length_append]; exact HO10.out, HOB10.out, j0, j1, HX10.out, hbs10⟩, by simp [Go.RowKit.intOf]; omega⟩
    · obtain rfl : pp = S.length := by omega
      have hobj : objs S 0 = some L := by rw [HOB.out, List.drop_length, objs_nil]; simp
      have i1 : ¬ (S.length : Int) < (S.length : Int) := by omega
      have HOBJ := Lib.hid hobj
      have HRDS := Lib.hid (objs_reads hobj)
      have HFM := Lib.hid (objs_fields hobj)
      have hm : IntKind.i64.wrap (h.space * h.half) = (first : Int) := by rw [← HF1.out, IntWalk.i64_in _ (by omega)]
      have hfl1 : ∀ (a b : Int) (q : Option Addr) (l c : Nat) (s : ByteArray) (t : Bool) (W : World), (Instr.field 50 (.agg #[.int .i64 a, .int .i64 b, .slice q l c, .string s, .bool t]) 0).run Try.prog W = .ok (.agg #[.int .i64 a, .int .i64 b, .slice q l c, .string s]) W := fun _ _ _ _ _ _ _ _ => by kernel_rfl
      have hfl2 : ∀ (a b : Int) (q : Option Addr) (l c : Nat) (s : ByteArray) (W : World), (Instr.field 48 (.agg #[.int .i64 a, .int .i64 b, .slice q l c, .string s]) 2).run Try.prog W = .ok (.slice q l c) W := fun _ _ _ _ _ _ _ => by kernel_rfl
      have HM := Lib.hid hm
      clear hobj HOB hm
      obtain ⟨z0, z1⟩ := cells2 k3
      generalize wr = w3 at *
      go_wp2_with fail
      go_loopw [10] (fun i wr => ∃ j : Nat, j ≤ L.length ∧ i = .int .i64 j ∧ Hid ((L.take j).all (fun x => x.2.fields.all (fieldOK (L.map (·.1)) first)) = true) ∧ Ext w3 wr) (fun i _ => L.length - (Go.RowKit.intOf i).toNat)
      case atStart => exact ⟨0, Nat.zero_le _, rfl, Lib.hid rfl, Ext.refl _⟩
      case round =>
        obtain ⟨j, hj, rfl, HAL, hxj⟩ := hrel
        have HXJ := Lib.hid hxj
        have l0 := (Below.block hxj w.heap.size (Array.getElem?_eq_some_iff.1 k0).1).trans k0
        have l1 := (Below.block hxj (w.heap.size + 1) (Array.getElem?_eq_some_iff.1 k1).1).trans k1
        have l3 := (Below.block hxj pb (Array.getElem?_eq_some_iff.1 k3).1).trans k3
        have HOVJ := Lib.hid (HOV.out.ext hxj)
        have HOBJ2 := Lib.hid (HOBG.out.ext hxj)
        clear hxj k0 k1 k3 z0 z1
        obtain ⟨z0, z1⟩ := cells2 l3
        by_cases hjl : j < L.length
        · obtain ⟨⟨a, o⟩, hxo⟩ : ∃ x, L[j]? = some x := ⟨_, List.getElem?_eq_getElem hjl⟩
          have hmem := List.mem_of_getElem? hxo
          have hrd := HRDS.out _ hmem
          dsimp only at hrd
          have hfS := (HFM.out _ hmem).2
          dsimp only at hfS
          have hfl : o.fields.length ≤ 400 := by have := (HFM.out _ hmem).1; unfold mayO at this; exact (mayK_bounds this).2.2.2.2.1
          obtain ⟨g2, eg2, _, hcl, _⟩ := HOVJ.out.cell (i := j) (cs := plC 0 (a, o)) (by rw [List.getElem?_map, hxo]; rfl) (f := 0) rfl
          subst eg2
          rw [Nat.mul_one, Nat.add_zero] at hcl
          have hcl2 : wr.cell? ⟨g2, j, none⟩ = some (.int .i64 (a : Int)) := by rw [hcl]; simp
          have i2 : (j : Int) < (L.length : Int) := by omega
          have HAT := Lib.hid (refat_is a wr (HROW.out wr (HX.out.trans HXJ.out)) HS64.out (by omega))
          rw [hrd] at HAT
          have HXO := Lib.hid hxo; have HFS := Lib.hid hfS
          clear hmem hrd hfS hcl hxo
          go_wp2_with fail
          refine HAT.out.mono ?_
          intro e w5 h5
          obtain ⟨q5, c5, rfl, ho5, hx5⟩ := h5
          have m0 := (Below.block hx5 w.heap.size (Array.getElem?_eq_some_iff.1 l0).1).trans l0
          have m1 := (Below.block hx5 (w.heap.size + 1) (Array.getElem?_eq_some_iff.1 l1).1).trans l1
          have HX5 := Lib.hid (HXJ.out.trans hx5)
          have HOB5 := Lib.hid (HOBJ2.out.ext hx5)
          have HO5 := Lib.hid ho5
          clear hx5 l0 l1 l3 z0 z1 ho5 hcl2
          go_wp2_with fail
          go_loopw [12] (fun i wr => ∃ t : Nat, t ≤ o.fields.length ∧ i = .int .i64 t ∧ Hid ((o.fields.take t).all (fieldOK (L.map (·.1)) first) = true) ∧ Ext w5 wr) (fun i _ => o.fields.length - (Go.RowKit.intOf i).toNat)
          case atStart => exact ⟨0, Nat.zero_le _, rfl, Lib.hid rfl, Ext.refl _⟩
          case round =>
            obtain ⟨t, htl, rfl, HFA, hxt⟩ := hrel
            have HXT := Lib.hid hxt
            have n0 := (Below.block hxt w.heap.size (Array.getElem?_eq_some_iff.1 m0).1).trans m0
            have n1 := (Below.block hxt (w.heap.size + 1) (Array.getElem?_eq_some_iff.1 m1).1).trans m1
            have HO6 := Lib.hid (HO5.out.ext hxt)
            have HOB6 := Lib.hid (HOB5.out.ext hxt)
            clear hxt m0 m1 hfl1 hfl2
            by_cases ht : t < o.fields.length
            · obtain ⟨y, hy⟩ : ∃ y, o.fields[t]? = some y := ⟨_, List.getElem?_eq_getElem ht⟩
              have hy6 := HS64.out y (HFS.out y (List.mem_of_getElem? hy))
              obtain ⟨g3, eg3, _, hyc, _⟩ := HO6.out.cell (i := t) (cs := wordC y) (by rw [List.getElem?_map, hy]; rfl) (f := 0) rfl
              subst eg3
              rw [Nat.mul_one, Nat.add_zero] at hyc
              have HI := Lib.hid (fun W => refIsInt_is hy6 W)
              have HA := Lib.hid (fun W => refAt_is hy6 W)
              have HY := Lib.hid hy
              have i3 : (t : Int) < (o.fields.length : Int) := by omega
              have hok1 : Hid (fieldOK (L.map (·.1)) first y = true → (o.fields.take (t + 1)).all (fieldOK (L.map (·.1)) first) = true) := by
                intro hf
                obtain ⟨h1, h2⟩ := List.getElem?_eq_some_iff.1 hy
                rw [List.take_succ_eq_append_getElem h1, List.all_append, HFA.out, h2]
                simp [hf]
              have hno1 : Hid (fieldOK (L.map (·.1)) first y = false → allS first S = none) := by
                intro hf
                unfold allS
                rw [HOBJ.out]
                dsimp only
                refine if_neg fun h => ?_
                unfold fieldsOK at h
                have h1 := List.all_eq_true.1 h _ (List.mem_of_getElem? HXO.out)
                have h2 := List.all_eq_true.1 h1 y (List.mem_of_getElem? hy)
                rw [hf] at h2
                cases h2
              obtain ⟨hy61, hy62⟩ := hy6
              clear hy
              cases hi : isIntW y with
              | true =>
                rw [hi] at HI
                have HST := Lib.hid (hok1.out (by unfold fieldOK; rw [hi]; rfl))
                clear hi
                go_wp2_with fail
                refine (HI.out _).mono ?_
                rintro e w7 ⟨rfl, rfl⟩
                go_wp2
                exact ⟨⟨t + 1, by omega, by go_num, HST.out, HXT.out⟩, by simp [Go.RowKit.intOf]; omega⟩
              | false =>
                rw [hi] at HI HA
                obtain ⟨av, hav⟩ : ∃ av : Int, av = if false = true ∨ 4294967296 ≤ y / 2 then -1 else y / 2 := ⟨_, rfl⟩
                have hav1 : -1 ≤ av ∧ av ≤ 9223372036854775808 := by rw [hav]; split <;> omega
                rw [← hav] at HA
                have hsub : IntKind.i64.wrap (av - (first : Int)) = av - (first : Int) := by
                  have : av ≤ 4294967296 := by rw [hav]; split <;> rename_i hh <;> simp at hh <;> omega
                  exact IntWalk.i64_in _ (by omega)
                have hm := HM.out
                have HAV := Lib.hid hav
                obtain ⟨hav1, hav2⟩ := hav1
                have HI2 := Lib.hid hi
                clear hav hi
                go_wp2_with fail
                refine (HI.out _).mono ?_
                rintro e w7 ⟨rfl, rfl⟩
                go_upto_region 22 with fail
                obtain ⟨x0, x1, x2, x3⟩ := cells4 n0
                have r0 := fun d os => cell_regrown x1 d os
                have r1 := fun d os => cell_regrown x2 d os
                have r2 := fun d os => cell_regrown hyc d os
                have CA := Lib.hid (fun d os => quiet_same (HA.out (Go.Sort.grow (redrawn wr d) os)))
                clear x0 x1 x2 x3
                refine wp_region_quiet_below (by kernel_rfl) (by kernel_rfl) ?_
                repeat (first | go_big_quiet_step (exact CA.out _ _) | quiet_step (exact CA.out _ _))
                refine wpQuiet_nil ?_
                intro _ hw'
                obtain ⟨⟨dq, osq⟩, hw''⟩ := hw'
                subst hw''
                obtain ⟨W8, hW8, hx8⟩ : ∃ W8, W8 = Go.Sort.grow (redrawn wr dq) osq ∧ Ext wr W8 := ⟨_, rfl, Ext.regrown wr dq osq⟩
                rw [← hW8]
                clear hW8 r0 r1 r2
                have u1 := (Below.block hx8 (w.heap.size + 1) (Array.getElem?_eq_some_iff.1 n1).1).trans n1
                have HX8 := Lib.hid ((((HX.out.trans HX5.out)).trans HXT.out).trans hx8)
                have HXJ8 := Lib.hid ((HXT.out).trans hx8)
                have HOB8 := Lib.hid (HOB6.out.ext hx8)
                have HPL := Lib.hid (objs_fit HOBJ.out)
                clear hx8 n0 n1 hm hsub hyc
                by_cases c1 : av - (first : Int) < 0
                · have b1 : decide (av - (first : Int) < 0) = true := decide_eq_true c1
                  have hno : allS first S = none := hno1.out (by
                    unfold fieldOK
                    rw [HI2.out]
                    simp only [Bool.false_or, Bool.and_eq_false_iff, decide_eq_false_iff_not]
                    by_cases hb : 4294967296 ≤ y / 2
                    · left; omega
                    · right
                      have hv : av = y / 2 := by rw [HAV.out, if_neg (by simp; omega)]
                      refine List.any_eq_false.2 fun z hz => ?_
                      simp
                      omega)
                  have HNO := Lib.hid hno
                  clear hno
                  obtain ⟨y0, y1⟩ := cells2 u1
                  have f0 := free_at u1 (i := 0)
                  have f1 := free_at u1 (i := 1)
                  go_wp2
                  refine post_fill2 u1 fun W9 k9 hT hS9 => ?_
                  obtain ⟨y0, y1⟩ := cells2 k9
                  refine bodyPost_ret (v := zeroPV) (by simp [results, Try.results29, go_sem, y0, y1, zeroPV]) rfl ?_
                  rw [HNO.out]
                  exact ⟨rfl, Turn.after HX8.out hT (by simp)⟩
                · have b1 : decide (av - (first : Int) < 0) = false := decide_eq_false c1
                  have hv : av = y / 2 ∧ y / 2 < 4294967296 := by
                    have h0 := HAV.out
                    by_cases hb : 4294967296 ≤ y / 2
                    · rw [if_pos (.inr hb)] at h0; omega
                    · rw [if_neg (by simp; omega)] at h0; exact ⟨h0, by omega⟩
                  obtain ⟨hv1, hv2⟩ := hv
                  obtain ⟨ii, hii⟩ := Int.eq_ofNat_of_zero_le (show 0 ≤ av - (first : Int) by omega)
                  have hfo : fieldOK (L.map (·.1)) first y = L.any fun x => x.1 == ii := by
                    unfold fieldOK
                    rw [HI2.out, decide_eq_true hv2, List.any_map]
                    simp only [Bool.false_or, Bool.true_and]
                    congr 1
                    funext x
                    simp only [Function.comp_apply]
                    rw [Bool.eq_iff_iff]
                    simp
                    omega
                  by_cases c2 : (S.length : Int) ≤ av - (first : Int)
                  · have b2 : decide ((S.length : Int) ≤ av - (first : Int)) = true := decide_eq_true c2
                    have hno : allS first S = none := hno1.out (by
                      rw [hfo]
                      refine List.any_eq_false.2 fun z hz => ?_
                      have h1 := HPL.out z hz
                      have h2 : 1 ≤ wordsO z.2 := by unfold wordsO; omega
                      simp
                      omega)
                    have HNO := Lib.hid hno
                    have HII := Lib.hid hii
                    clear hno hfo hii hv1
                    obtain ⟨y0, y1⟩ := cells2 u1
                    have f0 := free_at u1 (i := 0)
                    have f1 := free_at u1 (i := 1)
                    go_wp2
                    refine post_fill2 u1 fun W9 k9 hT hS9 => ?_
                    obtain ⟨y0, y1⟩ := cells2 k9
                    refine bodyPost_ret (v := zeroPV) (by simp [results, Try.results29, go_sem, y0, y1, zeroPV]) rfl ?_
                    rw [HNO.out]
                    exact ⟨rfl, Turn.after HX8.out hT (by simp)⟩
                  · have b2 : decide ((S.length : Int) ≤ av - (first : Int)) = false := decide_eq_false c2
                    have hil : ii ≤ S.length := by omega
                    obtain ⟨g4, eg4, _, hbc, _⟩ := HOB8.out.cell (begs_at hil) (f := 0) (u := .bool (L.any fun x => x.1 == ii)) rfl
                    obtain ⟨rfl, _⟩ := Addr.mk.inj (Option.some.inj eg4)
                    rw [Nat.mul_one, Nat.add_zero] at hbc
                    have j1 : (0 : Int) ≤ av - (first : Int) := by omega
                    have j2 : av - (first : Int) < (S.length : Int) + 1 := by omega
                    have j3 : (av - (first : Int)).toNat = ii := by omega
                    generalize (L.any fun x => x.1 == ii) = bb at hfo hbc
                    have HII := Lib.hid hii
                    have HFO := Lib.hid hfo
                    clear hii hv1 hfo eg4
                    cases bb with
                    | false =>
                      have HNO := Lib.hid (hno1.out HFO.out)
                      obtain ⟨y0, y1⟩ := cells2 u1
                      have f0 := free_at u1 (i := 0)
                      have f1 := free_at u1 (i := 1)
                      go_wp2
                      refine post_fill2 u1 fun W9 k9 hT hS9 => ?_
                      obtain ⟨y0, y1⟩ := cells2 k9
                      refine bodyPost_ret (v := zeroPV) (by simp [results, Try.results29, go_sem, y0, y1, zeroPV]) rfl ?_
                      rw [HNO.out]
                      exact ⟨rfl, Turn.after HX8.out hT (by simp)⟩
                    | true =>
                      have HST := Lib.hid (hok1.out HFO.out)
                      go_wp2
                      exact ⟨⟨t + 1, by omega, by go_num, HST.out, HXJ8.out⟩, by simp [Go.RowKit.intOf]; omega⟩
            · obtain rfl : t = o.fields.length := by omega
              have i3 : ¬ (o.fields.length : Int) < (o.fields.length : Int) := by omega
              have hst : (L.take (j + 1)).all (fun x => x.2.fields.all (fieldOK (L.map (·.1)) first)) = true := by
                obtain ⟨h1, h2⟩ := List.getElem?_eq_some_iff.1 HXO.out
                have h3 := HFA.out
                rw [List.take_length] at h3
                rw [List.take_succ_eq_append_getElem h1, List.all_append, HAL.out, h2]
                simp only [List.all_cons, List.all_nil, h3, Bool.and_true]
              have HST := Lib.hid hst
              clear hst
              go_wp2
              exact ⟨⟨j + 1, by omega, by go_num, HST.out, HX5.out.trans HXT.out⟩, by simp [Go.RowKit.intOf]; omega⟩
        · obtain rfl : j = L.length := by omega
          have i2 : ¬ (L.length : Int) < (L.length : Int) := by omega
          have hal := HAL.out
          rw [List.take_length] at hal
          have hall : allS first S = some L := by
            unfold allS
            rw [HOBJ.out]
            dsimp only
            exact if_pos hal
          have HALL := Lib.hid hall
          have hpls : ∀ x ∈ L, x.1 < 4000 := fun x hx => by have := HLT.out x hx; omega
          have HPLS := Lib.hid hpls
          have hm0 : OwnP wr (bg + 1) 3 (.slice qv L.length cv) 1 (mixC first L 0) := by
            rw [mixC_zero]; exact HOVJ.out
          have HM0 := Lib.hid hm0
          have HXK := Lib.hid (HX.out.trans HXJ.out)
          have hbsk : bg < wr.heap.size := by have := HXJ.out.size; omega
          have hwk : w.heap.size ≤ bg := by omega
          clear hal hall hpls hm0 hfl1 hfl2 HAL HXJ
          generalize wr = wk at *
          go_wp2_with fail
          clear z0 z1
          go_loopw [14] (fun i wr => ∃ k : Nat, k ≤ L.length ∧ i = .int .i64 k ∧ OwnP wr (bg + 1) 3 (.slice qv L.length cv) 1 (mixC first L k) ∧ Below (bg + 1) wk wr) (fun i _ => L.length - (Go.RowKit.intOf i).toNat)
          case atStart => exact ⟨0, Nat.zero_le _, rfl, HM0.out, Below.refl _ _⟩
          case round =>
            obtain ⟨k, hk, rfl, hown, hb⟩ := hrel
            have HOW := Lib.hid hown
            have HB := Lib.hid hb
            have m0 := (Below.block hb w.heap.size (by omega)).trans l0
            have m1 := (Below.block hb (w.heap.size + 1) (by omega)).trans l1
            have m3 := (Below.block hb pb (by omega)).trans l3
            obtain ⟨z0, z1⟩ := cells2 m3
            by_cases hkl : k < L.length
            · obtain ⟨x, hx⟩ : ∃ x, L[k]? = some x := ⟨_, List.getElem?_eq_getElem hkl⟩
              have hxp := HPLS.out x (List.mem_of_getElem? hx)
              have hrow : (mixC first L k)[k]? = some [.int .i64 (x.1 : Int)] := mixC_at hx
              obtain ⟨g5, eg5, hgb, y0, f0⟩ := hown.cell hrow (f := 0) rfl
              subst eg5
              rw [Nat.mul_one, Nat.add_zero] at y0 f0
              have hst := hown.store (f := 0) hrow (by omega) (u := .int .i64 ((x.1 : Int) + (first : Int))) rfl
              have HST := Lib.hid (show OwnP (wr.setCell ⟨g5, k, none⟩ (.int .i64 ((x.1 : Int) + (first : Int)))) (bg + 1) 3 (.slice (some ⟨g5, 0, none⟩) L.length cv) 1 (mixC first L (k + 1)) by
                rw [mixC_step hx]
                rw [Nat.mul_one, Nat.add_zero] at hst
                exact hst)
              have HB9 := Lib.hid (show Below (bg + 1) wk (wr.setCell ⟨g5, k, none⟩ (.int .i64 ((x.1 : Int) + (first : Int)))) from Below.setCell hb hgb _)
              obtain ⟨x0, x1, x2, x3⟩ := cells4 m0
              have i3 : (k : Int) < (L.length : Int) := by omega
              have hm := HM.out
              have hadd : IntKind.i64.wrap ((x.1 : Int) + (first : Int)) = (x.1 : Int) + (first : Int) := IntWalk.i64_in _ (by omega)
              clear hx hown hb hrow hst m0 m1 m3 l0 l1 l3 z1 x0 x3 hgb
              go_upto_region 28 with fail
              refine wp_region_noPanic ?_
              refine wp_region_last 12 (S := (fun w' => w'.cell? ⟨pb, 0, none⟩ = some (.slice (some ⟨g5, 0, none⟩) L.length cv) ∧ w'.cell? ⟨g5, k, none⟩ = some (.int .i64 (x.1 : Int)) ∧ w'.frozen? ⟨g5, k, none⟩ = false ∧ w'.cell? ⟨w.heap.size, 1, none⟩ = some (.int .i64 h.half) ∧ w'.cell? ⟨w.heap.size, 2, none⟩ = some (.int .i64 h.space))) (by kernel_rfl) (by kernel_rfl) _ rfl ?_ (fun hHeld => ?_)
              · (exact ⟨(Ext.drew _).cell z0, (Ext.drew _).cell y0, ((Ext.drew _).frozen y0).trans f0, (Ext.drew _).cell x1, (Ext.drew _).cell x2⟩)
              simp only [List.take_succ_cons, List.take_zero]
              refine wpAnyH_take (i := 0) (v := ?v1) rfl (by kernel_rfl) (by kernel_rfl) (by kernel_rfl) (fun _ _ _ h => h) (Or.inl ⟨by rfl, ?y1⟩) (by assumption) ?r1
              case y1 => intro w hSw; (try dsimp only at hSw); go_simp; (try with_reducible rfl)
              (try simp only [Act.put, List.setIfInBounds_toArray, List.set_cons_zero, List.set_cons_succ, List.getElem_toArray, List.getElem_cons_zero, List.getElem_cons_succ])
              refine wpAnyH_take (i := 1) (v := ?v2) rfl (by kernel_rfl) (by kernel_rfl) (by kernel_rfl) (fun _ _ _ h => h) (Or.inl ⟨by rfl, ?y2⟩) (by assumption) ?r2
              case y2 => intro w hSw; (try dsimp only at hSw); go_simp; (try with_reducible rfl)
              (try simp only [Act.put, List.setIfInBounds_toArray, List.set_cons_zero, List.set_cons_succ, List.getElem_toArray, List.getElem_cons_zero, List.getElem_cons_succ])
              refine wpAnyH_take (i := 2) (v := ?v3) rfl (by kernel_rfl) (by kernel_rfl) (by kernel_rfl) (fun _ _ _ h => h) (Or.inl ⟨by rfl, ?y3⟩) (by assumption) ?r3
              case y3 => intro w hSw; (try dsimp only at hSw); go_simp; (try with_reducible rfl)
              (try simp only [Act.put, List.setIfInBounds_toArray, List.set_cons_zero, List.set_cons_succ, List.getElem_toArray, List.getElem_cons_zero, List.getElem_cons_succ])
              refine wpAnyH_take (i := 3) (v := ?v4) rfl (by kernel_rfl) (by kernel_rfl) (by kernel_rfl) (fun _ _ _ h => h) (Or.inl ⟨by rfl, ?y4⟩) (by assumption) ?r4
              case y4 => intro w hSw; (try dsimp only at hSw); go_simp; (try with_reducible rfl)
              (try simp only [Act.put, List.setIfInBounds_toArray, List.set_cons_zero, List.set_cons_succ, List.getElem_toArray, List.getElem_cons_zero, List.getElem_cons_succ])
              refine wpAnyH_take (i := 4) (v := ?v5) rfl (by kernel_rfl) (by kernel_rfl) (by kernel_rfl) (fun _ _ _ h => h) (Or.inl ⟨by rfl, ?y5⟩) (by assumption) ?r5
              case y5 => intro w hSw; (try dsimp only at hSw); go_simp; (try with_reducible rfl)
              (try simp only [Act.put, List.setIfInBounds_toArray, List.set_cons_zero, List.set_cons_succ, List.getElem_toArray, List.getElem_cons_zero, List.getElem_cons_succ])
              refine wpAnyH_take (i := 5) (v := ?v6) rfl (by kernel_rfl) (by kernel_rfl) (by kernel_rfl) (fun _ _ _ h => h) (Or.inl ⟨by rfl, ?y6⟩) (by assumption) ?r6
              case y6 => intro w hSw; (try dsimp only at hSw); go_simp; (try with_reducible rfl)
              (try simp only [Act.put, List.setIfInBounds_toArray, List.set_cons_zero, List.set_cons_succ, List.getElem_toArray, List.getElem_cons_zero, List.getElem_cons_succ])
              refine wpAnyH_take (i := 6) (v := ?v7) rfl (by kernel_rfl) (by kernel_rfl) (by kernel_rfl) (fun _ _ _ h => h) (Or.inl ⟨by rfl, ?y7⟩) (by assumption) ?r7
              case y7 => intro w hSw; (try dsimp only at hSw); go_simp; (try with_reducible rfl)
              (try simp only [Act.put, List.setIfInBounds_toArray, List.set_cons_zero, List.set_cons_succ, List.getElem_toArray, List.getElem_cons_zero, List.getElem_cons_succ])
              refine wpAnyH_take (i := 7) (v := ?v8) rfl (by kernel_rfl) (by kernel_rfl) (by kernel_rfl) (fun _ _ _ h => h) (Or.inl ⟨by rfl, ?y8⟩) (by assumption) ?r8
              case y8 => intro w hSw; (try dsimp only at hSw); go_simp; (try with_reducible rfl)
              (try simp only [Act.put, List.setIfInBounds_toArray, List.set_cons_zero, List.set_cons_succ, List.getElem_toArray, List.getElem_cons_zero, List.getElem_cons_succ])
              refine wpAnyH_take (i := 8) (v := ?v9) rfl (by kernel_rfl) (by kernel_rfl) (by kernel_rfl) (fun _ _ _ h => h) (Or.inl ⟨by rfl, ?y9⟩) (by assumption) ?r9
              case y9 => intro w hSw; (try dsimp only at hSw); go_simp; (try with_reducible rfl)
              (try simp only [Act.put, List.setIfInBounds_toArray, List.set_cons_zero, List.set_cons_succ, List.getElem_toArray, List.getElem_cons_zero, List.getElem_cons_succ])
              refine wpAnyH_take (i := 9) (v := ?v10) rfl (by kernel_rfl) (by kernel_rfl) (by kernel_rfl) (fun _ _ _ h => h) (Or.inl ⟨by rfl, ?y10⟩) (by assumption) ?r10
              case y10 => intro w hSw; (try dsimp only at hSw); go_simp; (try with_reducible rfl)
              (try simp only [Act.put, List.setIfInBounds_toArray, List.set_cons_zero, List.set_cons_succ, List.getElem_toArray, List.getElem_cons_zero, List.getElem_cons_succ])
              refine wpAnyH_take (i := 10) (v := ?v11) rfl (by kernel_rfl) (by kernel_rfl) (by kernel_rfl) (fun _ _ _ h => h) (Or.inl ⟨by rfl, ?y11⟩) (by assumption) ?r11
              case y11 => intro w hSw; (try dsimp only at hSw); go_simp; (try with_reducible rfl)
              (try simp only [Act.put, List.setIfInBounds_toArray, List.set_cons_zero, List.set_cons_succ, List.getElem_toArray, List.getElem_cons_zero, List.getElem_cons_succ])
              refine wpAnyH_take (i := 11) (v := ?v12) rfl (by kernel_rfl) (by kernel_rfl) (by kernel_rfl) (fun _ _ _ h => h) (Or.inl ⟨by rfl, ?y12⟩) (by assumption) ?r12
              case y12 => intro w hSw; (try dsimp only at hSw); go_simp; (try with_reducible rfl)
              (try simp only [Act.put, List.setIfInBounds_toArray, List.set_cons_zero, List.set_cons_succ, List.getElem_toArray, List.getElem_cons_zero, List.getElem_cons_succ])
              refine wpAnyH_done (by kernel_rfl) ?_ _
              show wpList _ _ _ _ _ _
              go_wp2
              refine NoPanic.normal ?_
              go_wp2
              exact ⟨⟨k + 1, by omega, by go_num, HST.out.ext (Ext.drew _), Below.drew HB9.out⟩, by simp [Go.RowKit.intOf]; omega⟩
            · obtain rfl : k = L.length := by omega
              have i3 : ¬ (L.length : Int) < (L.length : Int) := by omega
              have hown := HOW.out
              rw [mixC_all] at hown
              have HOE := Lib.hid hown
              clear hown HOW
              obtain ⟨y0, y1⟩ := cells2 m1
              have f0 := free_at m1 (i := 0)
              have f1 := free_at m1 (i := 1)
              go_wp2
              refine post_fill2 m1 fun W9 k9 hT hS9 => ?_
              obtain ⟨y0, y1⟩ := cells2 k9
              refine bodyPost_ret (v := .agg #[.slice qv L.length cv, .bool true]) (by simp [results, Try.results29, go_sem, y0, y1]) rfl ?_
              rw [HALL.out]
              refine ⟨qv, cv, rfl, (HOE.out.turn hT (fun b hb hm => by have := (HOE.out.own b hb).1; rw [List.mem_singleton.1 hm] at this; omega)).mono (by omega), ?_⟩
              exact Turn.after (HXK.out.go HB.out (by omega)) hT (by simp)
end Go.Proofs.Ytinakendlpomnaa
/- A heap's functions (the reference's): All, Is. -/
namespace Go.Proofs.Ytinakendlpomnaa
open Go.RowKit Go.Maps Arena
set_option maxHeartbeats 4000000
set_option maxRecDepth 100000
theorem rall_is {w : World} {q gq B n : Nat} {ws : List Int} {vR : Value} {R : List (Nat × Nat)} (H : RefAt w q gq B n ws vR R) (h : Hp) (hW : ∀ x ∈ ws, W64 x) :
    Calls Try.prog 29 #[.pointer (some ⟨q, 0, none⟩), .agg #[.int .i64 h.base, .int .i64 h.half, .int .i64 h.space, .int .i64 h.top]] w (RAllSaid (allH ws R h) (firstN h) w) := by
  unfold allH
  cases ht : thereB R h with
  | false => exact rall_no H h ht
  | true => rw [if_pos rfl]; exact rall_yes H h hW ht
theorem RAllSaid.open {r : Option (List (Nat × Ob))} {first : Nat} {w : World} {e : Ending} {w' : World} (h : RAllSaid r first w e w') : ∃ (q : Option Addr) (l c : Nat), e = .returned (.agg #[.slice q l c, .bool r.isSome]) ∧ Ext w w' ∧ (r = none → q = none ∧ l = 0 ∧ c = 0) ∧
    ∀ L, r = some L → l = L.length ∧ OwnP w' w.heap.size 3 (.slice q L.length c) 1 (L.map (plC first)) := by
  cases r with
  | none => exact ⟨none, 0, 0, h.1, h.2, fun _ => ⟨rfl, rfl, rfl⟩, fun L h => by cases h⟩
  | some L =>
    obtain ⟨q, c, h1, h2, h3⟩ := h
    exact ⟨q, L.length, c, h1, h3, (fun h => by cases h), fun L' e => by obtain rfl := Option.some.inj e; exact ⟨rfl, h2⟩⟩
theorem ris_is {q : Option Addr} {c first : Nat} {L : List (Nat × Ob)} {ok : Bool} {x : Int} (hx : W64 x) (w : World) (hR : RowsP w (.slice q L.length c) 1 (L.map (plC first))) (hl : L.length ≤ 100000) :
    Calls Try.prog 30 #[.agg #[.slice q L.length c, .bool ok], .int .u64 x] w fun e w' => e = .returned (.bool (fieldOK (L.map (·.1)) first x)) ∧ Ext w w' := by
  have HI := Lib.hid (fun W => refIsInt_is hx W)
  have HA := Lib.hid (fun W => refAt_is hx W)
  cases hi : isIntW x with
  | true =>
    have hr : fieldOK (L.map (·.1)) first x = true := by unfold fieldOK; rw [hi]; rfl
    rw [hr]
    rw [hi] at HI
    clear hi hr HA hR
    go_enter Try.func30, Try.ntmps30
    go_wp2_with fail
    refine (HI.out _).mono ?_
    rintro e w1 ⟨rfl, rfl⟩
    go_wp2
    go_ret
    exact ⟨rfl, Ext.alloc _ _⟩
  | false =>
    rw [hi] at HI HA
    obtain ⟨av, hav⟩ : ∃ av : Int, av = if false = true ∨ 4294967296 ≤ x / 2 then -1 else x / 2 := ⟨_, rfl⟩
    rw [← hav] at HA
    have hfo : fieldOK (L.map (·.1)) first x = L.any fun y => decide (((first + y.1 : Nat) : Int) = av) := by
      unfold fieldOK
      rw [hi, List.any_map]
      by_cases hb : 4294967296 ≤ x / 2
      · rw [if_pos (.inr hb)] at hav
        rw [decide_eq_false (by omega), hav]
        simp only [Bool.false_or, Bool.false_and]
        symm
        refine List.any_eq_false.2 fun z _ => ?_
        simp
        omega
      · rw [if_neg (by simp; omega)] at hav
        rw [decide_eq_true (by omega), hav]
        rfl
    rw [hfo]
    obtain ⟨rs, hrs⟩ : ∃ rs, rs = L.any fun y => decide (((first + y.1 : Nat) : Int) = av) := ⟨_, rfl⟩
    rw [← hrs]
    have HRS := Lib.hid hrs
    clear hrs
    have HR := Lib.hid (fun W (e : Ext w W) => hR.ext e)
    have ha2 : -1 ≤ av ∧ av ≤ 4294967296 := by have := hx.1; have := hx.2; rw [hav]; split <;> rename_i hh <;> simp at hh <;> omega
    obtain ⟨ha3, ha4⟩ := ha2
    clear hav hfo hi hR hx
    go_enter Try.func30, Try.ntmps30
    go_wp2_with fail
    refine at_alloc1 fun W hE hS b0 => ?_
    obtain ⟨z0, z1⟩ := cells2 b0
    refine (HI.out _).mono ?_
    rintro e w1 ⟨rfl, rfl⟩
    go_wp2_with fail
    refine (HA.out _).mono ?_
    rintro e w1 ⟨rfl, rfl⟩
    go_wp2_with fail
    have HE := Lib.hid hE
    clear hS b0 hE
    go_loop [6] (fun i => ∃ k : Nat, k ≤ L.length ∧ i = .int .i64 k ∧ Hid ((L.take k).any (fun y => decide (((first + y.1 : Nat) : Int) = av)) = false)) (fun i => L.length - (Go.RowKit.intOf i).toNat)
    case atStart => exact ⟨0, Nat.zero_le _, rfl, Lib.hid rfl⟩
    case round =>
      obtain ⟨k, hk, rfl, HNO⟩ := hrel
      by_cases hkl : k < L.length
      · obtain ⟨y, hy⟩ : ∃ y, L[k]? = some y := ⟨_, List.getElem?_eq_getElem hkl⟩
        obtain ⟨q2, c2, hv2, _, _, hcell⟩ := (HR.out W HE.out).at
        obtain ⟨gb, go, hq, hc⟩ := hcell k (plC first y) (by rw [List.getElem?_map, hy]; rfl)
        obtain ⟨hq1, -, -⟩ := Value.slice.inj hv2
        rw [hq] at hq1
        subst hq1
        have hc0 := hc 0 _ rfl
        rw [Nat.mul_one, Nat.add_zero] at hc0
        obtain ⟨pv, hpv⟩ : ∃ pv : Int, pv = ((first + y.1 : Nat) : Int) := ⟨_, rfl⟩
        rw [← hpv] at hc0
        have i1 : (k : Int) < (L.length : Int) := by omega
        have HY := Lib.hid hy; have HPV := Lib.hid hpv
        clear hy hcell hc hv2 hpv
        by_cases he : pv = av
        · have e1 : (pv == av) = true := by simp [he]
          have hyes : (L.any fun y => decide (((first + y.1 : Nat) : Int) = av)) = true := List.any_eq_true.2 ⟨y, List.mem_of_getElem? HY.out, by rw [← HPV.out, he]; simp⟩
          have HYES := Lib.hid hyes
          clear he hyes
          go_wp2
          go_ret
          rw [HRS.out, HYES.out]
          exact ⟨rfl, HE.out⟩
        · have e1 : (pv == av) = false := beq_false_of_ne he
          have hst : (L.take (k + 1)).any (fun y => decide (((first + y.1 : Nat) : Int) = av)) = false := by
            obtain ⟨h1, h2⟩ := List.getElem?_eq_some_iff.1 HY.out
            rw [List.take_succ_eq_append_getElem h1, List.any_append, HNO.out, h2]
            simp only [List.any_cons, List.any_nil, Bool.or_false, Bool.false_or]
            rw [← HPV.out]
            exact decide_eq_false he
          have HST := Lib.hid hst
          clear he hst
          go_wp2
          go_round
          case rel => exact ⟨k + 1, by omega, by go_num, HST.out⟩
          case measure => simp [Go.RowKit.intOf]; omega
      · obtain rfl : k = L.length := by omega
        have i1 : ¬ (L.length : Int) < (L.length : Int) := by omega
        have hno := HNO.out
        rw [List.take_length] at hno
        have HN2 := Lib.hid hno
        clear hno
        go_wp2
        go_ret
        rw [HRS.out, HN2.out]
        exact ⟨rfl, HE.out⟩
end Go.Proofs.Ytinakendlpomnaa
/- A heap's functions (the reference's): Get. -/
namespace Go.Proofs.Ytinakendlpomnaa
open Go.RowKit Go.Maps Arena
set_option maxHeartbeats 4000000
set_option maxRecDepth 100000
theorem getL_field {first : Nat} {L : List (Nat × Ob)} {x : Int} (hi : isIntW x = false) : (getL first L x).isSome = fieldOK (L.map (·.1)) first x := by
  unfold getL fieldOK
  rw [hi, List.any_map]
  by_cases hb : 4294967296 ≤ x / 2
  · rw [if_pos (.inr hb), decide_eq_false (by omega)]; rfl
  · rw [if_neg (by simp; omega), decide_eq_true (by omega), Bool.eq_iff_iff, List.find?_isSome]
    simp
theorem places_len {L : List (Nat × Ob)} (h : L.Pairwise (fun x y => x.1 < y.1)) {n : Nat} (hn : ∀ z ∈ L, z.1 < n) : L.length ≤ n := by
  have key : ∀ (L : List (Nat × Ob)) (b : Nat), L.Pairwise (fun x y => x.1 < y.1) → (∀ z ∈ L, b ≤ z.1 ∧ z.1 < n) → L.length + b ≤ n ∨ L = [] := by
    intro L
    induction L with
    | nil => intro b _ _; exact .inr rfl
    | cons a L ih =>
      intro b hp hb
      obtain ⟨h1, h2⟩ := List.pairwise_cons.1 hp
      have ha := hb a (.head _)
      rcases ih (a.1 + 1) h2 (fun z hz => ⟨h1 z hz, (hb z (.tail _ hz)).2⟩) with h3 | h3
      · left; rw [List.length_cons]; omega
      · subst h3; left; simp; omega
  rcases key L 0 h (fun z hz => ⟨Nat.zero_le _, hn z hz⟩) with h1 | h1
  · omega
  · subst h1; simp
theorem allH_len {n : Nat} {ws : List Int} {R : List (Nat × Nat)} {h : Hp} (hg : Arena.Good n R) (hl : ws.length = n) {L : List (Nat × Ob)} (hL : allH ws R h = some L) : L.length ≤ 2000 := by
  obtain ⟨ht, hS⟩ := allH_there hL
  have hobj := (allS_some hS).1
  have h2 := objs_fit hobj
  have h3 := semi_len hg hl ht
  have hok := (thereB_ok ht).1
  obtain ⟨_, a2, _, _, a5, a6⟩ := hok
  have h5 : ∀ z ∈ L, z.1 < (semi ws R h).length := by
    intro z hz
    have := h2 z hz
    have h6 : 1 ≤ wordsO z.2 := by unfold wordsO; omega
    omega
  have h4 := places_len (objs_places hobj) h5
  omega
end Go.Proofs.Ytinakendlpomnaa
/- A heap's functions (the reference's): Get, where there is an object. -/
namespace Go.Proofs.Ytinakendlpomnaa
open Go.RowKit Go.Maps Arena
set_option maxHeartbeats 4000000
set_option maxRecDepth 100000
theorem words_rows {w : World} {q gq B n : Nat} {ws : List Int} {vR : Value} {R : List (Nat × Nat)} (H : RefAt w q gq B n ws vR R) {i : Nat} (hi : i < R.length) {m : Nat} (hm : m ≤ R[i].2) :
    RowsP w (.slice (some ⟨gq, R[i].1, none⟩) m (n - R[i].1)) 1 (((wordsAt ws R R[i].1).take m).map wordC) := by
  have hbr := H.good.2 R[i] (List.getElem_mem hi)
  have hn := H.least
  have hlr := lenAt_mem H.good (List.getElem_mem hi)
  have hwl := wordsAt_len H.good H.len (R[i].1 : Int)
  have hl : ((wordsAt ws R R[i].1).take m).length = m := by rw [List.length_take, hwl, hlr]; omega
  refine ⟨wordC_rows _, .inr ⟨gq, R[i].1, n - R[i].1, by rw [List.length_map, hl], by rw [List.length_map, hl]; omega, by unfold maxLen; omega, fun j u hu => ?_⟩⟩
  rw [wordC_flat, List.getElem?_map] at hu
  obtain ⟨x, hx, rfl⟩ := Option.map_eq_some_iff.1 hu
  have hjl := (List.getElem?_eq_some_iff.1 hx).1
  rw [hl] at hjl
  rw [List.getElem?_take_of_lt hjl] at hx
  unfold wordsAt at hx
  rw [hlr, List.getElem?_take_of_lt (by omega), List.getElem?_drop] at hx
  rw [(H.word (i := R[i].1 + j) (by omega)).1, List.getD_eq_getElem?_getD]
  have e : ((R[i].1 : Nat) : Int).toNat = R[i].1 := Int.toNat_natCast _
  rw [e] at hx
  rw [hx]
  rfl
end Go.Proofs.Ytinakendlpomnaa
/- A heap's functions (the reference's): Set. -/
namespace Go.Proofs.Ytinakendlpomnaa
open Go.RowKit Go.Maps Arena
set_option maxHeartbeats 4000000
set_option maxRecDepth 100000
end Go.Proofs.Ytinakendlpomnaa
/- A heap's functions (the reference's): Put. -/
namespace Go.Proofs.Ytinakendlpomnaa
open Go.RowKit Go.Maps Arena
set_option maxHeartbeats 4000000
set_option maxRecDepth 100000
theorem blocks3w {P : Program} {c : Code} {Q : Exit → Act → World → Prop} {a : Act} {w : World} {o0 o1 o2 : Obj} (h : ∀ W : World, Ext w W → W.heap.size = w.heap.size + 1 + 1 + 1 → W.heap[w.heap.size]? = some o0 → W.heap[w.heap.size + 1]? = some o1 → W.heap[w.heap.size + 1 + 1]? = some o2 → Code.wp P c Q a W) : Code.wp P c Q a (((w.alloc o0).alloc o1).alloc o2) := by
  obtain ⟨e, s, b0, b1, b2⟩ := blocks3 w o0 o1 o2
  exact h _ e s b0 b1 b2
theorem RefAt.turn_new {w W W' : World} {q gq B n : Nat} {ws ws' : List Int} {vR : Value} {R : List (Nat × Nat)} {bs : List Nat} (H : RefAt W q gq B n ws' vR R) (H0 : RefAt w q gq B n ws vR R) (t : Turn bs W W') (hb : ∀ b ∈ bs, w.heap.size ≤ b) : RefAt W' q gq B n ws' vR R := by
  obtain ⟨lq, lg⟩ := H.lt
  obtain ⟨l0, l1⟩ := H0.lt
  refine ⟨by rw [t.block q lq (fun h => by have := hb q h; omega)]; exact H.row, by rw [t.block gq lg (fun h => by have := hb gq h; omega)]; exact H.words, H.len, ?_, H.good, H.ne, H.qB, H.gB, H.least⟩
  obtain ⟨h1, h2⟩ := H.regs
  refine ⟨h1, ?_⟩
  rcases h2 with h2 | ⟨g, cap, cur, e1, e2, e3, e4⟩
  · exact .inl h2
  · refine .inr ⟨g, cap, cur, e1, e2, ?_, e4⟩
    have hg : g < w.heap.size := by
      rcases H0.regs.2 with ⟨f1, _⟩ | ⟨g', cap', cur', f1, _, f3, _⟩
      · rw [f1] at e1; cases e1
      · rw [f1] at e1
        obtain ⟨e5, _, _⟩ := Value.slice.inj e1
        obtain ⟨rfl, _⟩ := Addr.mk.inj (Option.some.inj e5)
        exact (Array.getElem?_eq_some_iff.1 f3).1
    rw [t.block g (Array.getElem?_eq_some_iff.1 e3).1 (fun h => by have := hb g h; omega)]
    exact e3
theorem post_fill6 {P : Program} {f : Func} {Q : Ending → World → Prop} {x : Exit} {a : Act} {w : World} {b : Nat} {x0 x1 x2 x3 x4 x5 y0 y1 y2 y3 y4 y5 : Value} {T : TypeId} (h0 : w.heap[b]? = some (.cells #[x0, x1, x2, x3, x4, x5] T (0, 0)))
    (h : ∀ W : World, W.heap[b]? = some (.cells #[y0, y1, y2, y3, y4, y5] T (0, 0)) → Turn [b] w W → W.heap.size = w.heap.size → bodyPost P f Q x a W) : bodyPost P f Q x a ((((((w.setCell ⟨b, 0, none⟩ y0).setCell ⟨b, 1, none⟩ y1).setCell ⟨b, 2, none⟩ y2).setCell ⟨b, 3, none⟩ y3).setCell ⟨b, 4, none⟩ y4).setCell ⟨b, 5, none⟩ y5) :=
  h _ (fill6 h0 _ _ _ _ _ _).1 (fill6 h0 _ _ _ _ _ _).2.1 (fill6 h0 _ _ _ _ _ _).2.2
/-- a done put's value -/
def doneV (h : Hp) (x : Int) (ok : Bool) : Value := .agg #[.int .i64 h.base, .int .i64 h.half, .int .i64 h.space, .int .i64 h.top, .int .u64 x, .bool ok]
def RPutSaid (ws : List Int) (R : List (Nat × Nat)) (q gq B n : Nat) (vR : Value) (h : Hp) (o : Ob) (w : World) (e : Ending) (w' : World) : Prop :=
  e = .returned (if putB ws R h o then doneV (hpUp h o) ((2 * topN h : Nat) : Int) true else doneV ⟨0, 0, 0, 0⟩ 0 false) ∧ RefAt w' q gq B n (if putB ws R h o then putWs ws R h o else ws) vR R ∧ Turn [gq] w w'
theorem rput_no {ws : List Int} {R : List (Nat × Nat)} {q gq B n : Nat} {vR : Value} {h : Hp} {o : Ob} {w : World} {e : Ending} {w' : World} (hb : putB ws R h o = false) (H : RefAt w q gq B n ws vR R) (he : e = .returned (doneV ⟨0, 0, 0, 0⟩ 0 false)) (hx : Ext w w') : RPutSaid ws R q gq B n vR h o w e w' := by
  unfold RPutSaid
  rw [hb]
  exact ⟨he, H.ext hx, Turn.of_ext hx⟩
end Go.Proofs.Ytinakendlpomnaa
/- keep.Ints, keep.Object, LongObject. -/
namespace Go.Proofs.Ytinakendlpomnaa
open Go.RowKit Go.Maps
set_option maxHeartbeats 2000000
set_option maxRecDepth 100000
theorem info_i64 : (Try.prog.info? 3).map (fun i => (i.zero, i.size, i.bytes)) = some (some (.int .i64 0), 1, 8) := by kernel_rfl
/-- a slice that reads as words, wherever it lies -/
def NumSl (w : World) (v : Value) (l : List Int) : Prop := ∃ q c, v = .slice q l.length c ∧ l.length ≤ c ∧ c ≤ maxLen ∧ ∀ (i : Nat) (x : Int), l[i]? = some x → ∃ b off, q = some ⟨b, off, none⟩ ∧ w.cell? ⟨b, off + i, none⟩ = some (.int .i64 x)
theorem NumSl.ext {w w' : World} {v : Value} {l : List Int} (h : NumSl w v l) (e : Ext w w') : NumSl w' v l := by
  obtain ⟨q, c, hv, h1, h2, hc⟩ := h
  exact ⟨q, c, hv, h1, h2, fun i x hx => by obtain ⟨b, off, hq, hcc⟩ := hc i x hx; exact ⟨b, off, hq, e.cell hcc⟩⟩
theorem NumSl.of_row {w : World} {base : Nat} {v : Value} {l : List Int} (h : w.ownsRow base 3 1 v l.length (l.map fun x => Value.int .i64 x)) : NumSl w v l := by
  rcases h.2 with ⟨h1, h2⟩ | ⟨g, cap, cur, h1, hb, hg, h2, h3, h4, h5⟩
  · refine ⟨none, 0, by rw [h1, h2], by omega, Nat.zero_le _, fun i x hx => ?_⟩
    have := (List.getElem?_eq_some_iff.1 hx).1
    omega
  · refine ⟨_, cap, h1, h2, h3, fun i x hx => ⟨g, 0, rfl, ?_⟩⟩
    subst h1
    have hi : i < l.length := (List.getElem?_eq_some_iff.1 hx).1
    rw [Nat.zero_add, World.ownsRow.cellAt h i (by omega), List.getElem?_map, hx]
    rfl
end Go.Proofs.Ytinakendlpomnaa
/- keep.Object, keep.OwnWords, keep.OwnObject. -/
namespace Go.Proofs.Ytinakendlpomnaa
open Go.RowKit Go.Maps
set_option maxHeartbeats 2000000
set_option maxRecDepth 100000
theorem bytes_inj {s t : ByteArray} (h : s.toList = t.toList) : s = t := by
  rw [ByteArray.toList_eq, ByteArray.toList_eq] at h
  obtain ⟨⟨l⟩⟩ := s; obtain ⟨⟨m⟩⟩ := t
  simp at h
  rw [h]
end Go.Proofs.Ytinakendlpomnaa
/- The two arenas side by side. -/
namespace Go.Proofs.Ytinakendlpomnaa
open Go.RowKit Go.Maps Arena
set_option maxHeartbeats 8000000
set_option maxRecDepth 100000
attribute [local go_sem ↓] Go.wp_at_zero Go.wp_at_succ
/-- the two arenas side by side, and how their blocks lie -/
structure Both (w0 w : World) (p g bm q gq B n : Nat) (ws : List Int) (R : List (Nat × Nat)) : Prop where
  a : ArenaAt w p g bm n ws R
  r : ∃ v, RefAt w q gq B n ws v R
  lt : p < q ∧ g < q ∧ bm < q ∧ p < gq ∧ g < gq ∧ bm < gq
  ge : w0.heap.size ≤ p ∧ w0.heap.size ≤ g ∧ w0.heap.size ≤ bm
  size : B ≤ w.heap.size
  ext : Ext w0 w
theorem Both.turnA {w0 w w' : World} {p g bm q gq B n : Nat} {ws : List Int} {R : List (Nat × Nat)} (h : Both w0 w p g bm q gq B n ws R) {bs : List Nat} (t : Turn bs w w') (hb : ∀ b ∈ bs, b = g ∨ b = bm) : (∃ v, RefAt w' q gq B n ws v R) ∧ B ≤ w'.heap.size ∧ Ext w0 w' := by
  obtain ⟨l1, l2, l3, l4, l5, l6⟩ := h.lt
  obtain ⟨g1, g2, g3⟩ := h.ge
  obtain ⟨v, hr⟩ := h.r
  refine ⟨⟨v, hr.turn t (fun hm => ?_) (fun hm => ?_) (fun b hm => ?_)⟩, Nat.le_trans h.size t.size, Below.trans h.ext (t.below h.ext.size fun b hm => ?_)⟩
  · rcases hb _ hm with h | h <;> omega
  · rcases hb _ hm with h | h <;> omega
  · have := hr.qB
    rcases hb b hm with h | h <;> omega
  · rcases hb b hm with h | h <;> omega
theorem Both.turnR {w0 w w' : World} {p g bm q gq B n : Nat} {ws : List Int} {R : List (Nat × Nat)} (h : Both w0 w p g bm q gq B n ws R) {bs : List Nat} (t : Turn bs w w') (hb : ∀ b ∈ bs, b = q ∨ b = gq) : ArenaAt w' p g bm n ws R ∧ B ≤ w'.heap.size ∧ Ext w0 w' := by
  obtain ⟨l1, l2, l3, l4, l5, l6⟩ := h.lt
  obtain ⟨g1, g2, g3⟩ := h.ge
  refine ⟨h.a.turn t (fun hm => ?_) (fun hm => ?_) (fun hm => ?_), Nat.le_trans h.size t.size, Below.trans h.ext (t.below h.ext.size fun b hm => ?_)⟩
  · rcases hb _ hm with h | h <;> omega
  · rcases hb _ hm with h | h <;> omega
  · rcases hb _ hm with h | h <;> omega
  · rcases hb b hm with h | h <;> omega
theorem Both.step {w0 w w' : World} {p g bm q gq B n : Nat} {ws : List Int} {R : List (Nat × Nat)} (h : Both w0 w p g bm q gq B n ws R) (e : Ext w w') : Both w0 w' p g bm q gq B n ws R := by
  obtain ⟨h1, h2, h3⟩ := h.turnA (Turn.of_ext (bs := []) e) (by simp)
  exact ⟨h.a.ext e, h1, h.lt, h.ge, h2, h3⟩
theorem Both.mk1 {w0 w w5 w6 : World} {p g bm q gq B n : Nat} {ws ws1 : List Int} {R R1 : List (Nat × Nat)} (h : Both w0 w p g bm q gq B n ws R) {bs cs : List Nat} (hA : ArenaAt w5 p g bm n ws1 R1) (t : Turn bs w w5) (hb : ∀ b ∈ bs, b = g ∨ b = bm)
    (hr : ∃ v, RefAt w6 q gq B n ws1 v R1) (u : Turn cs w5 w6) (hc : ∀ b ∈ cs, b = q ∨ b = gq) : Both w0 w6 p g bm q gq B n ws1 R1 := by
  obtain ⟨⟨v, hr5⟩, h2, h3⟩ := h.turnA t hb
  obtain ⟨l1, l2, l3, l4, l5, l6⟩ := h.lt
  obtain ⟨g1, g2, g3⟩ := h.ge
  refine ⟨hA.turn u (fun hm => ?_) (fun hm => ?_) (fun hm => ?_), hr, h.lt, h.ge, Nat.le_trans h2 u.size, Below.trans h3 (u.below h3.size fun b hm => ?_)⟩
  · rcases hc _ hm with h | h <;> omega
  · rcases hc _ hm with h | h <;> omega
  · rcases hc _ hm with h | h <;> omega
  · rcases hc b hm with h | h <;> omega
theorem Both.mk2 {w0 w w5 w6 : World} {p g bm q gq B n : Nat} {ws ws1 : List Int} {R R1 : List (Nat × Nat)} (h : Both w0 w p g bm q gq B n ws R) {bs cs : List Nat} (hr : ∃ v, RefAt w5 q gq B n ws1 v R1) (u : Turn cs w w5) (hc : ∀ b ∈ cs, b = q ∨ b = gq)
    (hA : ArenaAt w6 p g bm n ws1 R1) (t : Turn bs w5 w6) (hb : ∀ b ∈ bs, b = g ∨ b = bm) : Both w0 w6 p g bm q gq B n ws1 R1 := by
  obtain ⟨h1, h2, h3⟩ := h.turnR u hc
  obtain ⟨l1, l2, l3, l4, l5, l6⟩ := h.lt
  obtain ⟨g1, g2, g3⟩ := h.ge
  obtain ⟨v, hr⟩ := hr
  refine ⟨hA, ⟨v, hr.turn t (fun hm => ?_) (fun hm => ?_) (fun b hm => ?_)⟩, h.lt, h.ge, Nat.le_trans h2 t.size, Below.trans h3 (t.below h3.size fun b hm => ?_)⟩
  · rcases hb _ hm with h | h <;> omega
  · rcases hb _ hm with h | h <;> omega
  · have := hr.qB
    rcases hb b hm with h | h <;> omega
  · rcases hb b hm with h | h <;> omega
end Go.Proofs.Ytinakendlpomnaa
/- A region with given words: plain. -/
namespace Go.Proofs.Ytinakendlpomnaa
open Go.RowKit Go.Maps Arena
def rigR (m : Nat) : List (Nat × Nat) := [(0, 3), (3, m)]
def rigW (l : List Int) (j : Nat) : List Int := List.replicate 3 0 ++ (l.take j ++ List.replicate (l.length - j + 7) 0)
theorem setMany_zero (N k : Nat) : ∀ o, setMany (List.replicate N 0) o (List.replicate k 0) = List.replicate N 0 := by
  induction k with
  | zero => intro o; rfl
  | succ k ih =>
    intro o
    rw [List.replicate_succ, setMany, List.set_replicate_self]
    exact ih _
theorem rig_scan {m : Nat} (h : 1 ≤ m) : scan m 0 [(0, 3)] = 3 := by
  simp only [scan]
  rw [if_neg (by omega)]
theorem rig_ins (m : Nat) : ins (3, m) [(0, 3)] = rigR m := by simp [ins, rigR]
theorem rig_len (m : Nat) : lenAt (rigR m) 3 = m := by simp [lenAt, rigR]
theorem rig_len0 (m : Nat) : lenAt (rigR m) 0 = 3 := by simp [lenAt, rigR]
theorem rig_within {m j : Nat} (h : j < m) : within (rigR m) 3 j = true := by
  unfold within
  rw [rig_len]
  simp [h]
theorem rigW_zero (l : List Int) : rigW l 0 = List.replicate (l.length + 10) 0 := by
  unfold rigW
  rw [List.take_zero, List.nil_append, List.replicate_append_replicate]
  congr 1
  omega
theorem rigW_step {l : List Int} {m j : Nat} (hj : j < l.length) (hm : l.length ≤ m) : setWs (rigW l j) (rigR m) 3 j l[j] = rigW l (j + 1) := by
  unfold setWs
  rw [if_pos (rig_within (by omega))]
  unfold rigW
  rw [show ((3 : Int) + (j : Int)).toNat = 3 + j by omega]
  rw [List.set_append_right _ _ (by simp), List.length_replicate, show 3 + j - 3 = j by omega]
  rw [List.set_append_right _ _ (by simp; omega), List.length_take, Nat.min_eq_left (by omega), Nat.sub_self]
  rw [show l.length - j + 7 = (l.length - (j + 1) + 7) + 1 by omega, @List.replicate_succ _ _ (l.length - (j + 1) + 7), List.set_cons_zero, List.take_succ_eq_append_getElem hj, List.append_assoc]
  rfl
theorem rigW_wordsAt (l : List Int) : wordsAt (rigW l l.length) (rigR (max 1 l.length)) 3 = if l = [] then [0] else l := by
  unfold wordsAt rigW
  rw [rig_len]
  cases l with
  | nil => rfl
  | cons a l => simp
theorem rigW_len (l : List Int) (j : Nat) (hj : j ≤ l.length) : (rigW l j).length = l.length + 10 := by
  unfold rigW
  simp
  omega
theorem w64_zero : W64 0 := by unfold W64; omega
theorem rigW_mem {l : List Int} (h : ∀ x ∈ l, W64 x) (j : Nat) : ∀ x ∈ rigW l j, W64 x := by
  intro x hx
  unfold rigW at hx
  rw [List.mem_append, List.mem_append] at hx
  rcases hx with h1 | h1 | h1
  · rw [(List.mem_replicate.1 h1).2]; exact w64_zero
  · exact h x (List.mem_of_mem_take h1)
  · rw [(List.mem_replicate.1 h1).2]; exact w64_zero
end Go.Proofs.Ytinakendlpomnaa
/- What stays of a region's words while objects are put: plain. -/
namespace Go.Proofs.Ytinakendlpomnaa
open Go.RowKit Go.Maps Arena
set_option maxRecDepth 100000
theorem piece_64 (l : List UInt8) (j : Nat) : W64 (pieceN l j) := by
  unfold pieceN W64
  have h := pk_lt ((l.drop (8 * j)).take 8)
  have h8 : ((l.drop (8 * j)).take 8).length ≤ 8 := by rw [List.length_take]; omega
  have h2 : 256 ^ ((l.drop (8 * j)).take 8).length ≤ 256 ^ 8 := Nat.pow_le_pow_right (by omega) h8
  have e : (256 : Nat) ^ 8 = 18446744073709551616 := by decide
  constructor
  · omega
  · omega
theorem layO_64 {o : Ob} (hm : mayO o = true) (hF : ∀ x ∈ o.fields, W64 x) : ∀ x ∈ layO o, W64 x := by
  intro x hx
  unfold layO at hx
  rcases List.mem_cons.1 hx with rfl | hx
  · unfold mayO at hm
    obtain ⟨h1, h2, h3, h4, _, _, h5, _⟩ := mayK_bounds hm
    unfold headO headK W64
    omega
  · unfold bodyO at hx
    split at hx
    · unfold pieces at hx
      obtain ⟨j, _, rfl⟩ := List.mem_map.1 hx
      exact piece_64 _ _
    · exact hF x hx
theorem putB_may {ws : List Int} {R : List (Nat × Nat)} {h : Hp} {o : Ob} (hb : putB ws R h o = true) : mayO o = true := by
  cases hm : mayO o with
  | true => rfl
  | false =>
    unfold putB at hb
    split at hb
    · cases hb
    · simp [hm] at hb
theorem putWs_64 {ws : List Int} {R : List (Nat × Nat)} {h : Hp} {o : Ob} (hb : putB ws R h o = true) (hW : ∀ x ∈ ws, W64 x) (hF : ∀ x ∈ o.fields, W64 x) : ∀ x ∈ putWs ws R h o, W64 x := by
  intro x hx
  rcases setRun_mem hx with h1 | h1
  · exact hW x h1
  · exact layO_64 (putB_may hb) hF x h1
theorem wsOf_64 {ws : List Int} {R : List (Nat × Nat)} {ba : Int} {k : Option Int} {v : Int} (hW : ∀ x ∈ ws, W64 x) (hv : W64 v) : ∀ x ∈ wsOf ws R ba k v, W64 x := by
  intro x hx
  unfold wsOf at hx
  split at hx
  · exact hW x hx
  · rcases setWs_mem hx with h1 | rfl
    · exact hW x h1
    · exact hv
theorem setWs_take {ws : List Int} {R : List (Nat × Nat)} {a v : Int} : (setWs ws R 3 a v).take 3 = ws.take 3 := by
  unfold setWs
  split
  · rename_i hw
    unfold within at hw
    have hw := of_decide_eq_true hw
    rw [List.take_set_of_le (by omega)]
  · rfl
theorem setRun_take {R : List (Nat × Nat)} : ∀ (l ws : List Int) (k : Nat), (setRun ws R 3 k l).take 3 = ws.take 3 := by
  intro l
  induction l with
  | nil => intro ws k; rfl
  | cons v l ih => intro ws k; rw [setRun, ih, setWs_take]
theorem putWs_take {ws : List Int} {R : List (Nat × Nat)} {h : Hp} {o : Ob} (h3 : h.base = 3) : (putWs ws R h o).take 3 = ws.take 3 := by
  unfold putWs; rw [h3]; exact setRun_take _ _ _
theorem wsOf_take {ws : List Int} {R : List (Nat × Nat)} {ba : Int} {k : Option Int} {v : Int} (h3 : ba = 3) : (wsOf ws R ba k v).take 3 = ws.take 3 := by
  subst h3
  unfold wsOf
  split
  · rfl
  · exact setWs_take
theorem rigW_take (l : List Int) (j : Nat) : (rigW l j).take 3 = [0, 0, 0] := by
  unfold rigW
  rw [List.take_append_of_le_length (by simp)]
  rfl
end Go.Proofs.Ytinakendlpomnaa
/- Objects that are put, fields that are set: what a heap's objects are then. Plain. -/
namespace Go.Proofs.Ytinakendlpomnaa
open Go.RowKit Go.Maps Arena
set_option maxRecDepth 100000
theorem pk_digit : ∀ (A : List UInt8) (j : Nat), pk A / 256 ^ j % 256 = (A[j]?.map UInt8.toNat).getD 0
  | [], j => by simp [pk]
  | b :: A, 0 => by
    have := b.toNat_lt
    simp only [pk, Nat.pow_zero, Nat.div_one, List.getElem?_cons_zero, Option.map_some, Option.getD_some]
    omega
  | b :: A, j + 1 => by
    have := b.toNat_lt
    rw [List.getElem?_cons_succ, ← pk_digit A j, pk, Nat.pow_succ, Nat.mul_comm (256 ^ j) 256, ← Nat.div_div_eq_div_mul]
    congr 2
    omega
theorem bytes8_pk {A : List UInt8} (h : A.length ≤ 8) : bytes8 (pk A : Int) = A ++ List.replicate (8 - A.length) 0 := by
  apply List.ext_getElem?
  intro j
  unfold bytes8
  rw [List.getElem?_map, Int.toNat_natCast]
  by_cases hj : j < 8
  · rw [List.getElem?_range hj]
    simp only [Option.map_some]
    rw [pk_digit]
    by_cases hA : j < A.length
    · rw [List.getElem?_append_left hA, List.getElem?_eq_getElem hA]
      simp
    · rw [List.getElem?_append_right (by omega), List.getElem?_replicate, if_pos (by omega), List.getElem?_eq_none (by omega)]
      rfl
  · rw [List.getElem?_eq_none (by simp; omega), List.getElem?_eq_none (by simp; omega)]
    rfl
/-- a text's words hold its bytes, and 0 behind them -/
theorem bytes_pieces : ∀ (n : Nat) (l : List UInt8), l.length ≤ n → ∃ z, bytesOf (pieces l) = l ++ z ∧ z.all (· == 0) = true := by
  intro n
  induction n with
  | zero =>
    intro l h
    obtain rfl := List.eq_nil_of_length_eq_zero (Nat.le_zero.1 h)
    exact ⟨[], rfl, rfl⟩
  | succ n ih =>
    intro l h
    by_cases h0 : l.length = 0
    · obtain rfl := List.eq_nil_of_length_eq_zero h0
      exact ⟨[], rfl, rfl⟩
    · by_cases h8 : l.length ≤ 8
      · rw [pieces_short (by omega) h8, bytesOf_cons, bytes8_pk h8]
        exact ⟨List.replicate (8 - l.length) 0, by simp [bytesOf], by simp⟩
      · obtain ⟨z, hz, hz0⟩ := ih (l.drop 8) (by rw [List.length_drop]; omega)
        have ht : (l.take 8).length = 8 := by rw [List.length_take]; omega
        refine ⟨z, ?_, hz0⟩
        have h8e : pieces l = (pk (l.take 8) : Int) :: pieces (l.drop 8) := by
          have := pieces_cons (l := l.drop 8) ht
          rw [List.take_append_drop] at this
          exact this
        rw [h8e, bytesOf_cons, bytes8_pk (by omega), hz, ht]
        simp only [Nat.sub_self, List.replicate_zero, List.append_nil]
        rw [← List.append_assoc, List.take_append_drop]
theorem layO_len {o : Ob} (hm : mayO o = true) : (layO o).length = wordsO o := by
  have := body_len hm; unfold layO; rw [List.length_cons]; omega
theorem ob_text {kd tg : Int} {F : List Int} {t : ByteArray} (hm : mayK kd tg F.length t.size = true) (h : kd ≠ 2) : t = ByteArray.empty := by
  have h0 : t.size = 0 := by
    rcases mayK_cases hm with ⟨_, h⟩ | ⟨h1, _⟩ | ⟨_, h⟩ | ⟨_, h⟩
    · exact h.2.2.2.2
    · exact absurd h1 h
    · exact h.2.2
    · exact h.2.2.2
  obtain ⟨⟨l⟩⟩ := t
  cases l with
  | nil => rfl
  | cons a l => simp [ByteArray.size] at h0
/-- what is laid is read -/
theorem readS_lay {o : Ob} (hm : mayO o = true) (T : List Int) : readS (layO o ++ T) = some o := by
  have hbl := body_len hm
  have hmk := hm
  unfold mayO at hmk
  obtain ⟨b1, b2, b3, b4, b5, b6, b7, b8⟩ := mayK_bounds hmk
  have d1 : headO o % 256 = o.kind := by unfold headO headK; omega
  have d2 : headO o / 256 % 16777216 = o.tag := by unfold headO headK; omega
  have d3 : (headO o / 4294967296).toNat = sizeK o.kind o.fields.length o.text.size := by unfold headO headK; omega
  have hbd : bodyK o.kind (sizeK o.kind o.fields.length o.text.size) (sizeK o.kind o.fields.length o.text.size) = (bodyO o).length := by
    unfold wordsO at hbl
    have : bodyK o.kind (sizeK o.kind o.fields.length o.text.size) (sizeK o.kind o.fields.length o.text.size) = bodyK o.kind o.fields.length o.text.size := by
      unfold bodyK sizeK
      by_cases h2 : o.kind = 2
      · rw [if_pos h2, if_pos h2, if_pos h2]
      · rw [if_neg h2, if_neg h2, if_neg h2]
    omega
  unfold layO
  rw [List.cons_append]
  unfold readS
  simp only [d1, d2, d3, hbd]
  rw [if_pos ⟨b1, b2, b7, by rw [List.length_append]; omega⟩]
  rw [List.take_append_of_le_length (Nat.le_refl _), List.take_length]
  obtain ⟨kd, tg, F, t⟩ := o
  dsimp only at *
  by_cases h2 : kd = 2
  · subst h2
    have hF : F = [] := by
      rcases mayK_cases hmk with ⟨h1, _⟩ | ⟨_, _, h, _⟩ | ⟨h1, _⟩ | ⟨h1, _⟩
      · omega
      · exact List.eq_nil_of_length_eq_zero h
      · omega
      · omega
    subst hF
    have hb : bodyO ⟨2, tg, [], t⟩ = pieces t.data.toList := rfl
    have hs : sizeK 2 ([] : List Int).length t.size = t.size := rfl
    obtain ⟨z, hz, hz0⟩ := bytes_pieces _ t.data.toList (Nat.le_refl _)
    rw [if_pos rfl, hb, hs, hz]
    have htl : t.data.toList.length = t.size := by rw [Array.length_toList]; rfl
    rw [List.drop_append_of_le_length (by omega), List.drop_eq_nil_of_le (by omega), List.nil_append, List.take_append_of_le_length (by omega), List.take_of_length_le (by omega)]
    have ho : (⟨2, tg, [], ⟨t.data.toList.toArray⟩⟩ : Ob) = ⟨2, tg, [], t⟩ := by obtain ⟨⟨l⟩⟩ := t; rfl
    rw [if_pos ⟨fun _ => hz0, by rw [ho]; exact hm⟩, ho]
  · have hb : bodyO ⟨kd, tg, F, t⟩ = F := if_neg h2
    have ht := ob_text hmk h2
    subst ht
    rw [if_neg h2, hb, if_pos ⟨fun h => absurd h h2, hm⟩]
theorem readS_app {S : List Int} {o : Ob} (h : readS S = some o) (T : List Int) : readS (S ++ T) = some o := by
  cases S with
  | nil => cases h
  | cons hd r =>
    rw [List.cons_append]
    unfold readS at h ⊢
    simp only at h ⊢
    split at h
    · rename_i hc
      obtain ⟨c1, c2, c3, c4⟩ := hc
      rw [if_pos ⟨c1, c2, c3, by rw [List.length_append]; omega⟩, List.take_append_of_le_length c4]
      exact h
    · cases h
theorem objs_app : ∀ (n : Nat) (S : List Int) (a : Nat) (L : List (Nat × Ob)) (T : List Int) (M : List (Nat × Ob)), S.length ≤ n → objs S a = some L → objs T (a + S.length) = some M → objs (S ++ T) a = some (L ++ M) := by
  intro n
  induction n with
  | zero =>
    intro S a L T M hn h hT
    obtain rfl := List.eq_nil_of_length_eq_zero (Nat.le_zero.1 hn)
    rw [objs_nil] at h
    obtain rfl := Option.some.inj h
    exact hT
  | succ n ih =>
    intro S a L T M hn h hT
    by_cases hS : S = []
    · subst hS
      rw [objs_nil] at h
      obtain rfl := Option.some.inj h
      exact hT
    · rw [objs_cons hS] at h
      cases hr : readS S with
      | none => rw [hr] at h; cases h
      | some o =>
        rw [hr] at h
        simp only at h
        cases hd : objs (S.drop (wordsO o)) (a + wordsO o) with
        | none => rw [hd] at h; cases h
        | some L' =>
          rw [hd] at h
          obtain rfl := Option.some.inj h
          obtain ⟨w1, w2, _⟩ := readS_words hr
          have hl : (S.drop (wordsO o)).length = S.length - wordsO o := List.length_drop
          have := ih (S.drop (wordsO o)) (a + wordsO o) L' T M (by omega) hd (by rw [show a + wordsO o + (S.drop (wordsO o)).length = a + S.length by omega]; exact hT)
          rw [objs_cons (by simp [hS]), readS_app hr]
          simp only
          rw [List.drop_append_of_le_length w1, this]
          rfl
theorem objs_one {o : Ob} (hm : mayO o = true) (a : Nat) : objs (layO o) a = some [(a, o)] := by
  have hl := layO_len hm
  have hr := readS_lay hm []
  rw [List.append_nil] at hr
  rw [objs_cons (by unfold layO; simp), hr]
  simp only
  rw [List.drop_eq_nil_of_le (by omega), objs_nil]
  rfl
theorem fieldOK_mono {P Q : List Nat} {first : Nat} {x : Int} (hs : ∀ a ∈ P, a ∈ Q) (h : fieldOK P first x = true) : fieldOK Q first x = true := by
  unfold fieldOK at h ⊢
  simp only [Bool.or_eq_true, Bool.and_eq_true, List.any_eq_true] at h ⊢
  rcases h with h | ⟨h1, a, h2, h3⟩
  · exact .inl h
  · exact .inr ⟨h1, a, hs a h2, h3⟩
theorem fieldsOK_app {first : Nat} {L : List (Nat × Ob)} {y : Nat × Ob} (h : fieldsOK first L = true) (hy : y.2.fields.all (fieldOK (L.map (·.1)) first) = true) : fieldsOK first (L ++ [y]) = true := by
  unfold fieldsOK at h ⊢
  rw [List.all_append, Bool.and_eq_true]
  have hs : ∀ a ∈ L.map (·.1), a ∈ (L ++ [y]).map (·.1) := fun a ha => by rw [List.map_append]; exact List.mem_append_left _ ha
  refine ⟨List.all_eq_true.2 fun x hx => List.all_eq_true.2 fun f hf => fieldOK_mono hs ?_, ?_⟩
  · exact List.all_eq_true.1 (List.all_eq_true.1 h x hx) f hf
  · simp only [List.all_cons, List.all_nil, Bool.and_true]
    exact List.all_eq_true.2 fun f hf => fieldOK_mono hs (List.all_eq_true.1 hy f hf)
theorem allS_put {first : Nat} {S : List Int} {L : List (Nat × Ob)} {o : Ob} (h : allS first S = some L) (hm : mayO o = true) (hF : o.fields.all (fieldOK (L.map (·.1)) first) = true) : allS first (S ++ layO o) = some (L ++ [(S.length, o)]) := by
  obtain ⟨h1, h2⟩ := allS_some h
  have h3 := objs_app S.length S 0 L (layO o) _ (Nat.le_refl _) h1 (objs_one hm _)
  unfold allS
  rw [h3]
  simp only
  rw [Nat.zero_add, if_pos (fieldsOK_app h2 hF)]
/-! ### the words of a region -/
theorem setMany_eq : ∀ (l V : List Int) (k : Nat), k + l.length ≤ V.length → setMany V k l = V.take k ++ (l ++ V.drop (k + l.length))
  | [], V, k, h => by simp [setMany]
  | x :: l, V, k, h => by
    rw [List.length_cons] at h
    rw [setMany, setMany_eq l (V.set k x) (k + 1) (by rw [List.length_set]; omega), List.length_cons, List.drop_set_of_lt (by omega), List.take_succ_eq_append_getElem (by rw [List.length_set]; omega), List.getElem_set_self, List.take_set_of_le (Nat.le_refl _), show k + 1 + l.length = k + (l.length + 1) by omega]
    simp
theorem wordsAt_set {n : Nat} {ws : List Int} {R : List (Nat × Nat)} (_hg : Arena.Good n R) (_hl : ws.length = n) {x v : Int} {a : Nat} (ha : a < lenAt R x) : wordsAt (setWs ws R x a v) R x = (wordsAt ws R x).set a v := by
  obtain ⟨r, hr, h1, h2⟩ := lenAt_some (show lenAt R x ≠ 0 by omega)
  unfold setWs within
  rw [decide_eq_true (show (0 : Int) ≤ a ∧ (a : Int) < lenAt R x by omega), if_pos rfl]
  unfold wordsAt
  rw [show (x + (a : Int)).toNat = x.toNat + a by omega, List.drop_set, if_neg (by omega), Nat.add_sub_cancel_left, List.take_set]
theorem wordsAt_run {n : Nat} {R : List (Nat × Nat)} (hg : Arena.Good n R) {x : Int} : ∀ (l ws : List Int) (k : Nat), ws.length = n → k + l.length ≤ lenAt R x → wordsAt (setRun ws R x k l) R x = setMany (wordsAt ws R x) k l
  | [], ws, k, _, _ => rfl
  | v :: l, ws, k, hl, h => by
    rw [List.length_cons] at h
    rw [setRun, wordsAt_run hg l _ (k + 1) (by rw [setWs_len]; exact hl) (by omega), wordsAt_set hg hl (by omega)]
    rfl
theorem semi_put {n : Nat} {ws : List Int} {R : List (Nat × Nat)} {h : Hp} {o : Ob} (hg : Arena.Good n R) (hl : ws.length = n) (ht : thereB R h = true) (hm : mayO o = true) (hfit : h.top + (wordsO o : Nat) ≤ h.half) : semi (putWs ws R h o) R (hpUp h o) = semi ws R h ++ layO o := by
  obtain ⟨hok, h2⟩ := thereB_ok ht
  have hf := firstN_is hok
  have hll := layO_len hm
  have hwl := wordsAt_len hg hl h.base
  obtain ⟨a1, a2, a3, a4, a5, a6⟩ := hok
  have hff : firstN (hpUp h o) = firstN h := rfl
  have htn : (hpUp h o).top.toNat = h.top.toNat + wordsO o := by unfold hpUp; dsimp only; omega
  unfold semi
  rw [hff, htn]
  show ((wordsAt (setRun ws R h.base (topN h) (layO o)) R h.base).drop (firstN h)).take _ = _
  rw [wordsAt_run hg _ _ _ hl (by unfold topN; omega), setMany_eq _ _ _ (by unfold topN; omega)]
  generalize wordsAt ws R h.base = V at hwl ⊢
  have e1 : (V.take (topN h) ++ (layO o ++ V.drop (topN h + (layO o).length))).drop (firstN h) = (V.drop (firstN h)).take h.top.toNat ++ (layO o ++ V.drop (topN h + (layO o).length)) := by
    unfold topN
    rw [List.drop_append_of_le_length (by rw [List.length_take]; omega), List.drop_take, Nat.add_sub_cancel_left]
  rw [e1, ← List.append_assoc, List.take_left' (by rw [List.length_append, List.length_take, List.length_drop]; omega)]
theorem thereB_up {R : List (Nat × Nat)} {h : Hp} {o : Ob} (ht : thereB R h = true) (hfit : h.top + (wordsO o : Nat) ≤ h.half) : thereB R (hpUp h o) = true := by
  obtain ⟨⟨a1, a2, a3, a4, a5, a6⟩, h2⟩ := thereB_ok ht
  unfold thereB hpUp
  simp only [Bool.and_eq_true, decide_eq_true_eq]
  exact ⟨⟨a1, a2, a3, a4, by dsimp only; omega, hfit⟩, h2⟩
theorem putB_some {ws : List Int} {R : List (Nat × Nat)} {h : Hp} {o : Ob} {L : List (Nat × Ob)} (ha : allH ws R h = some L) : putB ws R h o = (mayO o && decide (h.top + (wordsO o : Nat) ≤ h.half) && o.fields.all (fieldOK (L.map (·.1)) (firstN h))) := by
  unfold putB; rw [ha]
/-- an object that is put stands behind all others -/
theorem allH_put {n : Nat} {ws : List Int} {R : List (Nat × Nat)} {h : Hp} {o : Ob} {L : List (Nat × Ob)} (hg : Arena.Good n R) (hl : ws.length = n) (ha : allH ws R h = some L) (hb : putB ws R h o = true) : allH (putWs ws R h o) R (hpUp h o) = some (L ++ [(h.top.toNat, o)]) := by
  rw [putB_some ha] at hb
  simp only [Bool.and_eq_true, decide_eq_true_eq] at hb
  obtain ⟨⟨hm, hfit⟩, hF⟩ := hb
  obtain ⟨ht, hS⟩ := allH_there ha
  unfold allH
  rw [if_pos (thereB_up ht hfit), semi_put hg hl ht hm hfit]
  have := allS_put hS hm hF
  rw [semi_len hg hl ht] at this
  exact this
/-! ### a field that is set -/
def updF (a i : Nat) (v : Int) (y : Nat × Ob) : Nat × Ob := if y.1 = a then (y.1, { y.2 with fields := y.2.fields.set i v }) else y
theorem updF_fst (a i : Nat) (v : Int) (y : Nat × Ob) : (updF a i v y).1 = y.1 := by unfold updF; split <;> rfl
theorem updF_words (a i : Nat) (v : Int) (y : Nat × Ob) : wordsO (updF a i v y).2 = wordsO y.2 := by
  unfold updF
  split
  · unfold wordsO; simp
  · rfl
theorem readS_size {hd : Int} {r : List Int} {o : Ob} (h : readS (hd :: r) = some o) : wordsO o = bodyK (hd % 256) (hd / 4294967296).toNat (hd / 4294967296).toNat + 1 := by
  by_cases h2 : hd % 256 = 2
  · unfold readS at h
    simp only [h2, if_true] at h
    split at h
    · rename_i hc
      obtain ⟨_, _, hs, hb⟩ := hc
      split at h
      · obtain rfl := Option.some.inj h
        rw [h2]
        unfold wordsO
        dsimp only
        have hl : (ByteArray.mk ((bytesOf (r.take (bodyK 2 (hd / 4294967296).toNat (hd / 4294967296).toNat))).take (hd / 4294967296).toNat).toArray).size = (hd / 4294967296).toNat := by
          unfold bodyK at hb ⊢
          simp only [if_true] at hb ⊢
          rw [ByteArray.size, List.size_toArray, List.length_take, bytesOf_len, List.length_take]; omega
        rw [hl]
        unfold bodyK
        simp only [if_true]
        omega
      · cases h
    · cases h
  · unfold readS at h
    simp only [h2, if_false, false_implies, true_and] at h
    split at h
    · rename_i hc
      obtain ⟨_, _, hs, hb⟩ := hc
      split at h
      · obtain rfl := Option.some.inj h
        unfold wordsO
        unfold bodyK at hb ⊢
        simp only [h2, if_false] at hb ⊢
        rw [List.length_take]
        omega
      · cases h
    · cases h
theorem readS_take {S : List Int} {o : Ob} (h : readS S = some o) : readS (S.take (wordsO o)) = some o := by
  cases S with
  | nil => cases h
  | cons hd r =>
    rw [readS_size h, List.take_succ_cons]
    unfold readS at h ⊢
    simp only at h ⊢
    split at h
    · rename_i hc
      obtain ⟨c1, c2, c3, c4⟩ := hc
      rw [if_pos ⟨c1, c2, c3, by rw [List.length_take]; omega⟩, List.take_take, Nat.min_self]
      exact h
    · cases h
/-- a field of the first object is set -/
theorem readS_set {S : List Int} {o : Ob} (h : readS S = some o) {i : Nat} (hi : i < o.fields.length) (v : Int) : readS (S.set (1 + i) v) = some { o with fields := o.fields.set i v } := by
  cases S with
  | nil => cases h
  | cons hd r =>
    rw [Nat.add_comm 1 i, List.set_cons_succ]
    by_cases h2 : hd % 256 = 2
    · exfalso
      unfold readS at h
      simp only [h2, if_true] at h
      split at h
      · split at h
        · obtain rfl := Option.some.inj h
          simp at hi
        · cases h
      · cases h
    · have hm := (readS_words h).2.2
      unfold readS at h ⊢
      simp only [h2, if_false, false_implies, true_and] at h ⊢
      split at h
      · rename_i hc
        obtain ⟨c1, c2, c3, c4⟩ := hc
        rw [if_pos ⟨c1, c2, c3, by rw [List.length_set]; exact c4⟩]
        split at h
        · rename_i hm2
          obtain rfl := Option.some.inj h
          rw [List.take_set]
          rw [if_pos (by unfold mayO at hm2 ⊢; dsimp only at hm2 ⊢; rw [List.length_set]; exact hm2)]
        · cases h
      · cases h
theorem objs_ge {S : List Int} {a : Nat} {L : List (Nat × Ob)} (h : objs S a = some L) : ∀ y ∈ L, a ≤ y.1 ∧ y.1 + wordsO y.2 ≤ a + S.length :=
  objs_ind (P := fun S a L => ∀ y ∈ L, a ≤ y.1 ∧ y.1 + wordsO y.2 ≤ a + S.length) (fun a y hy => by cases hy)
    (fun S a o L hS hr ih y hy => by
      have hw := (readS_words hr).1
      rcases List.mem_cons.1 hy with rfl | hy
      · dsimp only; omega
      · have := ih y hy
        rw [List.length_drop] at this
        omega) S.length (Nat.le_refl _) h
theorem objs_set (i : Nat) (v : Int) : ∀ (n : Nat) (S : List Int) (b : Nat) (L : List (Nat × Ob)) (y : Nat × Ob), S.length ≤ n → objs S b = some L → y ∈ L → i < y.2.fields.length → objs (S.set (y.1 - b + 1 + i) v) b = some (L.map (updF y.1 i v)) := by
  intro n
  induction n with
  | zero =>
    intro S b L y hn h hy
    obtain rfl := List.eq_nil_of_length_eq_zero (Nat.le_zero.1 hn)
    rw [objs_nil] at h
    obtain rfl := Option.some.inj h
    cases hy
  | succ n ih =>
    intro S b L y hn h hy hi
    by_cases hS : S = []
    · subst hS
      rw [objs_nil] at h
      obtain rfl := Option.some.inj h
      cases hy
    · have h0 := h
      rw [objs_cons hS] at h
      cases hr : readS S with
      | none => rw [hr] at h; cases h
      | some o =>
        rw [hr] at h
        simp only at h
        cases hd : objs (S.drop (wordsO o)) (b + wordsO o) with
        | none => rw [hd] at h; cases h
        | some L' =>
          rw [hd] at h
          obtain rfl := Option.some.inj h
          obtain ⟨w1, w2, hmay⟩ := readS_words hr
          have hge := objs_ge hd
          have hne : S.set (y.1 - b + 1 + i) v ≠ [] := by simp [hS]
          rw [List.map_cons]
          rcases List.mem_cons.1 hy with rfl | hy
          · dsimp only at hi ⊢
            have hfw : wordsO o = 1 + o.fields.length := fields_words hmay (by intro e; rw [e] at hi; simp at hi)
            rw [Nat.sub_self, Nat.zero_add] at hne ⊢
            rw [objs_cons hne, readS_set hr hi v]
            simp only
            have hwo : wordsO { o with fields := o.fields.set i v } = wordsO o := by unfold wordsO; simp
            rw [hwo, List.drop_set_of_lt (by omega), hd]
            simp only [Option.map_some]
            congr 1
            congr 1
            · unfold updF; rw [if_pos rfl]
            · symm
              refine (List.map_congr_left fun z hz => ?_).trans (List.map_id _)
              unfold updF
              rw [if_neg (by have := (hge z hz).1; omega)]
              rfl
          · have hyg := hge y hy
            have hse : S.set (y.1 - b + 1 + i) v = S.take (wordsO o) ++ (S.drop (wordsO o)).set (y.1 - (b + wordsO o) + 1 + i) v := by
              have e0 : S = S.take (wordsO o) ++ S.drop (wordsO o) := (List.take_append_drop _ _).symm
              have hl : (S.take (wordsO o)).length = wordsO o := by rw [List.length_take]; omega
              have e1 : (S.take (wordsO o) ++ S.drop (wordsO o)).set (y.1 - b + 1 + i) v = S.take (wordsO o) ++ (S.drop (wordsO o)).set (y.1 - (b + wordsO o) + 1 + i) v := by
                rw [List.set_append_right _ _ (by omega), hl]
                congr 2
                omega
              rw [List.take_append_drop] at e1
              exact e1
            have hl : (S.take (wordsO o)).length = wordsO o := by rw [List.length_take]; omega
            rw [objs_cons hne, hse, readS_app (readS_take hr)]
            simp only
            rw [List.drop_append_of_le_length (by omega), List.drop_of_length_le (by omega), List.nil_append, ih (S.drop (wordsO o)) (b + wordsO o) L' y (by rw [List.length_drop]; omega) hd hy hi]
            simp only [Option.map_some]
            congr 2
            unfold updF
            rw [if_neg (by dsimp only; omega)]
theorem updF_places (a i : Nat) (v : Int) (L : List (Nat × Ob)) : (L.map (updF a i v)).map (·.1) = L.map (·.1) := by
  rw [List.map_map]
  exact List.map_congr_left fun y _ => updF_fst a i v y
theorem fieldsOK_set {first a i : Nat} {v : Int} {L : List (Nat × Ob)} (h : fieldsOK first L = true) (hv : fieldOK (L.map (·.1)) first v = true) : fieldsOK first (L.map (updF a i v)) = true := by
  unfold fieldsOK at h ⊢
  rw [updF_places]
  refine List.all_eq_true.2 fun x hx => ?_
  obtain ⟨y, hy, rfl⟩ := List.mem_map.1 hx
  have h1 := List.all_eq_true.1 h y hy
  unfold updF
  split
  · refine List.all_eq_true.2 fun f hf => ?_
    rcases List.mem_or_eq_of_mem_set hf with hf | rfl
    · exact List.all_eq_true.1 h1 f hf
    · exact hv
  · exact h1
theorem semi_setWs {n : Nat} {ws : List Int} {R : List (Nat × Nat)} {h : Hp} (hg : Arena.Good n R) (hl : ws.length = n) (ht : thereB R h = true) {j : Nat} (hj : j < h.top.toNat) (v : Int) : semi (setWs ws R h.base ((firstN h : Int) + j) v) R h = (semi ws R h).set j v := by
  obtain ⟨hok, h2⟩ := thereB_ok ht
  have hf := firstN_is hok
  obtain ⟨a1, a2, a3, a4, a5, a6⟩ := hok
  unfold semi
  rw [show (firstN h : Int) + j = ((firstN h + j : Nat) : Int) by omega, wordsAt_set hg hl (by omega), List.drop_set, if_neg (by omega), Nat.add_sub_cancel_left, List.take_set]
/-- a field that is set: the objects are as they were, but that field -/
theorem allH_set {n : Nat} {ws : List Int} {R : List (Nat × Nat)} {h : Hp} {L : List (Nat × Ob)} {x i v : Int} {y : Nat × Ob} (hg : Arena.Good n R) (hl : ws.length = n) (ha : allH ws R h = some L) (hy : getL (firstN h) L x = some y) (hi : 0 ≤ i) (hi2 : i < y.2.fields.length) (hv : fieldOK (L.map (·.1)) (firstN h) v = true) :
    setAt ws R h x i v = some ((firstN h : Int) + y.1 + 1 + i) ∧ allH (wsOf ws R h.base (setAt ws R h x i v) v) R h = some (L.map (updF y.1 i.toNat v)) := by
  have hs : setAt ws R h x i v = some ((firstN h : Int) + y.1 + 1 + i) := by
    unfold setAt
    rw [ha]
    simp only
    rw [hy]
    simp only
    rw [if_pos ⟨hi, hi2, hv⟩]
  refine ⟨hs, ?_⟩
  rw [hs]
  obtain ⟨ht, hS⟩ := allH_there ha
  obtain ⟨ho, hf⟩ := allS_some hS
  have hyL := (getL_some hy).1
  have hfit := objs_ge ho y hyL
  have hmay := (objs_fields ho y hyL).1
  rw [fields_words hmay (by intro e; rw [e] at hi2; simp at hi2; omega), semi_len hg hl ht] at hfit
  unfold allH
  rw [if_pos ht]
  unfold wsOf
  simp only
  rw [show (firstN h : Int) + y.1 + 1 + i = (firstN h : Int) + ((y.1 - 0 + 1 + i.toNat : Nat) : Int) by omega, semi_setWs hg hl ht (by omega)]
  unfold allS
  rw [objs_set i.toNat v _ _ 0 L y (Nat.le_refl _) ho hyL (by omega)]
  simp only
  rw [if_pos (fieldsOK_set hf hv)]
theorem getL_upd {first : Nat} {L : List (Nat × Ob)} {x v : Int} {a i : Nat} : getL first (L.map (updF a i v)) x = (getL first L x).map (updF a i v) := by
  unfold getL
  split
  · rfl
  · rw [List.find?_map]
    congr 1
    apply congrFun
    apply congrArg
    funext y
    simp only [Function.comp_apply, updF_fst]
end Go.Proofs.Ytinakendlpomnaa
