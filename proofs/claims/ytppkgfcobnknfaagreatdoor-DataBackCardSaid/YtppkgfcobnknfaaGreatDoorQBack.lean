/- Proved here: the contracts and laws of DatSA, DatSB, DatSC, DatBA, DatBB, DatBC, RowIn, RigB, RigC, RigD, ObjIn, DatIn, DatBD of this claim, each beneath its own remark; conditions: those that each theorem names. -/
import Derived.Test.YtppkgfcobnknfaaGreatDoorM9
import Derived.Test.YtppkgfcobnknfaaGreatDoorM7
import Derived.Test.YtppkgfcobnknfaaGreatDoorM10
import Derived.Test.YtppkgfcobnknfaaGreatDoorM4
import Derived.Test.YtppkgfcobnknfaaGreatDoorM1
import Derived.Test.YtppkgfcobnknfaaGreatDoorM8
import Derived.IntWalk
import Derived.Deep.RegionHeld3
/- Data, in plain Lean: words that come in; values that are shared; a ring. -/
namespace Go.Proofs.YtppkgfcobnknfaaGreatDoor
open Go Go.RowKit Arena
set_option maxRecDepth 100000
theorem wd_64 {M : List Cl} {t : Nat} (hb : t + wsum M ≤ 100000) (k : Nat) : W64 (wdC M t k) := by
  unfold wdC
  cases M[k]? with
  | none => exact w64_zero
  | some c =>
    dsimp only
    split
    · exact numW_w64 _
    · have := wsum_take_le M k
      unfold posN W64
      omega
theorem layFrom_mem {M : List Cl} {t : Nat} : ∀ (r : List Cl) (k : Nat), M.drop k = r → ∀ x ∈ layFrom M t k r, ∃ j c, M[j]? = some c ∧ c.kind ≠ 0 ∧ x ∈ layO (obC M t j c)
  | [], _, _, x, h => by cases h
  | c :: r, k, hd, x, h => by
    have hk : M[k]? = some c := by
      have := congrArg (·[0]?) hd
      simpa using this
    have hd2 : M.drop (k + 1) = r := by
      have := congrArg (·.drop 1) hd
      simpa using this
    rw [layFrom] at h
    rcases List.mem_append.1 h with h | h
    · by_cases h0 : c.kind = 0
      · rw [if_pos h0] at h; cases h
      · rw [if_neg h0] at h
        exact ⟨k, c, hk, h0, h⟩
    · exact layFrom_mem r (k + 1) hd2 x h
theorem inL_64 {M : List Cl} {t : Nat} (hM : goodM M = true) (hb : t + wsum M ≤ 100000) : ∀ x ∈ inL M t, W64 x := by
  intro x hx
  obtain ⟨j, c, hc, h0, hx⟩ := layFrom_mem M 0 rfl x hx
  refine layO_64 (obC_may (goodM_all hM c (List.mem_of_getElem? hc)) h0) (fun y hy => ?_) x hx
  unfold obC at hy
  dsimp only at hy
  split at hy
  · obtain ⟨i, _, rfl⟩ := List.mem_map.1 hy
    exact wd_64 hb i
  · cases hy
theorem inWs_64 {ws : List Int} {R : List (Nat × Nat)} {h : Hp} {M : List Cl} (hM : goodM M = true) (hb : topN h + wsum M ≤ 100000) (hW : ∀ x ∈ ws, W64 x) : ∀ x ∈ inWs ws R h M, W64 x :=
  fun x hx => (setRun_mem hx).elim (hW x) (inL_64 hM hb x)
/-- what is told is a number, or a place of the heap's -/
theorem Msgs.fld {first : Nat} {L : List (Nat × Ob)} {x : Int} {st : List Int} {M : List Cl} (h : Msgs first L (x :: st) M) : fieldOK (L.map (·.1)) first x = true := by
  have go : ∀ y, getL first L x = some y → fieldOK (L.map (·.1)) first x = true := fun y hy => by
    obtain ⟨h1, h2, h3, h4⟩ := getL_some hy
    unfold fieldOK
    rw [h3, Bool.false_or, decide_eq_true h4, Bool.true_and, List.any_eq_true]
    exact ⟨y.1, List.mem_map_of_mem h1, decide_eq_true h2⟩
  cases h with
  | num _ _ M hx _ => unfold fieldOK; rw [hx, Bool.true_or]
  | str _ y _ M hg hk _ => exact go y hg
  | blk _ y _ M hg hk _ => exact go y hg
/-- a ring has no message -/
theorem ring_none {first : Nat} {L : List (Nat × Ob)} {p : Int} {y : Nat × Ob} (hy : getL first L p = some y) (hk : y.2.kind = 1) (hp : p ∈ y.2.fields) {st : List Int} {M : List Cl} (h : Msgs first L st M) : p ∉ st := by
  induction h with
  | nil => simp
  | num x st M hx _ ih =>
    intro hm
    rcases List.mem_cons.1 hm with rfl | hm
    · rw [getL_notint hy] at hx; cases hx
    · exact ih hm
  | str x z st M hg hk2 _ ih =>
    intro hm
    rcases List.mem_cons.1 hm with rfl | hm
    · obtain rfl := Option.some.inj (hy.symm.trans hg); omega
    · exact ih hm
  | blk x z st M hg hk2 _ ih =>
    intro hm
    rcases List.mem_cons.1 hm with rfl | hm
    · obtain rfl := Option.some.inj (hy.symm.trans hg)
      exact ih (List.mem_append_left _ hp)
    · exact ih (List.mem_append_right _ hm)
theorem ring_out {first : Nat} {L : List (Nat × Ob)} {p : Int} {y : Nat × Ob} (hy : getL first L p = some y) (hk : y.2.kind = 1) (hp : p ∈ y.2.fields) : outD first L p = none := by
  cases h : outD first L p with
  | none => rfl
  | some M => exact absurd (List.mem_singleton_self p) (ring_none hy hk hp (outD_some h))
/-- the object at a place -/
theorem getL_at {first : Nat} {L : List (Nat × Ob)} (hp : L.Pairwise (fun x y => x.1 < y.1)) {y : Nat × Ob} (hy : y ∈ L) (hb : first + y.1 ≤ 100000) : getL first L ((2 * (first + y.1) : Nat) : Int) = some y := by
  unfold getL
  rw [if_neg (by unfold isIntW; simp; omega)]
  have he : (((2 * (first + y.1) : Nat) : Int) / 2) = ((first + y.1 : Nat) : Int) := by omega
  rw [he]
  obtain ⟨z, hz⟩ : ∃ z, L.find? (fun z => decide (((first + z.1 : Nat) : Int) = ((first + y.1 : Nat) : Int))) = some z := by
    cases hf : L.find? (fun z => decide (((first + z.1 : Nat) : Int) = ((first + y.1 : Nat) : Int))) with
    | some z => exact ⟨z, rfl⟩
    | none =>
      have := List.find?_eq_none.1 hf y hy
      simp at this
  rw [hz]
  have h1 := List.mem_of_find?_eq_some hz
  have h2 : ((first + z.1 : Nat) : Int) = ((first + y.1 : Nat) : Int) := by simpa using List.find?_some hz
  rw [places_inj hp h1 hy (by omega)]
theorem pos_zero (M : List Cl) (t : Nat) : posN M t 0 = t := by unfold posN wsum; simp
/-- where a message has come in, it goes out -/
theorem out_in {n : Nat} {ws : List Int} {R : List (Nat × Nat)} {h : Hp} {M : List Cl} {L : List (Nat × Ob)} (hg : Arena.Good n R) (hl : ws.length = n) (ha : allH ws R h = some L) (hM : goodM M = true) (hfit : h.top + (wsum M : Nat) ≤ h.half) :
    outH (inWs ws R h M) R (hpMore h (wsum M)) (wdC M (topN h) 0) = some M := by
  unfold outH
  rw [allH_in hg hl ha hM hfit]
  exact outD_of (in_out hg hl ha hM hfit) (goodM_len hM).2
/-! ### DataShares: the heaps, one behind the other -/
def sR : List (Nat × Nat) := rigR 600
def sH0 : Hp := ⟨3, 300, 0, 0⟩
def shX1 (M : List Cl) : Int := wdC M 0 0
def shO (M : List Cl) : Ob := ⟨1, 0, [shX1 M, shX1 M], ByteArray.empty⟩
def shH1 (M : List Cl) : Hp := hpMore sH0 (wsum M)
def shW1 (ws : List Int) (M : List Cl) : List Int := inWs ws sR sH0 M
def shH2 (M : List Cl) : Hp := hpUp (shH1 M) (shO M)
def shW2 (ws : List Int) (M : List Cl) : List Int := putWs (shW1 ws M) sR (shH1 M) (shO M)
def shX2 (M : List Cl) : Int := ((2 * wsum M : Nat) : Int)
def shH3 (M : List Cl) : Hp := hpMore (shH2 M) (wsum (twoM M))
def shW3 (ws : List Int) (M : List Cl) : List Int := inWs (shW2 ws M) sR (shH2 M) (twoM M)
def shX3 (M : List Cl) : Int := wdC (twoM M) (topN (shH2 M)) 0
def shW4 (ws : List Int) (M : List Cl) : List Int := wsOf (shW3 ws M) sR 3 (setAt (shW3 ws M) sR (shH3 M) (shX2 M) 1 (shX2 M)) (shX2 M)
structure ShF (ws : List Int) (M : List Cl) : Prop where
  in1 : inB' ws sR sH0 M = true
  put : putB (shW1 ws M) sR (shH1 M) (shO M) = true
  out2 : outH (shW2 ws M) sR (shH2 M) (shX2 M) = some (twoM M)
  in3 : inB' (shW2 ws M) sR (shH2 M) (twoM M) = true
  out3 : outH (shW3 ws M) sR (shH3 M) (shX3 M) = some (twoM M)
  set : (setAt (shW3 ws M) sR (shH3 M) (shX2 M) 1 (shX2 M)).isSome = true
  out4 : outH (shW4 ws M) sR (shH3 M) (shX2 M) = none
  w1 : ∀ x ∈ shW1 ws M, W64 x
  w2 : ∀ x ∈ shW2 ws M, W64 x
  w3 : ∀ x ∈ shW3 ws M, W64 x
  w4 : ∀ x ∈ shW4 ws M, W64 x
  x1 : W64 (shX1 M)
  x2 : W64 (shX2 M)
  x3 : W64 (shX3 M)
theorem two_sum (M : List Cl) : wsum (twoM M) = 3 + wsum M + wsum M := by
  have h : wsum (twoM M) = cw (hd 0 2) + wsum (M ++ M) := by unfold twoM wsum; rw [List.map_cons, List.sum_cons]
  rw [h, wsum_app]
  show 3 + _ = _
  omega
theorem sH0_first : firstN sH0 = 0 := by decide
theorem sH0_topN : topN sH0 = 0 := by decide
theorem shH1_first (M : List Cl) : firstN (shH1 M) = 0 := sH0_first
theorem shH2_first (M : List Cl) : firstN (shH2 M) = 0 := sH0_first
theorem shH3_first (M : List Cl) : firstN (shH3 M) = 0 := sH0_first
theorem shH1_top (M : List Cl) : (shH1 M).top = (wsum M : Nat) := by unfold shH1 hpMore sH0; simp
theorem shO_words (M : List Cl) : wordsO (shO M) = 3 := rfl
theorem shH2_top (M : List Cl) : (shH2 M).top = ((wsum M + 3 : Nat) : Int) := by
  have : (shH2 M).top = (shH1 M).top + ((wordsO (shO M) : Nat) : Int) := rfl
  rw [this, shH1_top, shO_words]; omega
theorem share {n : Nat} {ws : List Int} (hg : Arena.Good n sR) (hl : ws.length = n) (hW : ∀ x ∈ ws, W64 x) {M : List Cl} (hM : goodM M = true) (hl40 : M.length ≤ 40) (h90 : wsum M ≤ 90) : ShF ws M := by
  have ht0 : thereB sR sH0 = true := by decide +kernel
  have a0 : allH ws sR sH0 = some [] := by
    unfold allH
    rw [if_pos ht0]
    have : semi ws sR sH0 = [] := by unfold semi sH0; rfl
    rw [this]
    rfl
  have hfit0 : sH0.top + (wsum M : Nat) ≤ sH0.half := by unfold sH0; dsimp only; omega
  have t0 : topN sH0 = 0 := sH0_topN
  have in1 : inB' ws sR sH0 M = true := by
    unfold inB'
    rw [hM, a0, decide_eq_true hfit0]; rfl
  have a1 := allH_in hg hl a0 hM hfit0
  have m1 := in_out hg hl a0 hM hfit0
  rw [List.nil_append, t0] at a1
  rw [List.nil_append, t0] at m1
  have l1 : (shW1 ws M).length = n := (inWs_len ..).trans hl
  have w1 : ∀ x ∈ shW1 ws M, W64 x := inWs_64 hM (by rw [t0]; omega) hW
  have x1 : W64 (shX1 M) := wd_64 (by omega) 0
  have hT1 : (shH1 M).top = (wsum M : Nat) := shH1_top M
  have hHalf1 : (shH1 M).half = 300 := rfl
  have hfld1 : fieldOK ((inObs M 0 sH0.top.toNat).map (·.1)) (firstN (shH1 M)) (shX1 M) = true := m1.fld
  have hput : putB (shW1 ws M) sR (shH1 M) (shO M) = true := by
    have hm : mayO (shO M) = true := rfl
    have : putB (shW1 ws M) sR (shH1 M) (shO M) = (mayO (shO M) && decide ((shH1 M).top + (wordsO (shO M) : Nat) ≤ (shH1 M).half) && (shO M).fields.all (fieldOK ((inObs M 0 sH0.top.toNat).map (·.1)) (firstN (shH1 M)))) := putB_some a1
    rw [this, hm, decide_eq_true (by rw [hT1, hHalf1, shO_words]; omega)]
    simp [shO, hfld1]
  have a2 := allH_put hg l1 a1 hput
  have l2 : (shW2 ws M).length = n := (setRun_len ..).trans l1
  have w2 : ∀ x ∈ shW2 ws M, W64 x := putWs_64 hput w1 (by intro x hx; simp [shO] at hx; subst hx; exact x1)
  have hp2 := objs_places (allS_some (allH_there a2).2).1
  have hg2 : getL (firstN (shH2 M)) (inObs M 0 sH0.top.toNat ++ [((shH1 M).top.toNat, shO M)]) (shX2 M) = some ((shH1 M).top.toNat, shO M) := by
    have := getL_at (first := firstN (shH2 M)) hp2 (y := ((shH1 M).top.toNat, shO M)) (List.mem_append_right _ (List.mem_singleton_self _)) (by rw [shH2_first, hT1]; simp; omega)
    rw [shH2_first] at this ⊢
    rw [show (2 * (0 + ((shH1 M).top.toNat, shO M).1) : Nat) = 2 * wsum M by rw [hT1]; simp] at this
    exact this
  have m2 : Msgs (firstN (shH2 M)) (inObs M 0 sH0.top.toNat ++ [((shH1 M).top.toNat, shO M)]) [shX2 M] (twoM M) := by
    have h : Msgs (firstN (shH2 M)) (inObs M 0 sH0.top.toNat ++ [((shH1 M).top.toNat, shO M)]) [shX1 M] M := Msgs.more m1 [((shH1 M).top.toNat, shO M)]
    have hh : Msgs (firstN (shH2 M)) (inObs M 0 sH0.top.toNat ++ [((shH1 M).top.toNat, shO M)]) ([shX1 M] ++ [shX1 M]) (M ++ M) := h.app h
    exact Msgs.blk (shX2 M) _ [] (M ++ M) hg2 rfl hh
  have hlen2 : (twoM M).length ≤ 100 := by unfold twoM; simp; omega
  have out2 : outH (shW2 ws M) sR (shH2 M) (shX2 M) = some (twoM M) := by
    unfold outH
    rw [show allH (shW2 ws M) sR (shH2 M) = _ from a2]
    exact outD_of m2 hlen2
  have hM2 := two_good hM hl40
  have hT2 := shH2_top M
  have hHalf2 : (shH2 M).half = 300 := rfl
  have hfit2 : (shH2 M).top + (wsum (twoM M) : Nat) ≤ (shH2 M).half := by rw [hT2, hHalf2, two_sum]; omega
  have in3 : inB' (shW2 ws M) sR (shH2 M) (twoM M) = true := by
    unfold inB'
    rw [hM2, show allH (shW2 ws M) sR (shH2 M) = _ from a2, decide_eq_true hfit2]; rfl
  have a3 := allH_in hg l2 a2 hM2 hfit2
  have l3 : (shW3 ws M).length = n := (inWs_len ..).trans l2
  have ht2 : topN (shH2 M) = wsum M + 3 := by unfold topN; rw [shH2_first, hT2]; omega
  have hb3 : topN (shH2 M) + wsum (twoM M) ≤ 100000 := by rw [ht2, two_sum]; omega
  have w3 : ∀ x ∈ shW3 ws M, W64 x := inWs_64 hM2 hb3 w2
  have x2 : W64 (shX2 M) := by unfold shX2 W64; omega
  have g3 := getL_app (N := inObs (twoM M) (topN (shH2 M)) (shH2 M).top.toNat) hg2
  have hs := allH_set (x := shX2 M) (i := 1) (v := shX2 M) hg l3 a3 (y := ((shH1 M).top.toNat, shO M)) g3 (by omega) (by simp [shO]) (Msgs.fld (Msgs.more m2 (inObs (twoM M) (topN (shH2 M)) (shH2 M).top.toNat)))
  have a4 : allH (shW4 ws M) sR (shH3 M) = _ := hs.2
  refine ⟨in1, hput, out2, in3, out_in hg l2 a2 hM2 hfit2, by rw [show setAt (shW3 ws M) sR (shH3 M) (shX2 M) 1 (shX2 M) = _ from hs.1]; rfl, ?_, w1, w2, w3, wsOf_64 w3 x2, x1, x2, wd_64 hb3 0⟩
  unfold outH
  rw [a4]
  have hp4 := objs_places (allS_some (allH_there a4).2).1
  have hmem := List.mem_map_of_mem (f := updF ((shH1 M).top.toNat, shO M).1 (1 : Int).toNat (shX2 M)) (getL_some g3).1
  have hg4 := getL_at (first := firstN (shH3 M)) hp4 hmem (by rw [shH3_first, updF_fst, hT1]; simp; omega)
  rw [updF_fst, shH3_first] at hg4
  rw [show (2 * (0 + ((shH1 M).top.toNat, shO M).1) : Nat) = 2 * wsum M by rw [hT1]; simp] at hg4
  refine ring_out (y := updF ((shH1 M).top.toNat, shO M).1 (1 : Int).toNat (shX2 M) ((shH1 M).top.toNat, shO M)) (by rw [shH3_first]; exact hg4) ?_ ?_
  · unfold updF; rw [if_pos rfl]; rfl
  · unfold updF; rw [if_pos rfl]; simp [shO]
end Go.Proofs.YtppkgfcobnknfaaGreatDoor
/- DataShares: what it asks of the heap, step by step. -/
namespace Go.Proofs.YtppkgfcobnknfaaGreatDoor
open Go.RowKit Go.Maps Arena
set_option maxHeartbeats 8000000
set_option maxRecDepth 100000
/-- it is true, and nothing that was there has turned -/
def True10 (w : World) (e : Ending) (w' : World) : Prop := e = .returned (.bool true) ∧ Ext w w'
theorem large_same {w : World} {v : Value} {M : List Cl} (h : MsgP w v M) : Calls Tryz.prog 10 #[v] w fun e w' => ∃ b, e = .returned (.bool b) ∧ (b = false → M.length ≤ 3000) ∧ w = w' :=
  (large_msg h).mono fun _ _ ⟨b, h1, h2, h3⟩ => ⟨b, h1, h2, h3.symm⟩
theorem s_in1 {V : World} {p g bm n : Nat} {ws : List Int} (H : ArenaAt V p g bm n ws sR) (hW : ∀ x ∈ ws, W64 x) {M : List Cl} (F : ShF ws M) {q : Option Addr} {c : Nat} (hm : ∀ W, Turn [g] V W → RowsP W (.slice q M.length c) 4 (M.map celC)) :
    Calls Tryz.prog 11 #[.pointer (some ⟨p, 0, none⟩), .agg #[.int .i64 3, .int .i64 300, .int .i64 0, .int .i64 0], .slice q M.length c] V fun e w' =>
      e = .returned (.tuple #[.agg #[.int .i64 3, .int .i64 300, .int .i64 0, .int .i64 (wsum M : Nat)], .int .u64 (shX1 M), .bool true]) ∧ ArenaAt w' p g bm n (shW1 ws M) sR ∧ Turn [g] V w' := by
  have h := din_yes (M := M) H sH0 (by decide) hW (qm := q) (cm := c) (hm V (Turn.refl _ _)) hm F.in1
  rw [sH0_topN, show sH0.top + (wsum M : Nat) = (wsum M : Nat) by unfold sH0; simp] at h
  exact h
theorem s_put {V : World} {p g bm n : Nat} {ws : List Int} {M : List Cl} (H : ArenaAt V p g bm n (shW1 ws M) sR) (F : ShF ws M) {q : Option Addr} {c : Nat} (hm : ∀ W, Turn [g] V W → RowsP W (.slice q 2 c) 1 ([shX1 M, shX1 M].map wordC)) :
    Calls Tryz.prog 19 #[.pointer (some ⟨p, 0, none⟩), .agg #[.int .i64 3, .int .i64 300, .int .i64 0, .int .i64 (wsum M : Nat)], .agg #[.int .i64 1, .int .i64 0, .slice q 2 c, .string ⟨#[]⟩]] V fun e w' =>
      e = .returned (.tuple #[.agg #[.int .i64 3, .int .i64 300, .int .i64 0, .int .i64 ((wsum M : Nat) + 3)], .int .u64 (shX2 M), .bool true]) ∧ ArenaAt w' p g bm n (shW2 ws M) sR ∧ Turn [g] V w' := by
  have h := put_is H (shH1 M) (show (Lit.int .i64 (3 : Int)).wf = true by decide) F.w1 (shO M) c q hm (by intro x hx; simp [shO] at hx; subst hx; exact F.x1) (by simp [shO])
  unfold PutSaid at h
  rw [F.put, if_pos rfl, if_pos rfl, if_pos rfl, shH1_top] at h
  have e1 : (hpV (hpUp (shH1 M) (shO M))) = .agg #[.int .i64 3, .int .i64 300, .int .i64 0, .int .i64 ((wsum M : Nat) + 3)] := by
    have e := shH2_top M
    unfold shH2 at e
    unfold hpV
    rw [e, Int.natCast_add]
    rfl
  have e2 : ((2 * topN (shH1 M) : Nat) : Int) = shX2 M := by
    unfold shX2 topN
    rw [shH1_first, shH1_top]; omega
  rw [e1, e2] at h
  exact h
theorem shH2_top' (M : List Cl) : (shH2 M).top = (wsum M : Nat) + 3 := by rw [shH2_top]; omega
theorem s_out2 {V : World} {p g bm n : Nat} {ws : List Int} {M : List Cl} (H : ArenaAt V p g bm n (shW2 ws M) sR) (F : ShF ws M) :
    Calls Tryz.prog 15 #[.pointer (some ⟨p, 0, none⟩), .agg #[.int .i64 3, .int .i64 300, .int .i64 0, .int .i64 ((wsum M : Nat) + 3)], .int .u64 (shX2 M)] V fun e w' =>
      ∃ q c, e = .returned (.tuple #[.slice q (twoM M).length c, .bool true]) ∧ OwnP w' V.heap.size 51 (.slice q (twoM M).length c) 4 ((twoM M).map celC) ∧ Ext V w' := by
  have h := out_is H (shH2 M) (show (Lit.int .i64 (3 : Int)).wf = true by decide) F.w2 F.x2
  rw [F.out2, shH2_top'] at h
  exact h
theorem shH3_top (M : List Cl) : (shH3 M).top = (wsum M : Nat) + 3 + 2 * (wsum M : Nat) + 3 := by
  have : (shH3 M).top = (shH2 M).top + ((wsum (twoM M) : Nat) : Int) := rfl
  rw [this, shH2_top, two_sum]; omega
theorem s_in3 {V : World} {p g bm n : Nat} {ws : List Int} {M : List Cl} (H : ArenaAt V p g bm n (shW2 ws M) sR) (F : ShF ws M) {q : Option Addr} {c : Nat} (hm : ∀ W, Turn [g] V W → RowsP W (.slice q (twoM M).length c) 4 ((twoM M).map celC)) :
    Calls Tryz.prog 11 #[.pointer (some ⟨p, 0, none⟩), .agg #[.int .i64 3, .int .i64 300, .int .i64 0, .int .i64 ((wsum M : Nat) + 3)], .slice q (twoM M).length c] V fun e w' =>
      e = .returned (.tuple #[.agg #[.int .i64 3, .int .i64 300, .int .i64 0, .int .i64 ((wsum M : Nat) + 3 + 2 * (wsum M : Nat) + 3)], .int .u64 (shX3 M), .bool true]) ∧ ArenaAt w' p g bm n (shW3 ws M) sR ∧ Turn [g] V w' := by
  have h := din_yes (M := twoM M) H (shH2 M) (show (Lit.int .i64 (3 : Int)).wf = true by decide) F.w2 (qm := q) (cm := c) (hm V (Turn.refl _ _)) hm F.in3
  rw [show (shH2 M).top + ((wsum (twoM M) : Nat) : Int) = (wsum M : Nat) + 3 + 2 * (wsum M : Nat) + 3 from shH3_top M, shH2_top'] at h
  exact h
theorem s_out3 {V : World} {p g bm n : Nat} {ws : List Int} {M : List Cl} (H : ArenaAt V p g bm n (shW3 ws M) sR) (F : ShF ws M) :
    Calls Tryz.prog 15 #[.pointer (some ⟨p, 0, none⟩), .agg #[.int .i64 3, .int .i64 300, .int .i64 0, .int .i64 ((wsum M : Nat) + 3 + 2 * (wsum M : Nat) + 3)], .int .u64 (shX3 M)] V fun e w' =>
      ∃ q c, e = .returned (.tuple #[.slice q (twoM M).length c, .bool true]) ∧ OwnP w' V.heap.size 51 (.slice q (twoM M).length c) 4 ((twoM M).map celC) ∧ Ext V w' := by
  have h := out_is H (shH3 M) (show (Lit.int .i64 (3 : Int)).wf = true by decide) F.w3 F.x3
  rw [F.out3, shH3_top] at h
  exact h
theorem s_set {V : World} {p g bm n : Nat} {ws : List Int} {M : List Cl} (H : ArenaAt V p g bm n (shW3 ws M) sR) (F : ShF ws M) :
    Calls Tryz.prog 20 #[.pointer (some ⟨p, 0, none⟩), .agg #[.int .i64 3, .int .i64 300, .int .i64 0, .int .i64 ((wsum M : Nat) + 3 + 2 * (wsum M : Nat) + 3)], .int .u64 (shX2 M), .int .i64 1, .int .u64 (shX2 M)] V fun e w' =>
      e = .returned (.bool true) ∧ ArenaAt w' p g bm n (shW4 ws M) sR ∧ Turn [g] V w' := by
  have h := oset_is H (shH3 M) (show (Lit.int .i64 (3 : Int)).wf = true by decide) F.w3 (x := shX2 M) (v := shX2 M) (i := 1) F.x2 F.x2 (by decide)
  rw [F.set, shH3_top] at h
  exact h
theorem s_out4 {V : World} {p g bm n : Nat} {ws : List Int} {M : List Cl} (H : ArenaAt V p g bm n (shW4 ws M) sR) (F : ShF ws M) :
    Calls Tryz.prog 15 #[.pointer (some ⟨p, 0, none⟩), .agg #[.int .i64 3, .int .i64 300, .int .i64 0, .int .i64 ((wsum M : Nat) + 3 + 2 * (wsum M : Nat) + 3)], .int .u64 (shX2 M)] V fun e w' =>
      e = .returned (.tuple #[.slice none 0 0, .bool false]) ∧ Ext V w' := by
  have h := out_is H (shH3 M) (show (Lit.int .i64 (3 : Int)).wf = true by decide) F.w4 F.x2
  rw [F.out4, shH3_top] at h
  exact h
end Go.Proofs.YtppkgfcobnknfaaGreatDoor
/- DataShares: the walk. -/
namespace Go.Proofs.YtppkgfcobnknfaaGreatDoor
open Go.RowKit Go.Maps Arena
set_option maxHeartbeats 8000000
set_option maxRecDepth 100000
def s0ws : List Int := rigW (List.replicate 600 0) 600
theorem s0_64 : ∀ x ∈ s0ws, W64 x := rigW_mem (by intro x hx; rw [(List.mem_replicate.1 hx).2]; exact w64_zero) _
theorem D10.out {w V V' : World} {p g bm t0 q n : Nat} {ws : List Int} {R : List (Nat × Nat)} (h : D10 w V p g bm t0 q n ws R) (t : Turn [g] V V') : Ext w V' := Below.trans h.x (t.below (Below.size h.x) (by have := h.ge.1; simp; omega))
theorem keep_blk {V V' : World} {g b : Nat} {o : Obj} (h : V.heap[b]? = some o) (t : Turn [g] V V') (hn : g < b) : V'.heap[b]? = some o := (t.block b (Array.getElem?_eq_some_iff.1 h).1 (by simp; omega)).trans h
theorem keep_ext {V V' : World} {b : Nat} {o : Obj} (h : V.heap[b]? = some o) (e : Ext V V') : V'.heap[b]? = some o := (Below.block e b (Array.getElem?_eq_some_iff.1 h).1).trans h
theorem shares_walk {w : World} {vm : Value} {M : List Cl} (hm : MsgP w vm M) (hO : OpLie w) : Calls Tryz.prog 4 #[vm] w (True10 w) := by
  have hmk := run_make_row' (P := Tryz.prog) 22 42 (.int .u64 0) 8 Tryz.underlying22 info_u64 rfl .i64 .i64 600 (by omega) (by omega)
  simp only [Int.cast_ofNat_Int] at hmk
  have HM := Lib.hid hm; have HO := Lib.hid hO
  obtain ⟨qm, cm, rfl, hm1, hm2, -⟩ := RowsP.at hm
  rw [List.length_map] at hm1 HM ⊢
  have HLM := Lib.hid (large_same HM.out)
  have HGM := Lib.hid (fun W (e : Ext w W) => refgood_msg (HM.out.ext e))
  have HWk := Lib.hid (fun W (e : Ext w W) => wakes10 W (HO.out.ext e))
  generalize hgm : goodM M = gm at HGM
  have HGe := Lib.hid hgm
  clear hm hO hgm
  go_enter Tryz.func4, Tryz.ntmps4
  go_wp2_with fail
  (with_reducible refine HLM.out.mono ?_)
  rintro e w1 ⟨b, rfl, hla, rfl⟩
  cases b with
  | true =>
    have HXX := Lib.hid (Ext.refl w)
    clear hla
    go_wp2_with fail
    (with_reducible refine (HWk.out _ HXX.out).mono ?_)
    rintro e w9 ⟨rfl, hx9⟩
    have HX9 := Lib.hid (HXX.out.trans hx9)
    clear hx9
    go_wp2_with fail
    go_ret
    exact ⟨rfl, HX9.out⟩
  | false =>
    clear hla HLM
    by_cases h40 : 40 < M.length
    · have t1 : (40 : Int) < (M.length : Int) := by omega
      have HXX := Lib.hid (Ext.refl w)
      go_wp2_with fail
      (with_reducible refine (HWk.out _ HXX.out).mono ?_)
      rintro e w9 ⟨rfl, hx9⟩
      have HX9 := Lib.hid (HXX.out.trans hx9)
      clear hx9
      go_wp2_with fail
      go_ret
      exact ⟨rfl, HX9.out⟩
    have t1 : ¬ (40 : Int) < (M.length : Int) := by omega
    cases gm with
    | false =>
      go_wp2_with fail
      (with_reducible refine (HGM.out _ (Ext.refl w)).mono ?_)
      rintro e w2 ⟨rfl, hx⟩
      have HXX := Lib.hid hx
      clear hx
      go_wp2_with fail
      (with_reducible refine (HWk.out _ HXX.out).mono ?_)
      rintro e w9 ⟨rfl, hx9⟩
      have HX9 := Lib.hid (HXX.out.trans hx9)
      clear hx9
      go_wp2_with fail
      go_ret
      exact ⟨rfl, HX9.out⟩
    | true =>
      have HRW := Lib.hid (fun W (e : Ext w W) => refwords_msg (HM.out.ext e) HGe.out)
      have hsum := goodM_sum HGe.out
      go_wp2_with fail
      (with_reducible refine (HGM.out _ (Ext.refl w)).mono ?_)
      rintro e w2 ⟨rfl, hx⟩
      have HX2 := Lib.hid hx
      clear hx HGM
      go_wp2_with fail
      (with_reducible refine (HRW.out _ HX2.out).mono ?_)
      rintro e w3 ⟨rfl, hx⟩
      have HXX := Lib.hid (HX2.out.trans hx)
      clear hx HX2
      by_cases h90 : 90 < wsum M
      · have t2 : (90 : Int) < (wsum M : Int) := by omega
        go_wp2_with fail
        (with_reducible refine (HWk.out _ HXX.out).mono ?_)
        rintro e w9 ⟨rfl, hx9⟩
        have HX9 := Lib.hid (HXX.out.trans hx9)
        clear hx9
        go_wp2_with fail
        go_ret
        exact ⟨rfl, HX9.out⟩
      have t2 : ¬ (90 : Int) < (wsum M : Int) := by omega
      go_wp2_with fail
      refine (lay_words (made_words w3 600 (by omega) _) (by simp)).mono ?_
      rintro e w4 ⟨p, g, bm, q, gq, B, rfl, hB⟩
      simp only [List.length_replicate] at hB
      have HB := Lib.hid hB
      clear hB hmk
      go_upto_region 6 with fail
      refine wp_alloc1 fun W hE hS b0 => ?_
      have hlt := HB.out.a.lt
      have hA0 : ArenaAt w4 p g bm 610 s0ws sR := HB.out.a
      have K := Lib.hid (show D10 w W p g bm w4.heap.size q 610 s0ws sR from ⟨hA0.ext hE, b0, HXX.out.trans (((Ext.alloc w3 (Obj.cells (madeCells #[Value.int IntKind.u64 0] 600) 42)).trans HB.out.ext).trans hE), by have h1 := HB.out.ge.2.1; have h2 := Below.size (Ext.alloc w3 (Obj.cells (madeCells #[Value.int IntKind.u64 0] 600) 42)); have h3 := HXX.out.size; omega, by omega, by omega, by omega⟩)
      have F := Lib.hid (share hA0.good hA0.len s0_64 HGe.out (by omega) (by omega))
      clear hE hS b0 hlt HB hA0
      generalize w4.heap.size = t0 at *
      obtain ⟨x0, x1⟩ := cells2 K.out.two
      have hin := s_in1 K.out.a s0_64 F.out (q := qm) (c := cm) (fun W' t => RowsP.ext HM.out (K.out.out t))
      go_wp2_with fail
      (with_reducible refine hin.mono ?_)
      rintro e w5 ⟨rfl, ha, ht⟩
      have K5 := Lib.hid (K.out.put ha ht)
      clear hin ha ht K x0 x1
      go_upto_region 7 with fail
      refine wp_alloc1 fun W6 hE hS b6 => ?_
      have hl5 := K5.out.lt
      have K6 := Lib.hid (K5.out.ext hE)
      have hn1 : t0 < w5.heap.size := hl5
      have B6 := Lib.hid b6
      have hs6 : w5.heap.size < W6.heap.size := by omega
      clear hE hS K5 hl5
      generalize w5.heap.size = n1 at *
      obtain ⟨x0, x1⟩ := cells2 K6.out.two
      obtain ⟨y0, y1, y2, y3⟩ := cells4 b6
      clear b6
      have hE7 := Ext.alloc W6 (.cells #[.int .u64 (shX1 M), .int .u64 (shX1 M)] 42)
      have hrow := OwnP.of_form (w := W6.alloc (.cells #[.int .u64 (shX1 M), .int .u64 (shX1 M)] 42)) (base := W6.heap.size) (T := 42) (l := [shX1 M, shX1 M].map wordC) (cap := 2) (cur := #[.int .u64 (shX1 M), .int .u64 (shX1 M)]) (by intro l hl; simp at hl; rcases hl with rfl | rfl <;> exact ⟨rfl, by intro u hu; simp [wordC] at hu; subst hu; rfl⟩) (Nat.le_refl _) (heap_alloc_new _ _) (Nat.le_refl _) (by unfold maxLen; omega) rfl rfl
      have hput := s_put (K6.out.ext hE7).a F.out (q := some ⟨W6.heap.size, 0, none⟩) (c := 2) (fun W' t => (hrow.turn t (fun b hb hmm => by have h1 := (hrow.own b hb).1; have h2 := K6.out.ge; simp at hmm; omega)).p)
      have K7 := Lib.hid (K6.out.ext hE7)
      have B7 := Lib.hid (keep_ext B6.out hE7)
      clear hrow
      go_wp2_with fail
      (with_reducible refine hput.mono ?_)
      rintro e w8 ⟨rfl, ha, ht⟩
      have K8 := Lib.hid (K7.out.put ha ht)
      clear hput ha ht hE7 x0 x1 y0 y1 y2 y3 K6 K7 B6 B7
      go_upto_region 8 with fail
      refine wp_alloc1 fun W9 hE hS b9 => ?_
      have hl8 := K8.out.lt
      have K9 := Lib.hid (K8.out.ext hE)
      have hn2 : t0 < w8.heap.size := hl8
      have B9 := Lib.hid b9
      clear hE hS K8 hl8
      generalize w8.heap.size = n2 at *
      obtain ⟨x0, x1⟩ := cells2 K9.out.two
      obtain ⟨y0, y1, y2, y3⟩ := cells4 b9
      clear b9
      have hout := s_out2 K9.out.a F.out
      go_wp2_with fail
      (with_reducible refine hout.mono ?_)
      rintro e w10 ⟨q10, c10, rfl, ho, hx⟩
      have K10 := Lib.hid (K9.out.ext hx)
      have B10 := Lib.hid (keep_ext B9.out hx)
      have hg9 : g < W9.heap.size := by have h1 := K9.out.ge; have h2 := K9.out.lt; omega
      have O10 := Lib.hid ho
      clear hout ho hx x0 x1 y0 y1 y2 y3 K9 B9
      go_upto_region 9 with fail
      have HXa := Lib.hid K10.out.x
      have H1 := Lib.hid (OwnP.of_form (w := w10.alloc (.cells #[.int .i64 1, .int .i64 0, .int .i64 2, .string ByteArray.empty] 51)) (base := w10.heap.size) (T := 51) (l := [hd 0 2].map celC) (cap := 1) (cur := #[.int .i64 1, .int .i64 0, .int .i64 2, .string ByteArray.empty]) (celC_rows _) (Nat.le_refl _) (heap_alloc_new _ _) (Nat.le_refl _) (by unfold maxLen; omega) rfl rfl)
      have HEW := Lib.hid (Ext.alloc w10 (.cells #[.int .i64 1, .int .i64 0, .int .i64 2, .string ByteArray.empty] 51))
      go_wp2_with (refine wpList_append_rows ECel (by rfl) _ _ (by rfl) w10.heap.size (.slice (some ⟨w10.heap.size, 0, none⟩) 1 1) (.slice qm M.length cm) ([hd 0 2].map celC) (M.map celC) (by rfl) H1.out (by rfl) (RowsP.ext HM.out (HXa.out.trans HEW.out)) (by simp; unfold maxLen; omega) (by simp; omega) (by simp) ?_)
      intro v11 w11 ho hg hb _
      have hx : Ext w10 w11 := Below.grown (Below.alloc (Ext.refl w10) (Nat.le_refl _) _) hg (by simp) (fun b hb => (H1.out.own b hb).1)
      replace ho : OwnP w11 w10.heap.size 51 v11 4 ((hd 0 2 :: M).map celC) := by simpa using ho
      obtain ⟨q11, c11, hv, -, -⟩ := ho.len
      obtain rfl : v11 = .slice q11 (M.length + 1) c11 := by rw [hv, List.length_map, List.length_cons]
      have HO11 := Lib.hid ho; have H11 := Lib.hid hx
      have hs11 := Below.size hx
      clear ho hg hb hx H1 HEW hv
      go_wp2_with (refine wpList_append_rows ECel (by rfl) _ _ (by rfl) w10.heap.size (.slice q11 (M.length + 1) c11) (.slice qm M.length cm) ((hd 0 2 :: M).map celC) (M.map celC) (by rfl) HO11.out (by rfl) (RowsP.ext HM.out (HXa.out.trans H11.out)) (by simp; unfold maxLen; omega) (by simp; omega) (by omega) ?_)
      intro v12 w12 ho hg hb _
      have hx : Below w10.heap.size w11 w12 := Below.grown (Below.refl _ _) hg hs11 (fun b hb => (HO11.out.own b (own_any hb)).1)
      replace ho : OwnP w12 w10.heap.size 51 v12 4 ((twoM M).map celC) := by unfold twoM; simpa using ho
      obtain ⟨q12, c12, hv, -, -⟩ := ho.len
      rw [List.length_map] at hv
      subst hv
      have hx12 : Ext w10 w12 := Below.trans H11.out hx
      have K12 := Lib.hid (K10.out.ext hx12); have B12 := Lib.hid (keep_ext B10.out hx12); have O12 := Lib.hid (O10.out.ext hx12); have HT12 := Lib.hid ho.p
      clear ho hg hb hx HO11 H11 hx12 K10 B10 O10 HXa
      have hmsg := msg_true (M := twoM M) O12.out.p HT12.out
      go_wp2_with fail
      (with_reducible refine hmsg.mono ?_)
      rintro e w13 ⟨rfl, hx⟩
      have K13 := Lib.hid (K12.out.ext hx); have B13 := Lib.hid (keep_ext B12.out hx); have O13 := Lib.hid (O12.out.ext hx)
      clear hmsg hx K12 B12 O12 HT12
      obtain ⟨x0, x1⟩ := cells2 K13.out.two
      obtain ⟨y0, y1, y2, y3⟩ := cells4 B13.out
      have hin := s_in3 K13.out.a F.out (q := q10) (c := c10) (fun W' t => (O13.out.turn t (fun b hb hmm => by have h1 := (O13.out.own b hb).1; simp at hmm; omega)).p)
      go_wp2_with fail
      (with_reducible refine hin.mono ?_)
      rintro e w14 ⟨rfl, ha, ht⟩
      have K14 := Lib.hid (K13.out.put ha ht); have B14 := Lib.hid (keep_blk B13.out ht (by have := K13.out.ge; omega)); have O14 := Lib.hid (O13.out.turn ht (fun b hb hmm => by have h1 := (O13.out.own b hb).1; simp at hmm; omega))
      clear hin ha ht x0 x1 y0 y1 y2 y3 K13 B13 O13
      go_upto_region 13 with fail
      refine wp_alloc1 fun W15 hE hS b15 => ?_
      have hl14 := K14.out.lt
      have K15 := Lib.hid (K14.out.ext hE)
      have hn3 : t0 < w14.heap.size := hl14
      have C15 := Lib.hid b15; have B15 := Lib.hid (keep_ext B14.out hE); have O15 := Lib.hid (O14.out.ext hE)
      clear hE hS K14 hl14 B14 O14
      generalize w14.heap.size = n3 at *
      obtain ⟨x0, x1⟩ := cells2 K15.out.two
      obtain ⟨y0, y1, y2, y3⟩ := cells4 b15
      clear b15
      have hout := s_out3 K15.out.a F.out
      go_wp2_with fail
      (with_reducible refine hout.mono ?_)
      rintro e w16 ⟨q16, c16, rfl, ho, hx⟩
      have K16 := Lib.hid (K15.out.ext hx); have C16 := Lib.hid (keep_ext C15.out hx); have B16 := Lib.hid (keep_ext B15.out hx); have O16 := Lib.hid (O15.out.ext hx).p; have P16 := Lib.hid ho.p
      clear hout ho hx x0 x1 y0 y1 y2 y3 K15 C15 B15 O15
      go_upto_region 14 with fail
      have hm14 : ∀ d os, Calls Tryz.prog 16 #[.slice q16 (twoM M).length c16, .slice q10 (twoM M).length c10] (Go.Sort.grow (redrawn w16 d) os) fun e w'' => e = .returned (.bool true) ∧ ∃ p : Regrown, w'' = Go.Sort.grow (redrawn w16 p.d) p.os := fun d os => quiet_ext (msg_true (M := twoM M) (P16.out.ext (Ext.regrown w16 d os)) (O16.out.ext (Ext.regrown w16 d os)))
      have hw14 : ∀ d os, Calls Tryz.prog 13 #[.slice qm M.length cm] (Go.Sort.grow (redrawn w16 d) os) fun e w'' => e = .returned (.int .i64 (wsum M)) ∧ ∃ p : Regrown, w'' = Go.Sort.grow (redrawn w16 p.d) p.os := fun d os => quiet_ext (HRW.out _ (K16.out.x.trans (Ext.regrown w16 d os)))
      have CM := Lib.hid hm14; have CW := Lib.hid hw14
      obtain ⟨y0, y1, y2, y3⟩ := cells4 C16.out
      obtain ⟨z0, z1, z2, z3⟩ := cells4 B16.out
      have ry := fun d os => cell_regrown y3 d os
      have rz := fun d os => cell_regrown z3 d os
      clear hm14 hw14 y0 y1 y2 z0 z1 z2
      refine wp_region_quiet_below (by kernel_rfl) (by kernel_rfl) ?_
      repeat (first | go_big_quiet_step (first | exact CM.out _ _ | exact CW.out _ _) | quiet_step (first | exact CM.out _ _ | exact CW.out _ _))
      refine wpQuiet_nil ?_
      intro _ hw'
      obtain ⟨⟨dq, osq⟩, hw''⟩ := hw'
      subst hw''
      have hxr := Ext.regrown w16 dq osq
      have K17 := Lib.hid (K16.out.ext hxr); have C17 := Lib.hid (keep_ext C16.out hxr)
      clear ry rz CM CW y3 z3 K16 C16 B16 O16 P16
      generalize Go.Sort.grow (redrawn w16 dq) osq = w17 at *
      clear hxr
      obtain ⟨x0, x1⟩ := cells2 K17.out.two
      obtain ⟨y0, y1, y2, y3⟩ := cells4 C17.out
      have hset := s_set K17.out.a F.out
      go_wp2_with fail
      (with_reducible refine hset.mono ?_)
      rintro e w18 ⟨rfl, ha, ht⟩
      have K18 := Lib.hid (K17.out.put ha ht); have C18 := Lib.hid (keep_blk C17.out ht (by have := K17.out.ge; omega))
      clear hset ha ht x0 x1 y0 y1 y2 y3 K17 C17
      obtain ⟨x0, x1⟩ := cells2 K18.out.two
      obtain ⟨y0, y1, y2, y3⟩ := cells4 C18.out
      have hout := s_out4 K18.out.a F.out
      go_wp2_with fail
      (with_reducible refine hout.mono ?_)
      rintro e w19 ⟨rfl, hx⟩
      have HX19 := Lib.hid (K18.out.x.trans hx)
      clear hout hx x0 x1 y0 y1 y2 y3 K18 C18 HXX
      have HXX := HX19
      clear HX19
      go_wp2_with fail
      (with_reducible refine (HWk.out _ HXX.out).mono ?_)
      rintro e w9 ⟨rfl, hx9⟩
      have HX9 := Lib.hid (HXX.out.trans hx9)
      clear hx9
      go_wp2_with fail
      go_ret
      exact ⟨rfl, HX9.out⟩
end Go.Proofs.YtppkgfcobnknfaaGreatDoor
/- DataBack: what it asks of the heap, in plain Lean; its helpers' walks. -/
namespace Go.Proofs.YtppkgfcobnknfaaGreatDoor
open Go Go.RowKit Go.Maps Arena
set_option maxHeartbeats 8000000
set_option maxRecDepth 100000
/-- the state behind some messages -/
structure Bk (n : Nat) (R : List (Nat × Nat)) (ws0 : List Int) (h0 : Hp) (ws : List Int) (h : Hp) (xs : List Int) (Ms : List (List Cl)) : Prop where
  all : ∃ L, allH ws R h = some L ∧ ∀ (j : Nat) (x : Int) (M : List Cl), xs[j]? = some x → Ms[j]? = some M → Msgs (firstN h0) L [x] M
  w64 : ∀ x ∈ ws, W64 x
  len : ws.length = n
  base : h.base = h0.base ∧ h.half = h0.half ∧ h.space = h0.space ∧ h0.top ≤ h.top
  pre : ∃ X, semi ws R h = semi ws0 R h0 ++ X
  same : xs.length = Ms.length
  good : ∀ M ∈ Ms, goodM M = true
  x64 : ∀ x ∈ xs, W64 x
theorem Bk.start {n : Nat} {R : List (Nat × Nat)} {ws0 : List Int} {h0 : Hp} {L : List (Nat × Ob)} (ha : allH ws0 R h0 = some L) (hW : ∀ x ∈ ws0, W64 x) (hl : ws0.length = n) : Bk n R ws0 h0 ws0 h0 [] [] :=
  ⟨⟨L, ha, fun j x M h => by simp at h⟩, hW, hl, ⟨rfl, rfl, rfl, Int.le_refl _⟩, ⟨[], by rw [List.append_nil]⟩, rfl, (fun M h => by cases h), (fun x h => by cases h)⟩
theorem Bk.step {n : Nat} {R : List (Nat × Nat)} {ws0 : List Int} {h0 : Hp} {ws : List Int} {h : Hp} {xs : List Int} {Ms : List (List Cl)} (k : Bk n R ws0 h0 ws h xs Ms) (hg : Arena.Good n R) {M : List Cl} (hb : inB' ws R h M = true) :
    Bk n R ws0 h0 (inWs ws R h M) (hpMore h (wsum M)) (xs ++ [wdC M (topN h) 0]) (Ms ++ [M]) := by
  obtain ⟨hM, -, hfit⟩ := inB_parts hb
  obtain ⟨L, ha, hms⟩ := k.all
  obtain ⟨b1, b2, b3, b4⟩ := k.base
  obtain ⟨X, hX⟩ := k.pre
  have hf : firstN h = firstN h0 := by unfold firstN; rw [b2, b3]
  obtain ⟨ht, -⟩ := allH_there ha
  obtain ⟨hok, h2⟩ := thereB_ok ht
  have hfn := firstN_is hok
  obtain ⟨a1, a2, a3, a4, a5, a6⟩ := hok
  have hbd : topN h + wsum M ≤ 100000 := by unfold topN; omega
  refine ⟨⟨_, allH_in hg k.len ha hM hfit, fun j x N hx hN => ?_⟩, inWs_64 hM hbd k.w64, (inWs_len ..).trans k.len, ⟨b1, b2, b3, by unfold hpMore; dsimp only; omega⟩, ?_, by rw [List.length_append, List.length_append, k.same]; rfl, fun N hN => ?_, fun x hx => ?_⟩
  · by_cases hj : j < xs.length
    · rw [List.getElem?_append_left hj] at hx
      rw [List.getElem?_append_left (by have := k.same; omega)] at hN
      exact (hms j x N hx hN).more _
    · rw [List.getElem?_append_right (by omega)] at hx
      rw [List.getElem?_append_right (by have := k.same; omega)] at hN
      have hj0 : j - xs.length = 0 := by have := (List.getElem?_eq_some_iff.1 hx).1; simp at this; omega
      rw [hj0] at hx
      rw [← k.same, hj0] at hN
      simp only [List.getElem?_cons_zero, Option.some.injEq] at hx hN
      subst hx
      subst hN
      rw [← hf]
      exact in_out hg k.len ha hM hfit
  · refine ⟨X ++ inL M (topN h), ?_⟩
    have := semi_run (l := inL M (topN h)) hg k.len ht (by rw [inL_len hM]; exact hfit)
    rw [inL_len hM] at this
    unfold inWs
    rw [this, hX, List.append_assoc]
  · rcases List.mem_append.1 hN with hN | hN
    · exact k.good N hN
    · rw [List.mem_singleton.1 hN]; exact hM
  · rcases List.mem_append.1 hx with hx | hx
    · exact k.x64 x hx
    · rw [List.mem_singleton.1 hx]; exact wd_64 hbd 0
/-- what was there stays -/
theorem Bk.stays {n : Nat} {R : List (Nat × Nat)} {ws0 : List Int} {h0 : Hp} {ws : List Int} {h : Hp} {xs : List Int} {Ms : List (List Cl)} (k : Bk n R ws0 h0 ws h xs Ms) (hg : Arena.Good n R) (hl : ws0.length = n) (ht0 : thereB R h0 = true) :
    ((wordsAt ws R h0.base).drop (firstN h0)).take h0.top.toNat = ((wordsAt ws0 R h0.base).drop (firstN h0)).take h0.top.toNat := by
  obtain ⟨b1, b2, b3, b4⟩ := k.base
  obtain ⟨X, hX⟩ := k.pre
  have hf : firstN h = firstN h0 := by unfold firstN; rw [b2, b3]
  have h1 : semi ws R h = ((wordsAt ws R h0.base).drop (firstN h0)).take h.top.toNat := by unfold semi; rw [b1, hf]
  have h2 := semi_len hg hl ht0
  have h3 : (semi ws R h).take h0.top.toNat = semi ws0 R h0 := by rw [hX, ← h2, List.take_left]
  rw [h1, List.take_take, Nat.min_eq_left (by omega)] at h3
  rw [h3]
  rfl
/-- a value that came in goes out -/
theorem Bk.out {n : Nat} {R : List (Nat × Nat)} {ws0 : List Int} {h0 : Hp} {ws : List Int} {h : Hp} {xs : List Int} {Ms : List (List Cl)} (k : Bk n R ws0 h0 ws h xs Ms) {j : Nat} {x : Int} {M : List Cl} (hx : xs[j]? = some x) (hM : Ms[j]? = some M) : outH ws R h x = some M := by
  obtain ⟨L, ha, hms⟩ := k.all
  obtain ⟨b1, b2, b3, b4⟩ := k.base
  have hf : firstN h = firstN h0 := by unfold firstN; rw [b2, b3]
  unfold outH
  rw [ha, Option.bind_some, hf]
  exact outD_of (hms j x M hx hM) (goodM_len (k.good M (List.mem_of_getElem? hM))).2
/-- the word of a number is a number's -/
theorem Bk.int {n : Nat} {R : List (Nat × Nat)} {ws0 : List Int} {h0 : Hp} {ws : List Int} {h : Hp} {xs : List Int} {Ms : List (List Cl)} (k : Bk n R ws0 h0 ws h xs Ms) {j : Nat} {x : Int} {M : List Cl} {c : Cl} (hx : xs[j]? = some x) (hM : Ms[j]? = some M) (hc : M[0]? = some c) : isIntW x = (c.kind == 0) := by
  obtain ⟨L, ha, hms⟩ := k.all
  have h := hms j x M hx hM
  cases h with
  | num _ _ M' hi _ =>
    simp only [List.getElem?_cons_zero, Option.some.injEq] at hc
    subst hc
    rw [hi]; rfl
  | str _ y _ M' hg hk _ =>
    simp only [List.getElem?_cons_zero, Option.some.injEq] at hc
    subst hc
    rw [getL_notint hg]; rfl
  | blk _ y _ M' hg hk _ =>
    simp only [List.getElem?_cons_zero, Option.some.injEq] at hc
    subst hc
    rw [getL_notint hg]; rfl
theorem flat_wd (l : List Int) : (l.map wordC).flatten = l.map (Value.int .u64) := by
  induction l with
  | nil => rfl
  | cons a l ih => simp only [List.map_cons, List.flatten_cons, ih]; rfl
theorem words_rig {w : World} {p g bm n m : Nat} {ws : List Int} (H : ArenaAt w p g bm n ws (rigR m)) : Calls Tryz.prog 9 #[.pointer (some ⟨p, 0, none⟩), .int .i64 3] w fun e w' => ∃ q c, e = .returned (.tuple #[.slice q m c, .bool true]) ∧ OwnP w' w.heap.size 42 (.slice q m c) 1 ((wordsAt ws (rigR m) 3).map wordC) ∧ Ext w w' := by
  refine (words_yes H (r := (3, m)) (by simp [rigR])).mono ?_
  rintro e w' ⟨v, rfl, ho, hx⟩
  have hl : (wordsAt ws (rigR m) 3).length = m := by rw [wordsAt_len H.good H.len, rig_len]
  have ho2 : OwnP w' w.heap.size 42 v 1 ((wordsAt ws (rigR m) 3).map wordC) := by
    refine ⟨fun cs hc => by obtain ⟨y, _, rfl⟩ := List.mem_map.1 hc; exact ⟨rfl, fun u hu => by rw [List.mem_singleton.1 hu]; rfl⟩, ?_⟩
    rw [flat_wd, List.length_map, hl]
    have e1 : wordsAt ws (rigR m) 3 = (ws.drop 3).take m := by unfold wordsAt; rw [rig_len]; rfl
    rw [e1]
    exact ho
  obtain ⟨q, c, rfl, _, _⟩ := ho2.len
  rw [List.length_map, hl] at *
  exact ⟨q, c, rfl, ho2, hx⟩
theorem large_raw {w : World} {v : Value} {l : List Int} {a b c d : Int} (hv : WordSl w v l) : Calls Tryz.prog 5 #[.agg #[v, .int .i64 a, .int .i64 b, .int .i64 c, .int .i64 d]] w fun e w' => e = .returned (.bool (decide (400 < l.length))) ∧ Ext w w' := by
  obtain ⟨qv, cv, rfl, hd1, hd2, hcell⟩ := hv
  unfold maxLen at hd2
  clear hcell
  by_cases h : 400 < l.length
  · rw [decide_eq_true h]
    have i1 : (400 : Int) < (l.length : Int) := by omega
    clear h
    go_enter Tryz.func5, Tryz.ntmps5
    go_wp2_with fail
    go_ret
    exact ⟨rfl, Ext.alloc _ _⟩
  · rw [decide_eq_false h]
    have i1 : ¬ (400 : Int) < (l.length : Int) := by omega
    clear h
    go_enter Tryz.func5, Tryz.ntmps5
    go_wp2_with fail
    go_ret
    exact ⟨rfl, Ext.alloc _ _⟩
/-- a piece of a slice of words -/
theorem run_mid (w : World) (g n c lo hi : Nat) (h1 : lo ≤ hi) (h2 : hi ≤ c) (h3 : lo < c) : (Instr.slice 22 (.slice (some ⟨g, 0, none⟩) n c) (some (.int .i64 (lo : Int))) (some (.int .i64 (hi : Int))) none).run Tryz.prog w = .ok (.slice (some ⟨g, lo, none⟩) (hi - lo) (c - lo)) w := by
  obtain ⟨z, hinfo, _⟩ := E64.info
  obtain ⟨i0, hi0, hz0, hz1, hz2⟩ := info_parts hinfo
  have hel : Tryz.prog.elem 22 = 42 := by simp [Program.elem, Tryz.underlying22]
  have hsz : (sizeOf (Tryz.prog.elem 22)).run Tryz.prog w = .ok 1 w := by rw [hel]; simp [sizeOf, typeInfo, hi0, hz1]
  rw [run_slice_lh w 22 (some ⟨g, 0, none⟩) n c (by rw [hel]; exact Tryz.underlying22) .i64 .i64 lo hi (by omega) (by omega) (by omega), hsz]
  have h4 : c ≠ lo := by omega
  simp [sliced, h4, Addr.add]
  omega
theorem mid_words {V : World} {B g m c f tn : Nat} {WB : List Int} (h : OwnP V B 42 (.slice (some ⟨g, 0, none⟩) m c) 1 (WB.map wordC)) (hm : m = WB.length) (hf : f + tn ≤ m) : WordSl V (.slice (some ⟨g, f, none⟩) tn (c - f)) ((WB.drop f).take tn) := by
  have hlen : ((WB.drop f).take tn).length = tn := by rw [List.length_take, List.length_drop]; omega
  obtain ⟨q', c', hv, h1, h2⟩ := h.len
  obtain ⟨-, -, rfl⟩ := Value.slice.inj hv
  rw [List.length_map] at h1
  refine ⟨some ⟨g, f, none⟩, c - f, by rw [hlen], by rw [hlen]; omega, by omega, fun i x hx => ⟨g, f, rfl, ?_⟩⟩
  have hi : i < tn := by have := (List.getElem?_eq_some_iff.1 hx).1; omega
  rw [List.getElem?_take_of_lt hi, List.getElem?_drop] at hx
  obtain ⟨g', hg, -, hc, -⟩ := h.cell (i := f + i) (f := 0) (cs := wordC x) (u := .int .u64 x) (by rw [List.getElem?_map, hx]; rfl) rfl
  obtain ⟨rfl⟩ := Addr.mk.inj (Option.some.inj hg)
  rwa [Nat.mul_one, Nat.add_zero] at hc
end Go.Proofs.YtppkgfcobnknfaaGreatDoor
/- DataBack: the walk. -/
namespace Go.Proofs.YtppkgfcobnknfaaGreatDoor
open Go.RowKit Go.Maps Arena
set_option maxHeartbeats 16000000
set_option maxRecDepth 100000
theorem EMs : ElemT Tryz.prog 27 41 1 24 := ⟨Tryz.underlying27, ⟨.slice none 0 0, by kernel_rfl, rfl⟩, by decide⟩
/-- messages in a row -/
def MsL (w : World) (v : Value) (Y : List (Value × List Cl)) : Prop := RowsP w v 1 (Y.map fun y => [y.1]) ∧ ∀ y ∈ Y, MsgP w y.1 y.2
def zC (z : Value × List Cl) : List Value := [z.1]
/-- all that a round keeps -/
structure St (w V : World) (p g bm t0 q n : Nat) (ws : List Int) (R : List (Nat × Nat)) (t1 : Nat) (h : Hp) (B : Nat) (va : Value) (xs : List Int) (vb : Value) (Zs : List (Value × List Cl)) (vw : Value) (WB : List Int) : Prop where
  d : D10 w V p g bm t0 q n ws R
  hp : V.heap[t1]? = some (.cells #[.int .i64 h.base, .int .i64 h.half, .int .i64 h.space, .int .i64 h.top] 24 (0, 0))
  a : OwnP V B 42 va 1 (xs.map wordC)
  b : OwnP V B 41 vb 1 (Zs.map zC)
  bef : OwnP V t1 42 vw 1 (WB.map wordC)
  befB : ∀ b, vw.ownBlock = some b → b < B
  lt : t0 < t1 ∧ t1 < B
theorem St.ext {w V V' : World} {p g bm t0 q n : Nat} {ws : List Int} {R : List (Nat × Nat)} {t1 : Nat} {h : Hp} {B : Nat} {va : Value} {xs : List Int} {vb : Value} {Zs : List (Value × List Cl)} {vw : Value} {WB : List Int} (k : St w V p g bm t0 q n ws R t1 h B va xs vb Zs vw WB) (e : Ext V V') : St w V' p g bm t0 q n ws R t1 h B va xs vb Zs vw WB :=
  ⟨k.d.ext e, keep_ext k.hp e, k.a.ext e, k.b.ext e, k.bef.ext e, k.befB, k.lt⟩
theorem St.put {w V V' : World} {p g bm t0 q n : Nat} {ws ws' : List Int} {R : List (Nat × Nat)} {t1 : Nat} {h : Hp} {B : Nat} {va : Value} {xs : List Int} {vb : Value} {Zs : List (Value × List Cl)} {vw : Value} {WB : List Int} (k : St w V p g bm t0 q n ws R t1 h B va xs vb Zs vw WB) (ha : ArenaAt V' p g bm n ws' R) (t : Turn [g] V V') : St w V' p g bm t0 q n ws' R t1 h B va xs vb Zs vw WB := by
  obtain ⟨g1, g2, g3, g4⟩ := k.d.ge
  have hlt := k.lt
  exact ⟨k.d.put ha t, keep_blk k.hp t (by omega), k.a.turn t (fun b hb hm => by have h1 := (k.a.own b hb).1; simp at hm; omega), k.b.turn t (fun b hb hm => by have h1 := (k.b.own b hb).1; simp at hm; omega), k.bef.turn t (fun b hb hm => by have h1 := (k.bef.own b hb).1; simp at hm; omega), k.befB, k.lt⟩
/-- a heap's block of the call's own turns -/
theorem St.turn {w V V' : World} {p g bm t0 q n : Nat} {ws : List Int} {R : List (Nat × Nat)} {t1 : Nat} {h : Hp} {B : Nat} {va : Value} {xs : List Int} {vb : Value} {Zs : List (Value × List Cl)} {vw : Value} {WB : List Int} (k : St w V p g bm t0 q n ws R t1 h B va xs vb Zs vw WB) {nb : Nat} {cs : Array Value} (hb : V.heap[nb]? = some (.cells cs 24 (0, 0))) (t : Turn [nb] V V') (h0 : t0 < nb) (h1 : nb ≠ t1) : St w V' p g bm t0 q n ws R t1 h B va xs vb Zs vw WB :=
  ⟨k.d.turn t h0, (t.block t1 (Array.getElem?_eq_some_iff.1 k.hp).1 (by simp; omega)).trans k.hp, k.a.turn t (fun b hb2 hm => by rw [List.mem_singleton.1 hm] at hb2; exact k.a.not_at hb (by decide) hb2), k.b.turn t (fun b hb2 hm => by rw [List.mem_singleton.1 hm] at hb2; exact k.b.not_at hb (by decide) hb2), k.bef.turn t (fun b hb2 hm => by rw [List.mem_singleton.1 hm] at hb2; exact k.bef.not_at hb (by decide) hb2), k.befB, k.lt⟩
/-- the heap's numbers are set -/
theorem St.fill {w V V' : World} {p g bm t0 q n : Nat} {ws : List Int} {R : List (Nat × Nat)} {t1 : Nat} {h h' : Hp} {B : Nat} {va : Value} {xs : List Int} {vb : Value} {Zs : List (Value × List Cl)} {vw : Value} {WB : List Int} (k : St w V p g bm t0 q n ws R t1 h B va xs vb Zs vw WB) (c : V'.heap[t1]? = some (.cells #[.int .i64 h'.base, .int .i64 h'.half, .int .i64 h'.space, .int .i64 h'.top] 24 (0, 0))) (t : Turn [t1] V V') : St w V' p g bm t0 q n ws R t1 h' B va xs vb Zs vw WB :=
  ⟨k.d.turn t k.lt.1, c, k.a.turn t (fun b hb2 hm => by rw [List.mem_singleton.1 hm] at hb2; exact k.a.not_at k.hp (by decide) hb2), k.b.turn t (fun b hb2 hm => by rw [List.mem_singleton.1 hm] at hb2; exact k.b.not_at k.hp (by decide) hb2), k.bef.turn t (fun b hb2 hm => by rw [List.mem_singleton.1 hm] at hb2; exact k.bef.not_at k.hp (by decide) hb2), k.befB, k.lt⟩
/-- a word more -/
theorem St.word {w V V' : World} {p g bm t0 q n : Nat} {ws : List Int} {R : List (Nat × Nat)} {t1 : Nat} {h : Hp} {B : Nat} {va va' : Value} {xs : List Int} {vb : Value} {Zs : List (Value × List Cl)} {vw : Value} {WB : List Int} (k : St w V p g bm t0 q n ws R t1 h B va xs vb Zs vw WB) {x : Int} (ho : OwnP V' B 42 va' 1 (xs.map wordC ++ [wordC x])) (gr : V.grownBy V' va.ownBlock) : St w V' p g bm t0 q n ws R t1 h B va' (xs ++ [x]) vb Zs vw WB := by
  have ht : Turn va.ownBlock.toList V V' := Turn.of_grown gr (fun b hb => .inl (by simpa using hb))
  obtain ⟨g1, g2, g3, g4⟩ := k.d.ge
  have hlt := k.lt
  have hown : ∀ b ∈ va.ownBlock.toList, B ≤ b := fun b hb => (k.a.own b (by simpa using hb)).1
  refine ⟨⟨k.d.a.turn ht (fun hm => by have := hown _ hm; have := k.d.a.lt; omega) (fun hm => by have := hown _ hm; omega) (fun hm => by have := hown _ hm; omega), (ht.block t0 k.d.lt (fun hm => by have := hown _ hm; omega)).trans k.d.two, Below.trans k.d.x (ht.below (Below.size k.d.x) (fun b hb => by have := hown _ hb; omega)), k.d.ge⟩, (ht.block t1 (Array.getElem?_eq_some_iff.1 k.hp).1 (fun hm => by have := hown _ hm; omega)).trans k.hp, by rw [List.map_append]; exact ho, k.b.grown gr (fun b hb e => own_apart k.b k.a (by decide) b hb e), k.bef.grown gr (fun b hb e => by have h1 := k.befB b hb; have h2 := hown b (by simpa using e); omega), k.befB, k.lt⟩
/-- a message more -/
theorem St.have_ {w V V' : World} {p g bm t0 q n : Nat} {ws : List Int} {R : List (Nat × Nat)} {t1 : Nat} {h : Hp} {B : Nat} {va : Value} {xs : List Int} {vb vb' : Value} {Zs : List (Value × List Cl)} {vw : Value} {WB : List Int} (k : St w V p g bm t0 q n ws R t1 h B va xs vb Zs vw WB) {z : Value × List Cl} (ho : OwnP V' B 41 vb' 1 (Zs.map zC ++ [zC z])) (gr : V.grownBy V' vb.ownBlock) : St w V' p g bm t0 q n ws R t1 h B va xs vb' (Zs ++ [z]) vw WB := by
  have ht : Turn vb.ownBlock.toList V V' := Turn.of_grown gr (fun b hb => .inl (by simpa using hb))
  obtain ⟨g1, g2, g3, g4⟩ := k.d.ge
  have hlt := k.lt
  have hown : ∀ b ∈ vb.ownBlock.toList, B ≤ b := fun b hb => (k.b.own b (by simpa using hb)).1
  refine ⟨⟨k.d.a.turn ht (fun hm => by have := hown _ hm; have := k.d.a.lt; omega) (fun hm => by have := hown _ hm; omega) (fun hm => by have := hown _ hm; omega), (ht.block t0 k.d.lt (fun hm => by have := hown _ hm; omega)).trans k.d.two, Below.trans k.d.x (ht.below (Below.size k.d.x) (fun b hb => by have := hown _ hb; omega)), k.d.ge⟩, (ht.block t1 (Array.getElem?_eq_some_iff.1 k.hp).1 (fun hm => by have := hown _ hm; omega)).trans k.hp, k.a.grown gr (fun b hb e => own_apart k.a k.b (by decide) b hb e), by rw [List.map_append]; exact ho, k.bef.grown gr (fun b hb e => by have h1 := k.befB b hb; have h2 := hown b (by simpa using e); omega), k.befB, k.lt⟩
end Go.Proofs.YtppkgfcobnknfaaGreatDoor
/- DataBack: the walk. -/
namespace Go.Proofs.YtppkgfcobnknfaaGreatDoor
open Go.RowKit Go.Maps Arena
set_option maxHeartbeats 32000000
set_option maxRecDepth 100000
theorem dback_walk {w : World} {v vl : Value} {l : List Int} {hI : Hp} {Y : List (Value × List Cl)} (hv : RowsP w v 1 (l.map wordC)) (hv64 : ∀ x ∈ l, W64 x) (hY : MsL w vl Y) (hO : OpLie w) : Calls Tryz.prog 3 #[.agg #[v, .int .i64 hI.base, .int .i64 hI.half, .int .i64 hI.space, .int .i64 hI.top], vl] w (True10 w) := by
  have HV := Lib.hid hv; have HY := Lib.hid hY; have HO := Lib.hid hO; have H64 := Lib.hid hv64
  obtain ⟨ql, cl, rfl, hy1, hy2, -⟩ := hY.1.at
  obtain ⟨qv, cv, rfl, hv1, hv2, -⟩ := hv.at
  rw [List.length_map] at hv1 HV ⊢
  rw [List.length_map] at hy1 HY ⊢
  have HWk := Lib.hid (fun W (e : Ext w W) => wakes10 W (HO.out.ext e))
  have HLg := Lib.hid (fun W (e : Ext w W) => large_raw (a := hI.base) (b := hI.half) (c := hI.space) (d := hI.top) (WordSl.of_rows (HV.out.ext e)))
  clear hv hY hO hv64
  obtain ⟨ba, hf, sp, tp⟩ := hI
  dsimp only at *
  by_cases h4 : 400 < l.length
  · rw [decide_eq_true h4] at HLg
    clear h4
    go_enter Tryz.func3, Tryz.ntmps3
    go_upto_region 1 with fail
    refine wp_alloc1 fun W hE hS b0 => ?_
    obtain ⟨z0, z1, z2, z3, z4⟩ := cells5 b0
    have HE := Lib.hid hE; have B0 := Lib.hid b0
    clear hE b0
    go_wp2_with fail
    (with_reducible refine (HLg.out W HE.out).mono ?_)
    rintro e w1 ⟨rfl, hx1⟩
    have HXX := Lib.hid (HE.out.trans hx1)
    have B1 := Lib.hid (keep_ext B0.out hx1)
    clear hx1 z0 z1 z2 z3 z4 B0 HE
    go_wp2_with fail
    (with_reducible refine (HWk.out _ HXX.out).mono ?_)
    rintro e w9 ⟨rfl, hx9⟩
    have HX9 := Lib.hid (HXX.out.trans hx9)
    clear hx9
    go_wp2_with fail
    go_ret
    exact ⟨rfl, HX9.out⟩
  rw [decide_eq_false h4] at HLg
  by_cases h8 : 8 < Y.length
  · have t8 : (8 : Int) < (Y.length : Int) := by omega
    go_enter Tryz.func3, Tryz.ntmps3
    go_upto_region 1 with fail
    refine wp_alloc1 fun W hE hS b0 => ?_
    obtain ⟨z0, z1, z2, z3, z4⟩ := cells5 b0
    have HE := Lib.hid hE; have B0 := Lib.hid b0
    clear hE b0
    go_wp2_with fail
    (with_reducible refine (HLg.out W HE.out).mono ?_)
    rintro e w1 ⟨rfl, hx1⟩
    have HXX := Lib.hid (HE.out.trans hx1)
    have B1 := Lib.hid (keep_ext B0.out hx1)
    clear hx1 z0 z1 z2 z3 z4 B0 HE
    go_wp2_with fail
    (with_reducible refine (HWk.out _ HXX.out).mono ?_)
    rintro e w9 ⟨rfl, hx9⟩
    have HX9 := Lib.hid (HXX.out.trans hx9)
    clear hx9
    go_wp2_with fail
    go_ret
    exact ⟨rfl, HX9.out⟩
  have t8 : ¬ (8 : Int) < (Y.length : Int) := by omega
  go_enter Tryz.func3, Tryz.ntmps3
  go_upto_region 1 with fail
  refine wp_alloc1 fun W hE hS b0 => ?_
  obtain ⟨z0, z1, z2, z3, z4⟩ := cells5 b0
  have HE := Lib.hid hE; have B0 := Lib.hid b0
  clear hE b0
  go_wp2_with fail
  (with_reducible refine (HLg.out W HE.out).mono ?_)
  rintro e w1 ⟨rfl, hx1⟩
  have HXX := Lib.hid (HE.out.trans hx1)
  have B1 := Lib.hid (keep_ext B0.out hx1)
  clear hx1 z0 z1 z2 z3 z4 B0 HE
  obtain ⟨z0, z1, z2, z3, z4⟩ := cells5 B1.out
  have hw1 : w.heap.size < w1.heap.size := (Array.getElem?_eq_some_iff.1 B1.out).1
  go_wp2_with fail
  refine (lay_words (WordSl.of_rows (HV.out.ext HXX.out)) (by omega)).mono ?_
  rintro e w2 ⟨p, g, bm, q, gq, Bq, rfl, hB⟩
  have HB := Lib.hid hB
  have B2 := Lib.hid (keep_ext B1.out hB.ext)
  clear hB B1 z0 z1 z2 z3 z4 HLg
  obtain ⟨z0, z1, z2, z3, z4⟩ := cells5 B2.out
  have n0 := (Array.getElem?_eq_some_iff.1 B2.out).1
  go_upto_region 7 with fail
  refine wp_alloc2 fun W4 hE4 hS4 b2 b3 => ?_
  have hlt := HB.out.a.lt
  have hx2 : Ext w w2 := HXX.out.trans HB.out.ext
  have hgg : w.heap.size ≤ g := by have := HB.out.ge.2.1; have := HXX.out.size; omega
  have hwg : w.heap.size < g := by have h1 := HB.out.ge.2.1; omega
  have D4 := Lib.hid (show D10 w W4 p g bm w2.heap.size q (l.length + 10) (rigW l l.length) (rigR (max 1 l.length)) from ⟨HB.out.a.ext hE4, b2, hx2.trans hE4, hgg, by omega, by omega, by omega⟩)
  have B4 := Lib.hid (keep_ext B2.out hE4)
  have P4 := Lib.hid b3
  have hn2 : w.heap.size < w2.heap.size := n0
  clear hE4 hS4 b2 b3 hlt hx2 HB B2 z0 z1 z2 z3 z4 n0 hgg
  generalize hm : max 1 l.length = m at *
  have HMl := Lib.hid hm
  generalize hws : rigW l l.length = ws0 at *
  have HWS := Lib.hid (show ∀ x ∈ ws0, W64 x by rw [← hws]; exact rigW_mem H64.out l.length)
  clear hm hws
  generalize ht0 : w2.heap.size = t0 at *
  clear ht0
  have p0 := cell_at P4.out (i := 0) rfl
  have pf : ∀ i, W4.frozen? ⟨t0 + 1, i, none⟩ = false := fun i => free_at P4.out
  have n1 : t0 + 1 < W4.heap.size := (Array.getElem?_eq_some_iff.1 P4.out).1
  go_upto_region 8 with fail
  refine wp_fill1 P4.out fun W5 c5 hT5 hS5 => ?_
  replace c5 : W5.heap[t0 + 1]? = some (.cells #[.int .i64 3, .int .i64 hf, .int .i64 sp, .int .i64 tp] 24 (0, 0)) := c5.trans rfl
  have D5 := Lib.hid (D4.out.turn hT5 (by omega))
  have B5 := Lib.hid ((hT5.block w.heap.size (by omega) (by simp; omega)).trans B4.out)
  have P5 := Lib.hid c5
  clear c5 hT5 hS5 p0 pf D4 B4 P4
  obtain ⟨x0, x1⟩ := cells2 D5.out.two
  obtain ⟨y0, y1, y2, y3⟩ := cells4 P5.out
  have hgd := good_is D5.out.a ⟨3, hf, sp, tp⟩ (show (Lit.int .i64 (3 : Int)).wf = true by decide) HWS.out
  rcases ha : allH ws0 (rigR m) ⟨3, hf, sp, tp⟩ with _ | L
  · rw [ha] at hgd
    go_wp2_with fail
    (with_reducible refine hgd.mono ?_)
    rintro e w6 ⟨rfl, hx⟩
    have HX6 := Lib.hid (D5.out.x.trans hx)
    clear hx hgd x0 x1 y0 y1 y2 y3 HXX
    have HXX := HX6
    clear HX6
    go_wp2_with fail
    (with_reducible refine (HWk.out _ HXX.out).mono ?_)
    rintro e w9 ⟨rfl, hx9⟩
    have HX9 := Lib.hid (HXX.out.trans hx9)
    clear hx9
    go_wp2_with fail
    go_ret
    exact ⟨rfl, HX9.out⟩
  rw [ha] at hgd
  have HA := Lib.hid ha
  clear ha
  go_wp2_with fail
  (with_reducible refine hgd.mono ?_)
  rintro e w6 ⟨rfl, hx⟩
  have D6 := Lib.hid (D5.out.ext hx); have B6 := Lib.hid (keep_ext B5.out hx); have P6 := Lib.hid (keep_ext P5.out hx)
  clear hx hgd x0 x1 y0 y1 y2 y3 HXX D5 B5 P5
  obtain ⟨x0, x1⟩ := cells2 D6.out.two
  have hwr := words_rig D6.out.a
  go_wp2_with fail
  (with_reducible refine hwr.mono ?_)
  rintro e w7 ⟨qb, cb, rfl, ho, hx⟩
  have hs6 : t0 + 1 < w6.heap.size := (Array.getElem?_eq_some_iff.1 P6.out).1
  have K7 := Lib.hid (show St w w7 p g bm t0 q (l.length + 10) ws0 (rigR m) (t0 + 1) ⟨3, hf, sp, tp⟩ w7.heap.size (.slice none 0 0) [] (.slice none 0 0) [] (.slice qb m cb) (wordsAt ws0 (rigR m) 3) from ⟨D6.out.ext hx, keep_ext P6.out hx, OwnP.nil _ _ _ _, OwnP.nil _ _ _ _, (ho.mono (by omega)), fun b hb => (ho.own b hb).2, by omega, by have := Below.size hx; omega⟩)
  have B7 := Lib.hid (keep_ext B6.out hx)
  have hgr := D6.out.a.good
  have hln := D6.out.a.len
  have HG := Lib.hid hgr; have HL := Lib.hid hln
  have HBk := Lib.hid (Bk.start HA.out HWS.out hln)
  clear hwr ho hx x0 x1 D6 B6 P6 hgr hln
  go_upto_block 14 with fail
  generalize hwb : wordsAt ws0 (rigR m) 3 = WB at *
  have HWB := Lib.hid hwb
  have HBz := Lib.hid (Nat.le_refl w7.heap.size)
  generalize hbz : w7.heap.size = Bz at K7
  have HBZ := Lib.hid hbz
  clear hwb hbz HBz
  go_loopw [11, 12, 13] (fun va vb i wr => ∃ (k : Nat) (ws : List Int) (h : Hp) (xs : List Int) (Zs : List (Value × List Cl)), k ≤ Y.length ∧ i = .int .i64 k ∧ Bk (l.length + 10) (rigR m) ws0 ⟨3, hf, sp, tp⟩ ws h xs (Zs.map (·.2)) ∧ St w wr p g bm t0 q (l.length + 10) ws (rigR m) (t0 + 1) h Bz va xs vb Zs (.slice qb m cb) WB ∧ (∀ z ∈ Zs, z ∈ Y) ∧ xs.length ≤ k ∧ wr.heap[w.heap.size]? = some (.cells #[.slice qv l.length cv, .int .i64 ba, .int .i64 hf, .int .i64 sp, .int .i64 tp] 26 (0, 0)) ∧ Bz ≤ wr.heap.size) (fun _ _ i _ => Y.length - (Go.RowKit.intOf i).toNat)
  case atStart => exact ⟨0, ws0, ⟨3, hf, sp, tp⟩, [], [], by omega, rfl, HBk.out, K7.out, (fun z hz => by cases hz), by simp, B7.out, by rw [← HBZ.out]; exact Nat.le_refl _⟩
  case round =>
    obtain ⟨k, ws, h, xs, Zs, hk, rfl, hbk, hst, hzy, hxl, hbox, hsz⟩ := hrel
    have HBK := Lib.hid hbk; have HST := Lib.hid hst; have HZY := Lib.hid hzy; have HBX := Lib.hid hbox
    clear hbk hst hzy hbox K7 B7 HBk
    by_cases hlt : k < Y.length
    · skip
      --<<A
      have hy := List.getElem?_eq_getElem hlt
      generalize Y[k] = y at hy
      obtain ⟨vy, My⟩ := y
      have hym := List.mem_of_getElem? hy
      have hmy := HY.out.2 _ hym
      dsimp only at hmy
      obtain ⟨qy, cy, rfl, -, -, -⟩ := RowsP.at hmy
      rw [List.length_map] at hmy hy hym
      obtain ⟨q', c', hv', -, -, hcell⟩ := HY.out.1.at
      obtain ⟨bl, ol, hql, hcc⟩ := hcell k [.slice qy My.length cy] (by rw [List.getElem?_map, hy]; rfl)
      obtain ⟨rfl, -, -⟩ := Value.slice.inj hv'
      subst hql
      have yc := hcc 0 _ rfl
      rw [Nat.mul_one, Nat.add_zero] at yc
      have HMY := Lib.hid hmy; have HYM := Lib.hid hym
      have yr := HST.out.d.x.cell yc
      have i1 : (k : Int) < (Y.length : Int) := by omega
      clear hmy hy hym hcell hcc hv'
      have hlm := large_same (RowsP.ext HMY.out HST.out.d.x)
      go_wp2_with fail
      (with_reducible refine hlm.mono ?_)
      rintro e w8 ⟨bL, rfl, hlb, rfl⟩
      clear hlm
      cases bL with
      | true =>
        have HXX := Lib.hid HST.out.d.x
        clear hlb
        go_wp2_with fail
        (with_reducible refine (HWk.out _ HXX.out).mono ?_)
        rintro e w9 ⟨rfl, hx9⟩
        have HX9 := Lib.hid (HXX.out.trans hx9)
        clear hx9
        go_wp2_with fail
        go_ret
        exact ⟨rfl, HX9.out⟩
      | false =>
        clear hlb
        go_upto_region 18 with fail
        by_cases hb : inB' ws (rigR m) h My = true
        · have HDI := Lib.hid (fun V (kA : St w V p g bm t0 q (l.length + 10) ws (rigR m) (t0 + 1) h Bz u11 xs u12 Zs (.slice qb m cb) WB) => din_yes (M := My) kA.d.a h (show (Lit.int .i64 h.base).wf = true by rw [HBK.out.base.1]; exact (show (Lit.int .i64 (3 : Int)).wf = true by decide)) HBK.out.w64 (qm := qy) (cm := cy) (RowsP.ext HMY.out kA.d.x) (fun W t => RowsP.ext HMY.out (kA.d.out t)) hb)
          have HINB := Lib.hid hb
          clear hb yr
          generalize hx0 : wdC My (topN h) 0 = x0 at *
          have HX0 := Lib.hid hx0
          clear hx0
          go_cut [14, 15, 16] from 69 to 80 (fun v14 v15 v16 wx => ∃ nG, v14 = .pointer (some ⟨nG, 0, none⟩) ∧ v15 = .int .u64 x0 ∧ v16 = .bool true ∧ St w wx p g bm t0 q (l.length + 10) (inWs ws (rigR m) h My) (rigR m) (t0 + 1) h Bz u11 xs u12 Zs (.slice qb m cb) WB ∧ wx.heap[nG]? = some (.cells #[.int .i64 h.base, .int .i64 h.half, .int .i64 h.space, .int .i64 (h.top + (wsum My : Nat))] 24 (0, 0)) ∧ t0 < nG ∧ nG ≠ t0 + 1 ∧ wx.heap[w.heap.size]? = some (.cells #[.slice qv l.length cv, .int .i64 ba, .int .i64 hf, .int .i64 sp, .int .i64 tp] 26 (0, 0)) ∧ Bz ≤ wx.heap.size)
          case first =>
            refine wp_region_noPanic ?_
            refine wp_region_last 15 (S := (fun w' => w'.cell? ⟨t0, 0, none⟩ = some (.pointer (some ⟨p, 0, none⟩)) ∧ (w'.cell? ⟨t0 + 1, 0, none⟩ = some (.int .i64 h.base) ∧ w'.cell? ⟨t0 + 1, 1, none⟩ = some (.int .i64 h.half) ∧ w'.cell? ⟨t0 + 1, 2, none⟩ = some (.int .i64 h.space) ∧ w'.cell? ⟨t0 + 1, 3, none⟩ = some (.int .i64 h.top)) ∧ w'.cell? ⟨bl, ol + k, none⟩ = some (.slice qy My.length cy))) (by kernel_rfl) (by kernel_rfl) _ rfl ?_ (fun hHeld => ?_)
            · skip
              have kA := HST.out.ext (Ext.drew wr)
              have hbx := keep_ext HBX.out (Ext.drew wr)
              have hzz : Bz ≤ wr.drew.heap.size := Nat.le_trans hsz (Below.size (Ext.drew wr))
              generalize wr.drew = V at *
              (exact ⟨(cells2 kA.d.two).1, cells4 kA.hp, kA.d.x.cell yc⟩)
            have kA := HST.out.ext (Ext.drew wr)
            have hbx := keep_ext HBX.out (Ext.drew wr)
            have hzz : Bz ≤ wr.drew.heap.size := Nat.le_trans hsz (Below.size (Ext.drew wr))
            generalize wr.drew = V at *
            simp only [List.take_succ_cons, List.take_zero]
            refine wpAnyH_take (i := 0) (v := ?v1) rfl (by kernel_rfl) (by kernel_rfl) (by kernel_rfl) (fun _ _ _ h => h) (Or.inl ⟨by rfl, ?y1⟩) (by assumption) ?r1
            case y1 => intro w hSw; (try dsimp only at hSw); go_simp; (try with_reducible rfl)
            (try simp only [Act.put, List.setIfInBounds_toArray, List.set_cons_zero, List.set_cons_succ, List.getElem_toArray, List.getElem_cons_zero, List.getElem_cons_succ])
            refine wpAnyH_take (i := 1) (v := ?v2) rfl (by kernel_rfl) (by kernel_rfl) (by kernel_rfl) (fun _ _ _ h => h) (Or.inl ⟨by rfl, ?y2⟩) (by assumption) ?r2
            case y2 => intro w hSw; (try dsimp only at hSw); go_simp; (try with_reducible rfl)
            (try simp only [Act.put, List.setIfInBounds_toArray, List.set_cons_zero, List.set_cons_succ, List.getElem_toArray, List.getElem_cons_zero, List.getElem_cons_succ])
            refine wpAnyH_take (i := 2) (v := ?v3) rfl (by kernel_rfl) (by kernel_rfl) (by kernel_rfl) (fun _ _ _ h => h) (Or.inl ⟨by rfl, ?y3⟩) (by assumption) ?r3
            case y3 => intro w hSw; (try dsimp only at hSw); go_simp; (try with_reducible rfl)
            (try simp only [Act.put, List.setIfInBounds_toArray, List.set_cons_zero, List.set_cons_succ, List.getElem_toArray, List.getElem_cons_zero, List.getElem_cons_succ])
            refine wpAnyH_take (i := 3) (v := ?v4) rfl (by kernel_rfl) (by kernel_rfl) (by kernel_rfl) (fun _ _ _ h => h) (Or.inl ⟨by rfl, ?y4⟩) (by assumption) ?r4
            case y4 => intro w hSw; (try dsimp only at hSw); go_simp; (try with_reducible rfl)
            (try simp only [Act.put, List.setIfInBounds_toArray, List.set_cons_zero, List.set_cons_succ, List.getElem_toArray, List.getElem_cons_zero, List.getElem_cons_succ])
            refine wpAnyH_take (i := 4) (v := ?v5) rfl (by kernel_rfl) (by kernel_rfl) (by kernel_rfl) (fun _ _ _ h => h) (Or.inl ⟨by rfl, ?y5⟩) (by assumption) ?r5
            case y5 => intro w hSw; (try dsimp only at hSw); go_simp; (try with_reducible rfl)
            (try simp only [Act.put, List.setIfInBounds_toArray, List.set_cons_zero, List.set_cons_succ, List.getElem_toArray, List.getElem_cons_zero, List.getElem_cons_succ])
            refine wpAnyH_take (i := 5) (v := ?v6) rfl (by kernel_rfl) (by kernel_rfl) (by kernel_rfl) (fun _ _ _ h => h) (Or.inl ⟨by rfl, ?y6⟩) (by assumption) ?r6
            case y6 => intro w hSw; (try dsimp only at hSw); go_simp; (try with_reducible rfl)
            (try simp only [Act.put, List.setIfInBounds_toArray, List.set_cons_zero, List.set_cons_succ, List.getElem_toArray, List.getElem_cons_zero, List.getElem_cons_succ])
            refine wpAnyH_take (i := 6) (v := ?v7) rfl (by kernel_rfl) (by kernel_rfl) (by kernel_rfl) (fun _ _ _ h => h) (Or.inl ⟨by rfl, ?y7⟩) (by assumption) ?r7
            case y7 => intro w hSw; (try dsimp only at hSw); go_simp; (try with_reducible rfl)
            (try simp only [Act.put, List.setIfInBounds_toArray, List.set_cons_zero, List.set_cons_succ, List.getElem_toArray, List.getElem_cons_zero, List.getElem_cons_succ])
            refine wpAnyH_ready (rs := [7, 12]) (by kernel_rfl) (by simp) ?_
            refine AllReadyH.cons rfl (fun K hK => ?_) (AllReadyH.cons rfl (fun K hK => ?_) (AllReadyH.nil))
            · skip
              go_simp
              refine (HDI.out V kA).mono ?_
              rintro e w3 ⟨rfl, ha, ht⟩
              (try replace hAl := keep_blk hAl ht (by have := kA.d.ge; omega))
              replace hbx := (ht.block w.heap.size (Array.getElem?_eq_some_iff.1 hbx).1 (by simp; omega)).trans hbx
              replace hzz := Nat.le_trans hzz ht.size
              replace kA := kA.put ha ht
              clear ha ht
              generalize w3 = V at *
              refine hK.out _ _ ?s8 (fun hHeld => ?k8)
              case s8 => ((try dsimp only); (exact ⟨(cells2 kA.d.two).1, cells4 kA.hp, kA.d.x.cell yc⟩))
              clear hK K
              (try simp only [Act.put, List.setIfInBounds_toArray, List.set_cons_zero, List.set_cons_succ, List.getElem_toArray, List.getElem_cons_zero, List.getElem_cons_succ])
              refine wpAnyH_take (i := 8) (v := ?v9) rfl (by kernel_rfl) (by kernel_rfl) (by kernel_rfl) (fun _ _ _ h => h) (Or.inl ⟨by rfl, ?y9⟩) (by assumption) ?r9
              case y9 => intro w hSw; (try dsimp only at hSw); go_simp; (try with_reducible rfl)
              (try simp only [Act.put, List.setIfInBounds_toArray, List.set_cons_zero, List.set_cons_succ, List.getElem_toArray, List.getElem_cons_zero, List.getElem_cons_succ])
              refine wpAnyH_take (i := 9) (v := ?v10) rfl (by kernel_rfl) (by kernel_rfl) (by kernel_rfl) (fun _ _ _ h => h) (Or.inl ⟨by rfl, ?y10⟩) (by assumption) ?r10
              case y10 => intro w hSw; (try dsimp only at hSw); go_simp; (try with_reducible rfl)
              (try simp only [Act.put, List.setIfInBounds_toArray, List.set_cons_zero, List.set_cons_succ, List.getElem_toArray, List.getElem_cons_zero, List.getElem_cons_succ])
              refine wpAnyH_take (i := 10) (v := ?v11) rfl (by kernel_rfl) (by kernel_rfl) (by kernel_rfl) (fun _ _ _ h => h) (Or.inl ⟨by rfl, ?y11⟩) (by assumption) ?r11
              case y11 => intro w hSw; (try dsimp only at hSw); go_simp; (try with_reducible rfl)
              (try simp only [Act.put, List.setIfInBounds_toArray, List.set_cons_zero, List.set_cons_succ, List.getElem_toArray, List.getElem_cons_zero, List.getElem_cons_succ])
              refine wpAnyH_take (i := 11) (v := ?v12) rfl (by kernel_rfl) (by kernel_rfl) (by kernel_rfl) (fun _ _ _ h => h) (Or.inl ⟨by rfl, ?y12⟩) (by assumption) ?r12
              case y12 => intro w hSw; (try dsimp only at hSw); go_simp; (try with_reducible rfl)
              (try simp only [Act.put, List.setIfInBounds_toArray, List.set_cons_zero, List.set_cons_succ, List.getElem_toArray, List.getElem_cons_zero, List.getElem_cons_succ])
              refine wpAnyH_ready (rs := [12]) (by kernel_rfl) (by simp) ?_
              refine AllReadyH.cons rfl (fun K hK => ?_) AllReadyH.nil
              go_simp
              refine kk_gen (fun W' => Ext V W' ∧ W'.heap[V.heap.size]? = some (.cells #[.int .i64 0, .int .i64 0, .int .i64 0, .int .i64 0] 24 (0, 0))) ⟨Ext.alloc _ _, heap_alloc_new _ _⟩ fun V2 hV2 => ?_
              obtain ⟨e1, hAl⟩ := hV2
              have hgn := kA.d.lt
              have hn1' : V.heap.size ≠ t0 + 1 := by have := (Array.getElem?_eq_some_iff.1 kA.hp).1; omega
              replace kA := kA.ext e1
              replace hbx := keep_ext hbx e1
              replace hzz := Nat.le_trans hzz (Below.size e1)
              clear e1
              generalize V.heap.size = nG at *
              generalize V2 = V at *
              refine hK.out _ _ ?s13 (fun hHeld => ?k13)
              case s13 => ((try dsimp only); (exact ⟨(cells2 kA.d.two).1, cells4 kA.hp, kA.d.x.cell yc⟩))
              clear hK K
              (try simp only [Act.put, List.setIfInBounds_toArray, List.set_cons_zero, List.set_cons_succ, List.getElem_toArray, List.getElem_cons_zero, List.getElem_cons_succ])
              refine wpAnyH_ready (rs := [13]) (by kernel_rfl) (by simp) ?_
              refine AllReadyH.cons rfl (fun K hK => ?_) AllReadyH.nil
              have f0 := free_at hAl (i := 0)
              have f1 := free_at hAl (i := 1)
              have f2 := free_at hAl (i := 2)
              have f3 := free_at hAl (i := 3)
              obtain ⟨u0, u1, u2, u3⟩ := cells4 hAl
              have HAL := Lib.hid hAl; have HKA := Lib.hid kA; have HBB := Lib.hid hbx
              clear hAl kA hbx
              go_simp
              refine kk_gen (fun W' => W'.heap[nG]? = some (.cells #[.int .i64 h.base, .int .i64 h.half, .int .i64 h.space, .int .i64 (h.top + (wsum My : Nat))] 24 (0, 0)) ∧ Turn [nG] V W') ⟨(fill4 HAL.out _ _ _ _).1, (fill4 HAL.out _ _ _ _).2.1⟩ fun V2 hV2 => ?_
              clear u0 u1 u2 u3 f0 f1 f2 f3
              obtain ⟨hAl, hT⟩ := hV2
              have kA := HKA.out.turn HAL.out hT hgn hn1'
              have hbx := (hT.block w.heap.size (Array.getElem?_eq_some_iff.1 HBB.out).1 (by simp; omega)).trans HBB.out
              replace hzz := Nat.le_trans hzz hT.size
              clear HAL HKA HBB hT
              generalize V2 = V at *
              refine hK.out _ _ ?s14 (fun hHeld => ?k14)
              case s14 => ((try dsimp only); (exact ⟨(cells2 kA.d.two).1, cells4 kA.hp, kA.d.x.cell yc⟩))
              clear hK K
              (try simp only [Act.put, List.setIfInBounds_toArray, List.set_cons_zero, List.set_cons_succ, List.getElem_toArray, List.getElem_cons_zero, List.getElem_cons_succ])
              refine wpAnyH_take (i := 14) (v := ?v15) rfl (by kernel_rfl) (by kernel_rfl) (by kernel_rfl) (fun _ _ _ h => h) (Or.inl ⟨by rfl, ?y15⟩) (by assumption) ?r15
              case y15 => intro w hSw; (try dsimp only at hSw); go_simp; (try with_reducible rfl)
              (try simp only [Act.put, List.setIfInBounds_toArray, List.set_cons_zero, List.set_cons_succ, List.getElem_toArray, List.getElem_cons_zero, List.getElem_cons_succ])
              refine wpAnyH_done (by kernel_rfl) ?_ _
              show wpList _ _ _ _ _ _
              have HAL := Lib.hid hAl; have HKA := Lib.hid kA; have HBB := Lib.hid hbx
              clear hAl kA hbx hHeld
              go_wp2
              refine NoPanic.normal ?_
              go_wp2
              go_meet
              exact ⟨nG, rfl, rfl, rfl, HKA.out, HAL.out, hgn, hn1', HBB.out, hzz⟩
            · skip
              go_simp
              refine kk_gen (fun W' => Ext V W' ∧ W'.heap[V.heap.size]? = some (.cells #[.int .i64 0, .int .i64 0, .int .i64 0, .int .i64 0] 24 (0, 0))) ⟨Ext.alloc _ _, heap_alloc_new _ _⟩ fun V2 hV2 => ?_
              obtain ⟨e1, hAl⟩ := hV2
              have hgn := kA.d.lt
              have hn1' : V.heap.size ≠ t0 + 1 := by have := (Array.getElem?_eq_some_iff.1 kA.hp).1; omega
              replace kA := kA.ext e1
              replace hbx := keep_ext hbx e1
              replace hzz := Nat.le_trans hzz (Below.size e1)
              clear e1
              generalize V.heap.size = nG at *
              generalize V2 = V at *
              refine hK.out _ _ ?s16 (fun hHeld => ?k16)
              case s16 => ((try dsimp only); (exact ⟨(cells2 kA.d.two).1, cells4 kA.hp, kA.d.x.cell yc⟩))
              clear hK K
              (try simp only [Act.put, List.setIfInBounds_toArray, List.set_cons_zero, List.set_cons_succ, List.getElem_toArray, List.getElem_cons_zero, List.getElem_cons_succ])
              refine wpAnyH_ready (rs := [7]) (by kernel_rfl) (by simp) ?_
              refine AllReadyH.cons rfl (fun K hK => ?_) AllReadyH.nil
              go_simp
              refine (HDI.out V kA).mono ?_
              rintro e w3 ⟨rfl, ha, ht⟩
              (try replace hAl := keep_blk hAl ht (by have := kA.d.ge; omega))
              replace hbx := (ht.block w.heap.size (Array.getElem?_eq_some_iff.1 hbx).1 (by simp; omega)).trans hbx
              replace hzz := Nat.le_trans hzz ht.size
              replace kA := kA.put ha ht
              clear ha ht
              generalize w3 = V at *
              refine hK.out _ _ ?s17 (fun hHeld => ?k17)
              case s17 => ((try dsimp only); (exact ⟨(cells2 kA.d.two).1, cells4 kA.hp, kA.d.x.cell yc⟩))
              clear hK K
              (try simp only [Act.put, List.setIfInBounds_toArray, List.set_cons_zero, List.set_cons_succ, List.getElem_toArray, List.getElem_cons_zero, List.getElem_cons_succ])
              refine wpAnyH_take (i := 8) (v := ?v18) rfl (by kernel_rfl) (by kernel_rfl) (by kernel_rfl) (fun _ _ _ h => h) (Or.inl ⟨by rfl, ?y18⟩) (by assumption) ?r18
              case y18 => intro w hSw; (try dsimp only at hSw); go_simp; (try with_reducible rfl)
              (try simp only [Act.put, List.setIfInBounds_toArray, List.set_cons_zero, List.set_cons_succ, List.getElem_toArray, List.getElem_cons_zero, List.getElem_cons_succ])
              refine wpAnyH_take (i := 9) (v := ?v19) rfl (by kernel_rfl) (by kernel_rfl) (by kernel_rfl) (fun _ _ _ h => h) (Or.inl ⟨by rfl, ?y19⟩) (by assumption) ?r19
              case y19 => intro w hSw; (try dsimp only at hSw); go_simp; (try with_reducible rfl)
              (try simp only [Act.put, List.setIfInBounds_toArray, List.set_cons_zero, List.set_cons_succ, List.getElem_toArray, List.getElem_cons_zero, List.getElem_cons_succ])
              refine wpAnyH_take (i := 10) (v := ?v20) rfl (by kernel_rfl) (by kernel_rfl) (by kernel_rfl) (fun _ _ _ h => h) (Or.inl ⟨by rfl, ?y20⟩) (by assumption) ?r20
              case y20 => intro w hSw; (try dsimp only at hSw); go_simp; (try with_reducible rfl)
              (try simp only [Act.put, List.setIfInBounds_toArray, List.set_cons_zero, List.set_cons_succ, List.getElem_toArray, List.getElem_cons_zero, List.getElem_cons_succ])
              refine wpAnyH_take (i := 11) (v := ?v21) rfl (by kernel_rfl) (by kernel_rfl) (by kernel_rfl) (fun _ _ _ h => h) (Or.inl ⟨by rfl, ?y21⟩) (by assumption) ?r21
              case y21 => intro w hSw; (try dsimp only at hSw); go_simp; (try with_reducible rfl)
              (try simp only [Act.put, List.setIfInBounds_toArray, List.set_cons_zero, List.set_cons_succ, List.getElem_toArray, List.getElem_cons_zero, List.getElem_cons_succ])
              refine wpAnyH_ready (rs := [13]) (by kernel_rfl) (by simp) ?_
              refine AllReadyH.cons rfl (fun K hK => ?_) AllReadyH.nil
              have f0 := free_at hAl (i := 0)
              have f1 := free_at hAl (i := 1)
              have f2 := free_at hAl (i := 2)
              have f3 := free_at hAl (i := 3)
              obtain ⟨u0, u1, u2, u3⟩ := cells4 hAl
              have HAL := Lib.hid hAl; have HKA := Lib.hid kA; have HBB := Lib.hid hbx
              clear hAl kA hbx
              go_simp
              refine kk_gen (fun W' => W'.heap[nG]? = some (.cells #[.int .i64 h.base, .int .i64 h.half, .int .i64 h.space, .int .i64 (h.top + (wsum My : Nat))] 24 (0, 0)) ∧ Turn [nG] V W') ⟨(fill4 HAL.out _ _ _ _).1, (fill4 HAL.out _ _ _ _).2.1⟩ fun V2 hV2 => ?_
              clear u0 u1 u2 u3 f0 f1 f2 f3
              obtain ⟨hAl, hT⟩ := hV2
              have kA := HKA.out.turn HAL.out hT hgn hn1'
              have hbx := (hT.block w.heap.size (Array.getElem?_eq_some_iff.1 HBB.out).1 (by simp; omega)).trans HBB.out
              replace hzz := Nat.le_trans hzz hT.size
              clear HAL HKA HBB hT
              generalize V2 = V at *
              refine hK.out _ _ ?s22 (fun hHeld => ?k22)
              case s22 => ((try dsimp only); (exact ⟨(cells2 kA.d.two).1, cells4 kA.hp, kA.d.x.cell yc⟩))
              clear hK K
              (try simp only [Act.put, List.setIfInBounds_toArray, List.set_cons_zero, List.set_cons_succ, List.getElem_toArray, List.getElem_cons_zero, List.getElem_cons_succ])
              refine wpAnyH_take (i := 14) (v := ?v23) rfl (by kernel_rfl) (by kernel_rfl) (by kernel_rfl) (fun _ _ _ h => h) (Or.inl ⟨by rfl, ?y23⟩) (by assumption) ?r23
              case y23 => intro w hSw; (try dsimp only at hSw); go_simp; (try with_reducible rfl)
              (try simp only [Act.put, List.setIfInBounds_toArray, List.set_cons_zero, List.set_cons_succ, List.getElem_toArray, List.getElem_cons_zero, List.getElem_cons_succ])
              refine wpAnyH_done (by kernel_rfl) ?_ _
              show wpList _ _ _ _ _ _
              have HAL := Lib.hid hAl; have HKA := Lib.hid kA; have HBB := Lib.hid hbx
              clear hAl kA hbx hHeld
              go_wp2
              refine NoPanic.normal ?_
              go_wp2
              go_meet
              exact ⟨nG, rfl, rfl, rfl, HKA.out, HAL.out, hgn, hn1', HBB.out, hzz⟩
          case rest =>
            obtain ⟨nG, rfl, rfl, rfl, hst, hG, hgn, hn1', hbox, hsz2⟩ := hcut
            obtain ⟨hgM, -, hfit⟩ := inB_parts HINB.out
            have hok := (thereB_ok (allH_there HBK.out.all.choose_spec.1).1).1
            obtain ⟨k1, k2, k3, k4, k5, k6⟩ := hok
            have hsM := goodM_sum hgM
            have tt : decide (((wsum My : Nat) : Int) ≤ h.half - h.top) = true := decide_eq_true (by omega)
            have HBK2 := Lib.hid (HBK.out.step HG.out HINB.out)
            have HGM := Lib.hid hgM
            have KS := Lib.hid hst; have HGb := Lib.hid hG; have HBX2 := Lib.hid hbox
            have ry := fun d os => cell_regrown (hst.d.x.cell yc) d os
            obtain ⟨h0', h1', h2', h3'⟩ := cells4 hst.hp
            have r1 := fun d os => cell_regrown h1' d os
            have r3 := fun d os => cell_regrown h3' d os
            have CG := Lib.hid (fun d os => quiet_ext (d := d) (os := os) (by have h := refgood_msg (RowsP.ext HMY.out (hst.d.x.trans (Ext.regrown wc d os))); rw [hgM] at h; exact h))
            have CW := Lib.hid (fun d os => quiet_ext (d := d) (os := os) (refwords_msg (RowsP.ext HMY.out (hst.d.x.trans (Ext.regrown wc d os))) hgM))
            clear hst hG hbox HST HBX h0' h1' h2' h3' HDI hgM
            go_upto_region 19 with fail
            refine wp_region_quiet_below (by kernel_rfl) (by kernel_rfl) ?_
            repeat (first | go_big_quiet_step (first | exact CG.out _ _ | exact CW.out _ _) | quiet_step (first | exact CG.out _ _ | exact CW.out _ _))
            refine wpQuiet_nil ?_
            intro _ hw'
            obtain ⟨⟨dq, osq⟩, hw''⟩ := hw'
            subst hw''
            have hxr := Ext.regrown wc dq osq
            have K19 := Lib.hid (KS.out.ext hxr); have G19 := Lib.hid (keep_ext HGb.out hxr); have B19 := Lib.hid (keep_ext HBX2.out hxr)
            have hsz3 := Nat.le_trans hsz2 (Below.size hxr)
            clear ry r1 r3 CG CW KS HGb HBX2 hxr tt
            generalize Go.Sort.grow (redrawn wc dq) osq = w19 at *
            obtain ⟨L2, ha2, -⟩ := HBK2.out.all
            have ry := fun d os => cell_regrown (K19.out.d.x.cell yc) d os
            obtain ⟨h0', h1', h2', h3'⟩ := cells4 K19.out.hp
            obtain ⟨g0', g1', g2', g3'⟩ := cells4 G19.out
            obtain ⟨x0', x1'⟩ := cells2 K19.out.d.two
            have r3 := fun d os => cell_regrown h3' d os
            have rg0 := fun d os => cell_regrown g0' d os
            have rg1 := fun d os => cell_regrown g1' d os
            have rg2 := fun d os => cell_regrown g2' d os
            have rg3 := fun d os => cell_regrown g3' d os
            have rx0 := fun d os => cell_regrown x0' d os
            have CW := Lib.hid (fun d os => quiet_ext (d := d) (os := os) (words_msg (RowsP.ext HMY.out (K19.out.d.x.trans (Ext.regrown w19 d os))) HGM.out))
            have CG := Lib.hid (fun d os => quiet_ext (d := d) (os := os) (show Calls Tryz.prog 8 #[.pointer (some ⟨p, 0, none⟩), .agg #[.int .i64 h.base, .int .i64 h.half, .int .i64 h.space, .int .i64 (h.top + (wsum My : Nat))]] (Go.Sort.grow (redrawn w19 d) os) fun e w' => e = .returned (.bool true) ∧ Ext (Go.Sort.grow (redrawn w19 d) os) w' from by
              have hh := good_is (K19.out.d.a.ext (Ext.regrown w19 d os)) (hpMore h (wsum My)) (show (Lit.int .i64 h.base).wf = true by rw [HBK.out.base.1]; exact (show (Lit.int .i64 (3 : Int)).wf = true by decide)) HBK2.out.w64
              rw [ha2] at hh
              exact hh))
            clear h0' h1' h2' h3' g0' g1' g2' g3' x0' x1' ha2
            go_upto_region 22 with fail
            refine wp_region_quiet_below (by kernel_rfl) (by kernel_rfl) ?_
            repeat (first | go_big_quiet_step (first | exact CG.out _ _ | exact CW.out _ _) | quiet_step (first | exact CG.out _ _ | exact CW.out _ _))
            refine wpQuiet_nil ?_
            intro _ hw'
            obtain ⟨⟨dq, osq⟩, hw''⟩ := hw'
            subst hw''
            have hxr := Ext.regrown w19 dq osq
            have K22 := Lib.hid (K19.out.ext hxr); have G22 := Lib.hid (keep_ext G19.out hxr); have B22 := Lib.hid (keep_ext B19.out hxr)
            have hsz4 := Nat.le_trans hsz3 (Below.size hxr)
            clear ry r3 rg0 rg1 rg2 rg3 rx0 CG CW K19 G19 B19 hxr
            generalize Go.Sort.grow (redrawn w19 dq) osq = w22 at *
            obtain ⟨g0', g1', g2', g3'⟩ := cells4 G22.out
            obtain ⟨h0', h1', h2', h3'⟩ := cells4 K22.out.hp
            have hfz : ∀ i, w22.frozen? ⟨t0 + 1, i, none⟩ = false := fun i => free_at K22.out.hp
            have hlt1 : t0 + 1 < w22.heap.size := (Array.getElem?_eq_some_iff.1 K22.out.hp).1
            go_upto_region 25 with fail
            refine wp_fill4 K22.out.hp fun W24 c24 t24 s24 => ?_
            have K24 := Lib.hid (K22.out.fill (h' := hpMore h (wsum My)) c24 t24)
            have B24 := Lib.hid ((t24.block w.heap.size (Array.getElem?_eq_some_iff.1 B22.out).1 (by simp; omega)).trans B22.out)
            have hsz5 : Bz ≤ W24.heap.size := by omega
            clear g0' g1' g2' g3' h0' h1' h2' h3' hfz c24 t24 s24 K22 G22 B22
            have hzl : Zs.length = xs.length := by have := HBK.out.same; rw [List.length_map] at this; exact this.symm
            have HZN := Lib.hid (fun z (hz : z ∈ Zs ++ [(Value.slice qy My.length cy, My)]) => (List.mem_append.1 hz).elim (HZY.out z) (fun hz => by rw [List.mem_singleton.1 hz]; exact HYM.out))
            have HBK3 : Hid (Bk (l.length + 10) (rigR m) ws0 ⟨3, hf, sp, tp⟩ (inWs ws (rigR m) h My) (hpMore h (wsum My)) (xs ++ [x0]) ((Zs ++ [(Value.slice qy My.length cy, My)]).map (·.2))) := Lib.hid (by rw [List.map_append, ← HX0.out]; exact HBK2.out)
            refine wp_region_noPanic ?_
            refine wp_region_last 12 (S := (fun w' => w'.cell? ⟨bl, ol + k, none⟩ = some (.slice qy My.length cy))) (by kernel_rfl) (by kernel_rfl) _ rfl ?_ (fun hHeld => ?_)
            · skip
              have kA := K24.out.ext (Ext.drew W24)
              have hbx := keep_ext B24.out (Ext.drew W24)
              have hzz : Bz ≤ W24.drew.heap.size := Nat.le_trans hsz5 (Below.size (Ext.drew W24))
              generalize W24.drew = V at *
              (exact kA.d.x.cell yc)
            have kA := K24.out.ext (Ext.drew W24)
            have hbx := keep_ext B24.out (Ext.drew W24)
            have hzz : Bz ≤ W24.drew.heap.size := Nat.le_trans hsz5 (Below.size (Ext.drew W24))
            generalize W24.drew = V at *
            simp only [List.take_succ_cons, List.take_zero]
            refine wpAnyH_take (i := 0) (v := ?v24) rfl (by kernel_rfl) (by kernel_rfl) (by kernel_rfl) (fun _ _ _ h => h) (Or.inl ⟨by rfl, ?y24⟩) (by assumption) ?r24
            case y24 => intro w hSw; (try dsimp only at hSw); go_simp; (try with_reducible rfl)
            (try simp only [Act.put, List.setIfInBounds_toArray, List.set_cons_zero, List.set_cons_succ, List.getElem_toArray, List.getElem_cons_zero, List.getElem_cons_succ])
            refine wpAnyH_take (i := 1) (v := ?v25) rfl (by kernel_rfl) (by kernel_rfl) (by kernel_rfl) (fun _ _ _ h => h) (Or.inl ⟨by rfl, ?y25⟩) (by assumption) ?r25
            case y25 => intro w hSw; (try dsimp only at hSw); go_simp; (try with_reducible rfl)
            (try simp only [Act.put, List.setIfInBounds_toArray, List.set_cons_zero, List.set_cons_succ, List.getElem_toArray, List.getElem_cons_zero, List.getElem_cons_succ])
            refine wpAnyH_take (i := 4) (v := ?v26) rfl (by kernel_rfl) (by kernel_rfl) (by kernel_rfl) (fun _ _ _ h => h) (Or.inl ⟨by rfl, ?y26⟩) (by assumption) ?r26
            case y26 => intro w hSw; (try dsimp only at hSw); go_simp; (try with_reducible rfl)
            (try simp only [Act.put, List.setIfInBounds_toArray, List.set_cons_zero, List.set_cons_succ, List.getElem_toArray, List.getElem_cons_zero, List.getElem_cons_succ])
            refine wpAnyH_take (i := 5) (v := ?v27) rfl (by kernel_rfl) (by kernel_rfl) (by kernel_rfl) (fun _ _ _ h => h) (Or.inl ⟨by rfl, ?y27⟩) (by assumption) ?r27
            case y27 => intro w hSw; (try dsimp only at hSw); go_simp; (try with_reducible rfl)
            (try simp only [Act.put, List.setIfInBounds_toArray, List.set_cons_zero, List.set_cons_succ, List.getElem_toArray, List.getElem_cons_zero, List.getElem_cons_succ])
            refine wpAnyH_take (i := 6) (v := ?v28) rfl (by kernel_rfl) (by kernel_rfl) (by kernel_rfl) (fun _ _ _ h => h) (Or.inl ⟨by rfl, ?y28⟩) (by assumption) ?r28
            case y28 => intro w hSw; (try dsimp only at hSw); go_simp; (try with_reducible rfl)
            (try simp only [Act.put, List.setIfInBounds_toArray, List.set_cons_zero, List.set_cons_succ, List.getElem_toArray, List.getElem_cons_zero, List.getElem_cons_succ])
            refine wpAnyH_take (i := 7) (v := ?v29) rfl (by kernel_rfl) (by kernel_rfl) (by kernel_rfl) (fun _ _ _ h => h) (Or.inl ⟨by rfl, ?y29⟩) (by assumption) ?r29
            case y29 => intro w hSw; (try dsimp only at hSw); go_simp; (try with_reducible rfl)
            (try simp only [Act.put, List.setIfInBounds_toArray, List.set_cons_zero, List.set_cons_succ, List.getElem_toArray, List.getElem_cons_zero, List.getElem_cons_succ])
            refine wpAnyH_take (i := 8) (v := ?v30) rfl (by kernel_rfl) (by kernel_rfl) (by kernel_rfl) (fun _ _ _ h => h) (Or.inl ⟨by rfl, ?y30⟩) (by assumption) ?r30
            case y30 => intro w hSw; (try dsimp only at hSw); go_simp; (try with_reducible rfl)
            (try simp only [Act.put, List.setIfInBounds_toArray, List.set_cons_zero, List.set_cons_succ, List.getElem_toArray, List.getElem_cons_zero, List.getElem_cons_succ])
            refine wpAnyH_ready (rs := [2, 9]) (by kernel_rfl) (by simp) ?_
            refine AllReadyH.cons rfl (fun K hK => ?_) (AllReadyH.cons rfl (fun K hK => ?_) (AllReadyH.nil))
            · skip
              go_simp
              refine kk_gen (fun W' => Ext V W' ∧ W'.heap[V.heap.size]? = some (.cells #[.int .u64 x0] 42 (0, 0))) ⟨Ext.alloc _ _, heap_alloc_new _ _⟩ fun V2 hV2 => ?_
              obtain ⟨e1, hW1⟩ := hV2
              replace kA := kA.ext e1
              (try replace hM1 := keep_ext hM1 e1)
              replace hbx := keep_ext hbx e1
              replace hzz := Nat.le_trans hzz (Below.size e1)
              clear e1
              generalize V.heap.size = nw at *
              generalize V2 = V at *
              refine hK.out _ _ ?s31 (fun hHeld => ?k31)
              case s31 => ((try dsimp only); (exact kA.d.x.cell yc))
              clear hK K
              (try simp only [Act.put, List.setIfInBounds_toArray, List.set_cons_zero, List.set_cons_succ, List.getElem_toArray, List.getElem_cons_zero, List.getElem_cons_succ])
              refine wpAnyH_ready (rs := [3, 9]) (by kernel_rfl) (by simp) ?_
              refine AllReadyH.cons rfl (fun K hK => ?_) (AllReadyH.cons rfl (fun K hK => ?_) (AllReadyH.nil))
              · skip
                refine step_append_rows E64 (by rfl) _ _ (by rfl) Bz u11 (.slice (some ⟨nw, 0, none⟩) 1 1) (xs.map wordC) [wordC x0] (by rfl) kA.a (by rfl) (rows_of_block (cs := #[.int .u64 x0]) hW1 rfl (by intro u hu; simp at hu; subst hu; rfl)) (by simp; unfold maxLen; omega) (by simp; omega) hzz ?_
                intro v5 w5 ho5 hg5 hb5 hn5
                (try replace hM1 := grown_block hg5 hM1 (kA.a.not_at hM1 (by decide)))
                replace hbx := grown_block hg5 hbx (kA.a.not_at hbx (by decide))
                replace hzz := Nat.le_trans hzz hg5.size
                replace kA := kA.word ho5 hg5
                clear ho5 hg5 hb5 hn5 hW1
                generalize w5 = V at *
                refine hK.out _ _ ?s32 (fun hHeld => ?k32)
                case s32 => ((try dsimp only); (exact kA.d.x.cell yc))
                clear hK K
                (try simp only [Act.put, List.setIfInBounds_toArray, List.set_cons_zero, List.set_cons_succ, List.getElem_toArray, List.getElem_cons_zero, List.getElem_cons_succ])
                refine wpAnyH_ready (rs := [9]) (by kernel_rfl) (by simp) ?_
                refine AllReadyH.cons rfl (fun K hK => ?_) AllReadyH.nil
                go_simp
                refine kk_gen (fun W' => Ext V W' ∧ W'.heap[V.heap.size]? = some (.cells #[.slice qy My.length cy] 41 (0, 0))) ⟨Ext.alloc _ _, heap_alloc_new _ _⟩ fun V2 hV2 => ?_
                obtain ⟨e1, hM1⟩ := hV2
                replace kA := kA.ext e1
                (try replace hW1 := keep_ext hW1 e1)
                replace hbx := keep_ext hbx e1
                replace hzz := Nat.le_trans hzz (Below.size e1)
                clear e1
                generalize V.heap.size = nm at *
                generalize V2 = V at *
                refine hK.out _ _ ?s33 (fun hHeld => ?k33)
                case s33 => ((try dsimp only); (exact kA.d.x.cell yc))
                clear hK K
                (try simp only [Act.put, List.setIfInBounds_toArray, List.set_cons_zero, List.set_cons_succ, List.getElem_toArray, List.getElem_cons_zero, List.getElem_cons_succ])
                refine wpAnyH_ready (rs := [10]) (by kernel_rfl) (by simp) ?_
                refine AllReadyH.cons rfl (fun K hK => ?_) AllReadyH.nil
                refine step_append_rows EMs (by rfl) _ _ (by rfl) Bz u12 (.slice (some ⟨nm, 0, none⟩) 1 1) (Zs.map zC) [zC (Value.slice qy My.length cy, My)] (by rfl) kA.b (by rfl) (rows_of_block (cs := #[.slice qy My.length cy]) hM1 rfl (by intro u hu; simp at hu; subst hu; rfl)) (by simp; unfold maxLen; omega) (by simp; omega) hzz ?_
                intro v6 w6 ho6 hg6 hb6 hn6
                replace hbx := grown_block hg6 hbx (kA.b.not_at hbx (by decide))
                replace hzz := Nat.le_trans hzz hg6.size
                replace kA := kA.have_ (z := (Value.slice qy My.length cy, My)) ho6 hg6
                clear ho6 hg6 hb6 hn6 hM1
                generalize w6 = V at *
                refine hK.out _ _ ?s34 (fun hHeld => ?k34)
                case s34 => ((try dsimp only); (exact kA.d.x.cell yc))
                clear hK K
                (try simp only [Act.put, List.setIfInBounds_toArray, List.set_cons_zero, List.set_cons_succ, List.getElem_toArray, List.getElem_cons_zero, List.getElem_cons_succ])
                refine wpAnyH_take (i := 11) (v := ?v35) rfl (by kernel_rfl) (by kernel_rfl) (by kernel_rfl) (fun _ _ _ h => h) (Or.inl ⟨by rfl, ?y35⟩) (by assumption) ?r35
                case y35 => intro w hSw; (try dsimp only at hSw); go_simp; (try with_reducible rfl)
                (try simp only [Act.put, List.setIfInBounds_toArray, List.set_cons_zero, List.set_cons_succ, List.getElem_toArray, List.getElem_cons_zero, List.getElem_cons_succ])
                refine wpAnyH_done (by kernel_rfl) ?_ _
                show wpList _ _ _ _ _ _
                have HKA := Lib.hid kA; have HBB := Lib.hid hbx
                clear kA hbx hHeld
                go_wp2
                refine NoPanic.normal ?_
                go_wp2
                exact ⟨⟨k + 1, inWs ws (rigR m) h My, hpMore h (wsum My), xs ++ [x0], Zs ++ [(Value.slice qy My.length cy, My)], by omega, by go_num, HBK3.out, HKA.out, HZN.out, by simp; omega, HBB.out, hzz⟩, by simp [Go.RowKit.intOf]; omega⟩
              · skip
                go_simp
                refine kk_gen (fun W' => Ext V W' ∧ W'.heap[V.heap.size]? = some (.cells #[.slice qy My.length cy] 41 (0, 0))) ⟨Ext.alloc _ _, heap_alloc_new _ _⟩ fun V2 hV2 => ?_
                obtain ⟨e1, hM1⟩ := hV2
                replace kA := kA.ext e1
                (try replace hW1 := keep_ext hW1 e1)
                replace hbx := keep_ext hbx e1
                replace hzz := Nat.le_trans hzz (Below.size e1)
                clear e1
                generalize V.heap.size = nm at *
                generalize V2 = V at *
                refine hK.out _ _ ?s36 (fun hHeld => ?k36)
                case s36 => ((try dsimp only); (exact kA.d.x.cell yc))
                clear hK K
                (try simp only [Act.put, List.setIfInBounds_toArray, List.set_cons_zero, List.set_cons_succ, List.getElem_toArray, List.getElem_cons_zero, List.getElem_cons_succ])
                refine wpAnyH_ready (rs := [3]) (by kernel_rfl) (by simp) ?_
                refine AllReadyH.cons rfl (fun K hK => ?_) AllReadyH.nil
                refine step_append_rows E64 (by rfl) _ _ (by rfl) Bz u11 (.slice (some ⟨nw, 0, none⟩) 1 1) (xs.map wordC) [wordC x0] (by rfl) kA.a (by rfl) (rows_of_block (cs := #[.int .u64 x0]) hW1 rfl (by intro u hu; simp at hu; subst hu; rfl)) (by simp; unfold maxLen; omega) (by simp; omega) hzz ?_
                intro v5 w5 ho5 hg5 hb5 hn5
                (try replace hM1 := grown_block hg5 hM1 (kA.a.not_at hM1 (by decide)))
                replace hbx := grown_block hg5 hbx (kA.a.not_at hbx (by decide))
                replace hzz := Nat.le_trans hzz hg5.size
                replace kA := kA.word ho5 hg5
                clear ho5 hg5 hb5 hn5 hW1
                generalize w5 = V at *
                refine hK.out _ _ ?s37 (fun hHeld => ?k37)
                case s37 => ((try dsimp only); (exact kA.d.x.cell yc))
                clear hK K
                (try simp only [Act.put, List.setIfInBounds_toArray, List.set_cons_zero, List.set_cons_succ, List.getElem_toArray, List.getElem_cons_zero, List.getElem_cons_succ])
                refine wpAnyH_ready (rs := [10]) (by kernel_rfl) (by simp) ?_
                refine AllReadyH.cons rfl (fun K hK => ?_) AllReadyH.nil
                refine step_append_rows EMs (by rfl) _ _ (by rfl) Bz u12 (.slice (some ⟨nm, 0, none⟩) 1 1) (Zs.map zC) [zC (Value.slice qy My.length cy, My)] (by rfl) kA.b (by rfl) (rows_of_block (cs := #[.slice qy My.length cy]) hM1 rfl (by intro u hu; simp at hu; subst hu; rfl)) (by simp; unfold maxLen; omega) (by simp; omega) hzz ?_
                intro v6 w6 ho6 hg6 hb6 hn6
                replace hbx := grown_block hg6 hbx (kA.b.not_at hbx (by decide))
                replace hzz := Nat.le_trans hzz hg6.size
                replace kA := kA.have_ (z := (Value.slice qy My.length cy, My)) ho6 hg6
                clear ho6 hg6 hb6 hn6 hM1
                generalize w6 = V at *
                refine hK.out _ _ ?s38 (fun hHeld => ?k38)
                case s38 => ((try dsimp only); (exact kA.d.x.cell yc))
                clear hK K
                (try simp only [Act.put, List.setIfInBounds_toArray, List.set_cons_zero, List.set_cons_succ, List.getElem_toArray, List.getElem_cons_zero, List.getElem_cons_succ])
                refine wpAnyH_take (i := 11) (v := ?v39) rfl (by kernel_rfl) (by kernel_rfl) (by kernel_rfl) (fun _ _ _ h => h) (Or.inl ⟨by rfl, ?y39⟩) (by assumption) ?r39
                case y39 => intro w hSw; (try dsimp only at hSw); go_simp; (try with_reducible rfl)
                (try simp only [Act.put, List.setIfInBounds_toArray, List.set_cons_zero, List.set_cons_succ, List.getElem_toArray, List.getElem_cons_zero, List.getElem_cons_succ])
                refine wpAnyH_done (by kernel_rfl) ?_ _
                show wpList _ _ _ _ _ _
                have HKA := Lib.hid kA; have HBB := Lib.hid hbx
                clear kA hbx hHeld
                go_wp2
                refine NoPanic.normal ?_
                go_wp2
                exact ⟨⟨k + 1, inWs ws (rigR m) h My, hpMore h (wsum My), xs ++ [x0], Zs ++ [(Value.slice qy My.length cy, My)], by omega, by go_num, HBK3.out, HKA.out, HZN.out, by simp; omega, HBB.out, hzz⟩, by simp [Go.RowKit.intOf]; omega⟩
            · skip
              go_simp
              refine kk_gen (fun W' => Ext V W' ∧ W'.heap[V.heap.size]? = some (.cells #[.slice qy My.length cy] 41 (0, 0))) ⟨Ext.alloc _ _, heap_alloc_new _ _⟩ fun V2 hV2 => ?_
              obtain ⟨e1, hM1⟩ := hV2
              replace kA := kA.ext e1
              (try replace hW1 := keep_ext hW1 e1)
              replace hbx := keep_ext hbx e1
              replace hzz := Nat.le_trans hzz (Below.size e1)
              clear e1
              generalize V.heap.size = nm at *
              generalize V2 = V at *
              refine hK.out _ _ ?s40 (fun hHeld => ?k40)
              case s40 => ((try dsimp only); (exact kA.d.x.cell yc))
              clear hK K
              (try simp only [Act.put, List.setIfInBounds_toArray, List.set_cons_zero, List.set_cons_succ, List.getElem_toArray, List.getElem_cons_zero, List.getElem_cons_succ])
              refine wpAnyH_ready (rs := [2]) (by kernel_rfl) (by simp) ?_
              refine AllReadyH.cons rfl (fun K hK => ?_) AllReadyH.nil
              go_simp
              refine kk_gen (fun W' => Ext V W' ∧ W'.heap[V.heap.size]? = some (.cells #[.int .u64 x0] 42 (0, 0))) ⟨Ext.alloc _ _, heap_alloc_new _ _⟩ fun V2 hV2 => ?_
              obtain ⟨e1, hW1⟩ := hV2
              replace kA := kA.ext e1
              (try replace hM1 := keep_ext hM1 e1)
              replace hbx := keep_ext hbx e1
              replace hzz := Nat.le_trans hzz (Below.size e1)
              clear e1
              generalize V.heap.size = nw at *
              generalize V2 = V at *
              refine hK.out _ _ ?s41 (fun hHeld => ?k41)
              case s41 => ((try dsimp only); (exact kA.d.x.cell yc))
              clear hK K
              (try simp only [Act.put, List.setIfInBounds_toArray, List.set_cons_zero, List.set_cons_succ, List.getElem_toArray, List.getElem_cons_zero, List.getElem_cons_succ])
              refine wpAnyH_ready (rs := [3]) (by kernel_rfl) (by simp) ?_
              refine AllReadyH.cons rfl (fun K hK => ?_) AllReadyH.nil
              refine step_append_rows E64 (by rfl) _ _ (by rfl) Bz u11 (.slice (some ⟨nw, 0, none⟩) 1 1) (xs.map wordC) [wordC x0] (by rfl) kA.a (by rfl) (rows_of_block (cs := #[.int .u64 x0]) hW1 rfl (by intro u hu; simp at hu; subst hu; rfl)) (by simp; unfold maxLen; omega) (by simp; omega) hzz ?_
              intro v5 w5 ho5 hg5 hb5 hn5
              (try replace hM1 := grown_block hg5 hM1 (kA.a.not_at hM1 (by decide)))
              replace hbx := grown_block hg5 hbx (kA.a.not_at hbx (by decide))
              replace hzz := Nat.le_trans hzz hg5.size
              replace kA := kA.word ho5 hg5
              clear ho5 hg5 hb5 hn5 hW1
              generalize w5 = V at *
              refine hK.out _ _ ?s42 (fun hHeld => ?k42)
              case s42 => ((try dsimp only); (exact kA.d.x.cell yc))
              clear hK K
              (try simp only [Act.put, List.setIfInBounds_toArray, List.set_cons_zero, List.set_cons_succ, List.getElem_toArray, List.getElem_cons_zero, List.getElem_cons_succ])
              refine wpAnyH_ready (rs := [10]) (by kernel_rfl) (by simp) ?_
              refine AllReadyH.cons rfl (fun K hK => ?_) AllReadyH.nil
              refine step_append_rows EMs (by rfl) _ _ (by rfl) Bz u12 (.slice (some ⟨nm, 0, none⟩) 1 1) (Zs.map zC) [zC (Value.slice qy My.length cy, My)] (by rfl) kA.b (by rfl) (rows_of_block (cs := #[.slice qy My.length cy]) hM1 rfl (by intro u hu; simp at hu; subst hu; rfl)) (by simp; unfold maxLen; omega) (by simp; omega) hzz ?_
              intro v6 w6 ho6 hg6 hb6 hn6
              replace hbx := grown_block hg6 hbx (kA.b.not_at hbx (by decide))
              replace hzz := Nat.le_trans hzz hg6.size
              replace kA := kA.have_ (z := (Value.slice qy My.length cy, My)) ho6 hg6
              clear ho6 hg6 hb6 hn6 hM1
              generalize w6 = V at *
              refine hK.out _ _ ?s43 (fun hHeld => ?k43)
              case s43 => ((try dsimp only); (exact kA.d.x.cell yc))
              clear hK K
              (try simp only [Act.put, List.setIfInBounds_toArray, List.set_cons_zero, List.set_cons_succ, List.getElem_toArray, List.getElem_cons_zero, List.getElem_cons_succ])
              refine wpAnyH_take (i := 11) (v := ?v44) rfl (by kernel_rfl) (by kernel_rfl) (by kernel_rfl) (fun _ _ _ h => h) (Or.inl ⟨by rfl, ?y44⟩) (by assumption) ?r44
              case y44 => intro w hSw; (try dsimp only at hSw); go_simp; (try with_reducible rfl)
              (try simp only [Act.put, List.setIfInBounds_toArray, List.set_cons_zero, List.set_cons_succ, List.getElem_toArray, List.getElem_cons_zero, List.getElem_cons_succ])
              refine wpAnyH_done (by kernel_rfl) ?_ _
              show wpList _ _ _ _ _ _
              have HKA := Lib.hid kA; have HBB := Lib.hid hbx
              clear kA hbx hHeld
              go_wp2
              refine NoPanic.normal ?_
              go_wp2
              exact ⟨⟨k + 1, inWs ws (rigR m) h My, hpMore h (wsum My), xs ++ [x0], Zs ++ [(Value.slice qy My.length cy, My)], by omega, by go_num, HBK3.out, HKA.out, HZN.out, by simp; omega, HBB.out, hzz⟩, by simp [Go.RowKit.intOf]; omega⟩
        · have hbf : inB' ws (rigR m) h My = false := by simpa using hb
          have HDN := Lib.hid (fun V (kA : St w V p g bm t0 q (l.length + 10) ws (rigR m) (t0 + 1) h Bz u11 xs u12 Zs (.slice qb m cb) WB) => din_no kA.d.a h (show (Lit.int .i64 h.base).wf = true by rw [HBK.out.base.1]; exact (show (Lit.int .i64 (3 : Int)).wf = true by decide)) HBK.out.w64 (v := .slice qy My.length cy) (M := My) (RowsP.ext HMY.out kA.d.x) hbf)
          have HINF := Lib.hid hbf
          clear hb hbf yr
          go_cut [14, 15, 16] from 69 to 80 (fun _v14 _v15 v16 wx => v16 = .bool false ∧ St w wx p g bm t0 q (l.length + 10) ws (rigR m) (t0 + 1) h Bz u11 xs u12 Zs (.slice qb m cb) WB ∧ wx.heap[w.heap.size]? = some (.cells #[.slice qv l.length cv, .int .i64 ba, .int .i64 hf, .int .i64 sp, .int .i64 tp] 26 (0, 0)) ∧ Bz ≤ wx.heap.size)
          case first =>
            refine wp_region_noPanic ?_
            refine wp_region_last 15 (S := (fun w' => w'.cell? ⟨t0, 0, none⟩ = some (.pointer (some ⟨p, 0, none⟩)) ∧ (w'.cell? ⟨t0 + 1, 0, none⟩ = some (.int .i64 h.base) ∧ w'.cell? ⟨t0 + 1, 1, none⟩ = some (.int .i64 h.half) ∧ w'.cell? ⟨t0 + 1, 2, none⟩ = some (.int .i64 h.space) ∧ w'.cell? ⟨t0 + 1, 3, none⟩ = some (.int .i64 h.top)) ∧ w'.cell? ⟨bl, ol + k, none⟩ = some (.slice qy My.length cy))) (by kernel_rfl) (by kernel_rfl) _ rfl ?_ (fun hHeld => ?_)
            · skip
              have kA := HST.out.ext (Ext.drew wr)
              have hbx := keep_ext HBX.out (Ext.drew wr)
              have hzz : Bz ≤ wr.drew.heap.size := Nat.le_trans hsz (Below.size (Ext.drew wr))
              generalize wr.drew = V at *
              (exact ⟨(cells2 kA.d.two).1, cells4 kA.hp, kA.d.x.cell yc⟩)
            have kA := HST.out.ext (Ext.drew wr)
            have hbx := keep_ext HBX.out (Ext.drew wr)
            have hzz : Bz ≤ wr.drew.heap.size := Nat.le_trans hsz (Below.size (Ext.drew wr))
            generalize wr.drew = V at *
            simp only [List.take_succ_cons, List.take_zero]
            refine wpAnyH_take (i := 0) (v := ?v45) rfl (by kernel_rfl) (by kernel_rfl) (by kernel_rfl) (fun _ _ _ h => h) (Or.inl ⟨by rfl, ?y45⟩) (by assumption) ?r45
            case y45 => intro w hSw; (try dsimp only at hSw); go_simp; (try with_reducible rfl)
            (try simp only [Act.put, List.setIfInBounds_toArray, List.set_cons_zero, List.set_cons_succ, List.getElem_toArray, List.getElem_cons_zero, List.getElem_cons_succ])
            refine wpAnyH_take (i := 1) (v := ?v46) rfl (by kernel_rfl) (by kernel_rfl) (by kernel_rfl) (fun _ _ _ h => h) (Or.inl ⟨by rfl, ?y46⟩) (by assumption) ?r46
            case y46 => intro w hSw; (try dsimp only at hSw); go_simp; (try with_reducible rfl)
            (try simp only [Act.put, List.setIfInBounds_toArray, List.set_cons_zero, List.set_cons_succ, List.getElem_toArray, List.getElem_cons_zero, List.getElem_cons_succ])
            refine wpAnyH_take (i := 2) (v := ?v47) rfl (by kernel_rfl) (by kernel_rfl) (by kernel_rfl) (fun _ _ _ h => h) (Or.inl ⟨by rfl, ?y47⟩) (by assumption) ?r47
            case y47 => intro w hSw; (try dsimp only at hSw); go_simp; (try with_reducible rfl)
            (try simp only [Act.put, List.setIfInBounds_toArray, List.set_cons_zero, List.set_cons_succ, List.getElem_toArray, List.getElem_cons_zero, List.getElem_cons_succ])
            refine wpAnyH_take (i := 3) (v := ?v48) rfl (by kernel_rfl) (by kernel_rfl) (by kernel_rfl) (fun _ _ _ h => h) (Or.inl ⟨by rfl, ?y48⟩) (by assumption) ?r48
            case y48 => intro w hSw; (try dsimp only at hSw); go_simp; (try with_reducible rfl)
            (try simp only [Act.put, List.setIfInBounds_toArray, List.set_cons_zero, List.set_cons_succ, List.getElem_toArray, List.getElem_cons_zero, List.getElem_cons_succ])
            refine wpAnyH_take (i := 4) (v := ?v49) rfl (by kernel_rfl) (by kernel_rfl) (by kernel_rfl) (fun _ _ _ h => h) (Or.inl ⟨by rfl, ?y49⟩) (by assumption) ?r49
            case y49 => intro w hSw; (try dsimp only at hSw); go_simp; (try with_reducible rfl)
            (try simp only [Act.put, List.setIfInBounds_toArray, List.set_cons_zero, List.set_cons_succ, List.getElem_toArray, List.getElem_cons_zero, List.getElem_cons_succ])
            refine wpAnyH_take (i := 5) (v := ?v50) rfl (by kernel_rfl) (by kernel_rfl) (by kernel_rfl) (fun _ _ _ h => h) (Or.inl ⟨by rfl, ?y50⟩) (by assumption) ?r50
            case y50 => intro w hSw; (try dsimp only at hSw); go_simp; (try with_reducible rfl)
            (try simp only [Act.put, List.setIfInBounds_toArray, List.set_cons_zero, List.set_cons_succ, List.getElem_toArray, List.getElem_cons_zero, List.getElem_cons_succ])
            refine wpAnyH_take (i := 6) (v := ?v51) rfl (by kernel_rfl) (by kernel_rfl) (by kernel_rfl) (fun _ _ _ h => h) (Or.inl ⟨by rfl, ?y51⟩) (by assumption) ?r51
            case y51 => intro w hSw; (try dsimp only at hSw); go_simp; (try with_reducible rfl)
            (try simp only [Act.put, List.setIfInBounds_toArray, List.set_cons_zero, List.set_cons_succ, List.getElem_toArray, List.getElem_cons_zero, List.getElem_cons_succ])
            refine wpAnyH_ready (rs := [7, 12]) (by kernel_rfl) (by simp) ?_
            refine AllReadyH.cons rfl (fun K hK => ?_) (AllReadyH.cons rfl (fun K hK => ?_) (AllReadyH.nil))
            · skip
              go_simp
              refine (HDN.out V kA).mono ?_
              rintro e w3 ⟨rfl, hx⟩
              (try replace hAl := keep_ext hAl hx)
              replace hbx := keep_ext hbx hx
              replace hzz := Nat.le_trans hzz (Below.size hx)
              replace kA := kA.ext hx
              clear hx
              generalize w3 = V at *
              refine hK.out _ _ ?s52 (fun hHeld => ?k52)
              case s52 => ((try dsimp only); (exact ⟨(cells2 kA.d.two).1, cells4 kA.hp, kA.d.x.cell yc⟩))
              clear hK K
              (try simp only [Act.put, List.setIfInBounds_toArray, List.set_cons_zero, List.set_cons_succ, List.getElem_toArray, List.getElem_cons_zero, List.getElem_cons_succ])
              refine wpAnyH_take (i := 8) (v := ?v53) rfl (by kernel_rfl) (by kernel_rfl) (by kernel_rfl) (fun _ _ _ h => h) (Or.inl ⟨by rfl, ?y53⟩) (by assumption) ?r53
              case y53 => intro w hSw; (try dsimp only at hSw); go_simp; (try with_reducible rfl)
              (try simp only [Act.put, List.setIfInBounds_toArray, List.set_cons_zero, List.set_cons_succ, List.getElem_toArray, List.getElem_cons_zero, List.getElem_cons_succ])
              refine wpAnyH_take (i := 9) (v := ?v54) rfl (by kernel_rfl) (by kernel_rfl) (by kernel_rfl) (fun _ _ _ h => h) (Or.inl ⟨by rfl, ?y54⟩) (by assumption) ?r54
              case y54 => intro w hSw; (try dsimp only at hSw); go_simp; (try with_reducible rfl)
              (try simp only [Act.put, List.setIfInBounds_toArray, List.set_cons_zero, List.set_cons_succ, List.getElem_toArray, List.getElem_cons_zero, List.getElem_cons_succ])
              refine wpAnyH_take (i := 10) (v := ?v55) rfl (by kernel_rfl) (by kernel_rfl) (by kernel_rfl) (fun _ _ _ h => h) (Or.inl ⟨by rfl, ?y55⟩) (by assumption) ?r55
              case y55 => intro w hSw; (try dsimp only at hSw); go_simp; (try with_reducible rfl)
              (try simp only [Act.put, List.setIfInBounds_toArray, List.set_cons_zero, List.set_cons_succ, List.getElem_toArray, List.getElem_cons_zero, List.getElem_cons_succ])
              refine wpAnyH_take (i := 11) (v := ?v56) rfl (by kernel_rfl) (by kernel_rfl) (by kernel_rfl) (fun _ _ _ h => h) (Or.inl ⟨by rfl, ?y56⟩) (by assumption) ?r56
              case y56 => intro w hSw; (try dsimp only at hSw); go_simp; (try with_reducible rfl)
              (try simp only [Act.put, List.setIfInBounds_toArray, List.set_cons_zero, List.set_cons_succ, List.getElem_toArray, List.getElem_cons_zero, List.getElem_cons_succ])
              refine wpAnyH_ready (rs := [12]) (by kernel_rfl) (by simp) ?_
              refine AllReadyH.cons rfl (fun K hK => ?_) AllReadyH.nil
              go_simp
              refine kk_gen (fun W' => Ext V W' ∧ W'.heap[V.heap.size]? = some (.cells #[.int .i64 0, .int .i64 0, .int .i64 0, .int .i64 0] 24 (0, 0))) ⟨Ext.alloc _ _, heap_alloc_new _ _⟩ fun V2 hV2 => ?_
              obtain ⟨e1, hAl⟩ := hV2
              have hgn := kA.d.lt
              have hn1' : V.heap.size ≠ t0 + 1 := by have := (Array.getElem?_eq_some_iff.1 kA.hp).1; omega
              replace kA := kA.ext e1
              replace hbx := keep_ext hbx e1
              replace hzz := Nat.le_trans hzz (Below.size e1)
              clear e1
              generalize V.heap.size = nG at *
              generalize V2 = V at *
              refine hK.out _ _ ?s57 (fun hHeld => ?k57)
              case s57 => ((try dsimp only); (exact ⟨(cells2 kA.d.two).1, cells4 kA.hp, kA.d.x.cell yc⟩))
              clear hK K
              (try simp only [Act.put, List.setIfInBounds_toArray, List.set_cons_zero, List.set_cons_succ, List.getElem_toArray, List.getElem_cons_zero, List.getElem_cons_succ])
              refine wpAnyH_ready (rs := [13]) (by kernel_rfl) (by simp) ?_
              refine AllReadyH.cons rfl (fun K hK => ?_) AllReadyH.nil
              have f0 := free_at hAl (i := 0)
              have f1 := free_at hAl (i := 1)
              have f2 := free_at hAl (i := 2)
              have f3 := free_at hAl (i := 3)
              obtain ⟨u0, u1, u2, u3⟩ := cells4 hAl
              have HAL := Lib.hid hAl; have HKA := Lib.hid kA; have HBB := Lib.hid hbx
              clear hAl kA hbx
              go_simp
              refine kk_gen (fun W' => W'.heap[nG]? = some (.cells #[.int .i64 0, .int .i64 0, .int .i64 0, .int .i64 0] 24 (0, 0)) ∧ Turn [nG] V W') ⟨(fill4 HAL.out _ _ _ _).1, (fill4 HAL.out _ _ _ _).2.1⟩ fun V2 hV2 => ?_
              clear u0 u1 u2 u3 f0 f1 f2 f3
              obtain ⟨hAl, hT⟩ := hV2
              have kA := HKA.out.turn HAL.out hT hgn hn1'
              have hbx := (hT.block w.heap.size (Array.getElem?_eq_some_iff.1 HBB.out).1 (by simp; omega)).trans HBB.out
              replace hzz := Nat.le_trans hzz hT.size
              clear HAL HKA HBB hT
              generalize V2 = V at *
              refine hK.out _ _ ?s58 (fun hHeld => ?k58)
              case s58 => ((try dsimp only); (exact ⟨(cells2 kA.d.two).1, cells4 kA.hp, kA.d.x.cell yc⟩))
              clear hK K
              (try simp only [Act.put, List.setIfInBounds_toArray, List.set_cons_zero, List.set_cons_succ, List.getElem_toArray, List.getElem_cons_zero, List.getElem_cons_succ])
              refine wpAnyH_take (i := 14) (v := ?v59) rfl (by kernel_rfl) (by kernel_rfl) (by kernel_rfl) (fun _ _ _ h => h) (Or.inl ⟨by rfl, ?y59⟩) (by assumption) ?r59
              case y59 => intro w hSw; (try dsimp only at hSw); go_simp; (try with_reducible rfl)
              (try simp only [Act.put, List.setIfInBounds_toArray, List.set_cons_zero, List.set_cons_succ, List.getElem_toArray, List.getElem_cons_zero, List.getElem_cons_succ])
              refine wpAnyH_done (by kernel_rfl) ?_ _
              show wpList _ _ _ _ _ _
              have HKA := Lib.hid kA; have HBB := Lib.hid hbx
              clear hAl kA hbx hHeld
              go_wp2
              refine NoPanic.normal ?_
              go_wp2
              go_meet
              exact ⟨rfl, HKA.out, HBB.out, hzz⟩
            · skip
              go_simp
              refine kk_gen (fun W' => Ext V W' ∧ W'.heap[V.heap.size]? = some (.cells #[.int .i64 0, .int .i64 0, .int .i64 0, .int .i64 0] 24 (0, 0))) ⟨Ext.alloc _ _, heap_alloc_new _ _⟩ fun V2 hV2 => ?_
              obtain ⟨e1, hAl⟩ := hV2
              have hgn := kA.d.lt
              have hn1' : V.heap.size ≠ t0 + 1 := by have := (Array.getElem?_eq_some_iff.1 kA.hp).1; omega
              replace kA := kA.ext e1
              replace hbx := keep_ext hbx e1
              replace hzz := Nat.le_trans hzz (Below.size e1)
              clear e1
              generalize V.heap.size = nG at *
              generalize V2 = V at *
              refine hK.out _ _ ?s60 (fun hHeld => ?k60)
              case s60 => ((try dsimp only); (exact ⟨(cells2 kA.d.two).1, cells4 kA.hp, kA.d.x.cell yc⟩))
              clear hK K
              (try simp only [Act.put, List.setIfInBounds_toArray, List.set_cons_zero, List.set_cons_succ, List.getElem_toArray, List.getElem_cons_zero, List.getElem_cons_succ])
              refine wpAnyH_ready (rs := [7]) (by kernel_rfl) (by simp) ?_
              refine AllReadyH.cons rfl (fun K hK => ?_) AllReadyH.nil
              go_simp
              refine (HDN.out V kA).mono ?_
              rintro e w3 ⟨rfl, hx⟩
              (try replace hAl := keep_ext hAl hx)
              replace hbx := keep_ext hbx hx
              replace hzz := Nat.le_trans hzz (Below.size hx)
              replace kA := kA.ext hx
              clear hx
              generalize w3 = V at *
              refine hK.out _ _ ?s61 (fun hHeld => ?k61)
              case s61 => ((try dsimp only); (exact ⟨(cells2 kA.d.two).1, cells4 kA.hp, kA.d.x.cell yc⟩))
              clear hK K
              (try simp only [Act.put, List.setIfInBounds_toArray, List.set_cons_zero, List.set_cons_succ, List.getElem_toArray, List.getElem_cons_zero, List.getElem_cons_succ])
              refine wpAnyH_take (i := 8) (v := ?v62) rfl (by kernel_rfl) (by kernel_rfl) (by kernel_rfl) (fun _ _ _ h => h) (Or.inl ⟨by rfl, ?y62⟩) (by assumption) ?r62
              case y62 => intro w hSw; (try dsimp only at hSw); go_simp; (try with_reducible rfl)
              (try simp only [Act.put, List.setIfInBounds_toArray, List.set_cons_zero, List.set_cons_succ, List.getElem_toArray, List.getElem_cons_zero, List.getElem_cons_succ])
              refine wpAnyH_take (i := 9) (v := ?v63) rfl (by kernel_rfl) (by kernel_rfl) (by kernel_rfl) (fun _ _ _ h => h) (Or.inl ⟨by rfl, ?y63⟩) (by assumption) ?r63
              case y63 => intro w hSw; (try dsimp only at hSw); go_simp; (try with_reducible rfl)
              (try simp only [Act.put, List.setIfInBounds_toArray, List.set_cons_zero, List.set_cons_succ, List.getElem_toArray, List.getElem_cons_zero, List.getElem_cons_succ])
              refine wpAnyH_take (i := 10) (v := ?v64) rfl (by kernel_rfl) (by kernel_rfl) (by kernel_rfl) (fun _ _ _ h => h) (Or.inl ⟨by rfl, ?y64⟩) (by assumption) ?r64
              case y64 => intro w hSw; (try dsimp only at hSw); go_simp; (try with_reducible rfl)
              (try simp only [Act.put, List.setIfInBounds_toArray, List.set_cons_zero, List.set_cons_succ, List.getElem_toArray, List.getElem_cons_zero, List.getElem_cons_succ])
              refine wpAnyH_take (i := 11) (v := ?v65) rfl (by kernel_rfl) (by kernel_rfl) (by kernel_rfl) (fun _ _ _ h => h) (Or.inl ⟨by rfl, ?y65⟩) (by assumption) ?r65
              case y65 => intro w hSw; (try dsimp only at hSw); go_simp; (try with_reducible rfl)
              (try simp only [Act.put, List.setIfInBounds_toArray, List.set_cons_zero, List.set_cons_succ, List.getElem_toArray, List.getElem_cons_zero, List.getElem_cons_succ])
              refine wpAnyH_ready (rs := [13]) (by kernel_rfl) (by simp) ?_
              refine AllReadyH.cons rfl (fun K hK => ?_) AllReadyH.nil
              have f0 := free_at hAl (i := 0)
              have f1 := free_at hAl (i := 1)
              have f2 := free_at hAl (i := 2)
              have f3 := free_at hAl (i := 3)
              obtain ⟨u0, u1, u2, u3⟩ := cells4 hAl
              have HAL := Lib.hid hAl; have HKA := Lib.hid kA; have HBB := Lib.hid hbx
              clear hAl kA hbx
              go_simp
              refine kk_gen (fun W' => W'.heap[nG]? = some (.cells #[.int .i64 0, .int .i64 0, .int .i64 0, .int .i64 0] 24 (0, 0)) ∧ Turn [nG] V W') ⟨(fill4 HAL.out _ _ _ _).1, (fill4 HAL.out _ _ _ _).2.1⟩ fun V2 hV2 => ?_
              clear u0 u1 u2 u3 f0 f1 f2 f3
              obtain ⟨hAl, hT⟩ := hV2
              have kA := HKA.out.turn HAL.out hT hgn hn1'
              have hbx := (hT.block w.heap.size (Array.getElem?_eq_some_iff.1 HBB.out).1 (by simp; omega)).trans HBB.out
              replace hzz := Nat.le_trans hzz hT.size
              clear HAL HKA HBB hT
              generalize V2 = V at *
              refine hK.out _ _ ?s66 (fun hHeld => ?k66)
              case s66 => ((try dsimp only); (exact ⟨(cells2 kA.d.two).1, cells4 kA.hp, kA.d.x.cell yc⟩))
              clear hK K
              (try simp only [Act.put, List.setIfInBounds_toArray, List.set_cons_zero, List.set_cons_succ, List.getElem_toArray, List.getElem_cons_zero, List.getElem_cons_succ])
              refine wpAnyH_take (i := 14) (v := ?v67) rfl (by kernel_rfl) (by kernel_rfl) (by kernel_rfl) (fun _ _ _ h => h) (Or.inl ⟨by rfl, ?y67⟩) (by assumption) ?r67
              case y67 => intro w hSw; (try dsimp only at hSw); go_simp; (try with_reducible rfl)
              (try simp only [Act.put, List.setIfInBounds_toArray, List.set_cons_zero, List.set_cons_succ, List.getElem_toArray, List.getElem_cons_zero, List.getElem_cons_succ])
              refine wpAnyH_done (by kernel_rfl) ?_ _
              show wpList _ _ _ _ _ _
              have HKA := Lib.hid kA; have HBB := Lib.hid hbx
              clear hAl kA hbx hHeld
              go_wp2
              refine NoPanic.normal ?_
              go_wp2
              go_meet
              exact ⟨rfl, HKA.out, HBB.out, hzz⟩
          case rest =>
            obtain ⟨rfl, hst, hbox, hsz2⟩ := hcut
            have hok := (thereB_ok (allH_there HBK.out.all.choose_spec.1).1).1
            obtain ⟨k1, k2, k3, k4, k5, k6⟩ := hok
            have KS := Lib.hid hst; have HBX2 := Lib.hid hbox
            have ry := fun d os => cell_regrown (hst.d.x.cell yc) d os
            obtain ⟨h0', h1', h2', h3'⟩ := cells4 hst.hp
            have r1 := fun d os => cell_regrown h1' d os
            have r3 := fun d os => cell_regrown h3' d os
            rcases hgM : goodM My with _ | _
            · have CG := Lib.hid (fun d os => quiet_ext (d := d) (os := os) (by have h := refgood_msg (RowsP.ext HMY.out (hst.d.x.trans (Ext.regrown wc d os))); rw [hgM] at h; exact h))
              clear hst hbox HST HBX h0' h1' h2' h3' HDN hgM
              go_upto_region 19 with fail
              refine wp_region_quiet_below (by kernel_rfl) (by kernel_rfl) ?_
              repeat (first | go_big_quiet_step (exact CG.out _ _) | quiet_step (exact CG.out _ _))
              refine wpQuiet_nil ?_
              intro _ hw'
              obtain ⟨⟨dq, osq⟩, hw''⟩ := hw'
              subst hw''
              have hxr := Ext.regrown wc dq osq
              have K19 := Lib.hid (KS.out.ext hxr); have B19 := Lib.hid (keep_ext HBX2.out hxr)
              have hsz3 := Nat.le_trans hsz2 (Below.size hxr)
              clear ry r1 r3 CG KS HBX2 hxr
              generalize Go.Sort.grow (redrawn wc dq) osq = w19 at *
              go_wp2_with fail
              exact ⟨⟨k + 1, ws, h, xs, Zs, by omega, by go_num, HBK.out, K19.out, HZY.out, by omega, B19.out, hsz3⟩, by simp [Go.RowKit.intOf]; omega⟩
            · have hsM := goodM_sum hgM
              have hnf : ¬ h.top + (wsum My : Nat) ≤ h.half := fun hc => by
                have h1 := HINF.out
                unfold inB' at h1
                rw [hgM, HBK.out.all.choose_spec.1, decide_eq_true hc] at h1
                cases h1
              have tt : decide (((wsum My : Nat) : Int) ≤ h.half - h.top) = false := decide_eq_false (by omega)
              have CG := Lib.hid (fun d os => quiet_ext (d := d) (os := os) (by have h := refgood_msg (RowsP.ext HMY.out (hst.d.x.trans (Ext.regrown wc d os))); rw [hgM] at h; exact h))
              have CW := Lib.hid (fun d os => quiet_ext (d := d) (os := os) (refwords_msg (RowsP.ext HMY.out (hst.d.x.trans (Ext.regrown wc d os))) hgM))
              clear hst hbox HST HBX h0' h1' h2' h3' HDN hgM
              go_upto_region 19 with fail
              refine wp_region_quiet_below (by kernel_rfl) (by kernel_rfl) ?_
              repeat (first | go_big_quiet_step (first | exact CG.out _ _ | exact CW.out _ _) | quiet_step (first | exact CG.out _ _ | exact CW.out _ _))
              clear CW tt
              refine wpQuiet_nil ?_
              intro _ hw'
              obtain ⟨⟨dq, osq⟩, hw''⟩ := hw'
              subst hw''
              have hxr := Ext.regrown wc dq osq
              have K19 := Lib.hid (KS.out.ext hxr); have B19 := Lib.hid (keep_ext HBX2.out hxr)
              have hsz3 := Nat.le_trans hsz2 (Below.size hxr)
              clear ry r1 r3 CG KS HBX2 hxr
              generalize Go.Sort.grow (redrawn wc dq) osq = w19 at *
              go_wp2_with fail
              exact ⟨⟨k + 1, ws, h, xs, Zs, by omega, by go_num, HBK.out, K19.out, HZY.out, by omega, B19.out, hsz3⟩, by simp [Go.RowKit.intOf]; omega⟩
      -->>A
    · obtain rfl : k = Y.length := by omega
      have i1 : ¬ (Y.length : Int) < (Y.length : Int) := by omega
      have hok := (thereB_ok (allH_there HA.out).1).1
      have hfn := firstN_is hok
      obtain ⟨k1, k2, k3, k4, k5, k6⟩ := hok
      have hreg := (thereB_ok (allH_there HA.out).1).2
      have hsame := HBK.out.same
      rw [List.length_map] at hsame
      have HLast := Lib.hid (HBK.out.stays HG.out HL.out (allH_there HA.out).1)
      obtain ⟨qx, cx, hva, -, -⟩ := HST.out.a.len
      rw [List.length_map] at hva
      subst hva
      obtain ⟨qz, cz, hvb, -, -⟩ := HST.out.b.len
      rw [List.length_map, ← hsame] at hvb
      subst hvb
      generalize wr = wo at *
      go_upto_block 27 with fail
      go_loopw [17] (fun i wx => ∃ j : Nat, j ≤ xs.length ∧ i = .int .i64 j ∧ Ext wo wx) (fun i _ => xs.length - (Go.RowKit.intOf i).toNat)
      case atStart => exact ⟨0, by omega, rfl, Ext.refl _⟩
      case round =>
        obtain ⟨j, hj, rfl, hx⟩ := hrel
        have KJ := Lib.hid (HST.out.ext hx); have BJ := Lib.hid (keep_ext HBX.out hx); have HXJ := Lib.hid hx
        clear hx
        by_cases hlt : j < xs.length
        · skip
          --<<B
          have hxj := List.getElem?_eq_getElem hlt
          have hzj := List.getElem?_eq_getElem (show j < Zs.length by omega)
          generalize xs[j] = x at hxj
          generalize Zs[j] = z at hzj
          obtain ⟨vz, Mz⟩ := z
          have hmz := HY.out.2 _ (HZY.out _ (List.mem_of_getElem? hzj))
          dsimp only at hmz
          obtain ⟨qz', cz', rfl, -, -, -⟩ := RowsP.at hmz
          rw [List.length_map] at hmz hzj
          have hMs : (Zs.map (·.2))[j]? = some Mz := by rw [List.getElem?_map, hzj]; rfl
          have hgz := HBK.out.good Mz (List.mem_of_getElem? hMs)
          have hlz : 0 < Mz.length := (goodM_len hgz).1
          have hc0 := List.getElem?_eq_getElem hlz
          generalize Mz[0] = c0 at hc0
          obtain ⟨bz, oz, hqz, ck0, -, -, -⟩ := MsgP.cells hmz hc0
          rw [Nat.zero_mul, Nat.add_zero] at ck0
          have hint := HBK.out.int hxj hMs hc0
          have hout := HBK.out.out hxj hMs
          subst hqz
          generalize c0.kind = ck at *
          obtain ⟨bi, hbi⟩ : ∃ b, (ck == 0) = b := ⟨_, rfl⟩
          rw [hbi] at hint
          have hx64 := HBK.out.x64 x (List.mem_of_getElem? hxj)
          obtain ⟨gx, hgx, -, xc, -⟩ := HST.out.a.cell (i := j) (f := 0) (cs := wordC x) (u := .int .u64 x) (by rw [List.getElem?_map, hxj]; rfl) rfl
          obtain ⟨gz, hgz', -, zc, -⟩ := HST.out.b.cell (i := j) (f := 0) (cs := zC (Value.slice (some ⟨bz, oz, none⟩) Mz.length cz', Mz)) (u := .slice (some ⟨bz, oz, none⟩) Mz.length cz') (by rw [List.getElem?_map, hzj]; rfl) rfl
          rw [Nat.mul_one, Nat.add_zero] at xc zc
          subst hgx
          subst hgz'
          have HMZ := Lib.hid hmz
          have HOUT := Lib.hid (fun V (e : Ext wo V) => by
            have h := out_is (HST.out.ext e).d.a h (show (Lit.int .i64 h.base).wf = true by rw [HBK.out.base.1]; exact (show (Lit.int .i64 (3 : Int)).wf = true by decide)) HBK.out.w64 hx64
            rw [hout] at h
            exact h)
          have HIN := Lib.hid (fun W => by have h := refIsInt_is hx64 W; rw [hint] at h; exact h)
          have i2 : (j : Int) < (xs.length : Int) := by omega
          clear hxj hzj hmz hMs hgz hc0 hint hout hx64
          go_upto_region 29 with fail
          refine wp_region_noPanic ?_
          refine wp_region_last 12 (S := (fun w' => w'.cell? ⟨t0, 0, none⟩ = some (.pointer (some ⟨p, 0, none⟩)) ∧ (w'.cell? ⟨t0 + 1, 0, none⟩ = some (.int .i64 h.base) ∧ w'.cell? ⟨t0 + 1, 1, none⟩ = some (.int .i64 h.half) ∧ w'.cell? ⟨t0 + 1, 2, none⟩ = some (.int .i64 h.space) ∧ w'.cell? ⟨t0 + 1, 3, none⟩ = some (.int .i64 h.top)) ∧ w'.cell? ⟨gx, j, none⟩ = some (.int .u64 x))) (by kernel_rfl) (by kernel_rfl) _ rfl ?_ (fun hHeld => ?_)
          · skip
            have kx := HXJ.out.trans (Ext.drew wr)
            generalize wr.drew = V at *
            (exact ⟨(cells2 (HST.out.ext kx).d.two).1, cells4 (HST.out.ext kx).hp, kx.cell xc⟩)
          have kx := HXJ.out.trans (Ext.drew wr)
          generalize wr.drew = V at *
          simp only [List.take_succ_cons, List.take_zero]
          refine wpAnyH_take (i := 0) (v := ?v68) rfl (by kernel_rfl) (by kernel_rfl) (by kernel_rfl) (fun _ _ _ h => h) (Or.inl ⟨by rfl, ?y68⟩) (by assumption) ?r68
          case y68 => intro w hSw; (try dsimp only at hSw); go_simp; (try with_reducible rfl)
          (try simp only [Act.put, List.setIfInBounds_toArray, List.set_cons_zero, List.set_cons_succ, List.getElem_toArray, List.getElem_cons_zero, List.getElem_cons_succ])
          refine wpAnyH_take (i := 1) (v := ?v69) rfl (by kernel_rfl) (by kernel_rfl) (by kernel_rfl) (fun _ _ _ h => h) (Or.inl ⟨by rfl, ?y69⟩) (by assumption) ?r69
          case y69 => intro w hSw; (try dsimp only at hSw); go_simp; (try with_reducible rfl)
          (try simp only [Act.put, List.setIfInBounds_toArray, List.set_cons_zero, List.set_cons_succ, List.getElem_toArray, List.getElem_cons_zero, List.getElem_cons_succ])
          refine wpAnyH_take (i := 2) (v := ?v70) rfl (by kernel_rfl) (by kernel_rfl) (by kernel_rfl) (fun _ _ _ h => h) (Or.inl ⟨by rfl, ?y70⟩) (by assumption) ?r70
          case y70 => intro w hSw; (try dsimp only at hSw); go_simp; (try with_reducible rfl)
          (try simp only [Act.put, List.setIfInBounds_toArray, List.set_cons_zero, List.set_cons_succ, List.getElem_toArray, List.getElem_cons_zero, List.getElem_cons_succ])
          refine wpAnyH_take (i := 3) (v := ?v71) rfl (by kernel_rfl) (by kernel_rfl) (by kernel_rfl) (fun _ _ _ h => h) (Or.inl ⟨by rfl, ?y71⟩) (by assumption) ?r71
          case y71 => intro w hSw; (try dsimp only at hSw); go_simp; (try with_reducible rfl)
          (try simp only [Act.put, List.setIfInBounds_toArray, List.set_cons_zero, List.set_cons_succ, List.getElem_toArray, List.getElem_cons_zero, List.getElem_cons_succ])
          refine wpAnyH_take (i := 4) (v := ?v72) rfl (by kernel_rfl) (by kernel_rfl) (by kernel_rfl) (fun _ _ _ h => h) (Or.inl ⟨by rfl, ?y72⟩) (by assumption) ?r72
          case y72 => intro w hSw; (try dsimp only at hSw); go_simp; (try with_reducible rfl)
          (try simp only [Act.put, List.setIfInBounds_toArray, List.set_cons_zero, List.set_cons_succ, List.getElem_toArray, List.getElem_cons_zero, List.getElem_cons_succ])
          refine wpAnyH_take (i := 5) (v := ?v73) rfl (by kernel_rfl) (by kernel_rfl) (by kernel_rfl) (fun _ _ _ h => h) (Or.inl ⟨by rfl, ?y73⟩) (by assumption) ?r73
          case y73 => intro w hSw; (try dsimp only at hSw); go_simp; (try with_reducible rfl)
          (try simp only [Act.put, List.setIfInBounds_toArray, List.set_cons_zero, List.set_cons_succ, List.getElem_toArray, List.getElem_cons_zero, List.getElem_cons_succ])
          refine wpAnyH_take (i := 6) (v := ?v74) rfl (by kernel_rfl) (by kernel_rfl) (by kernel_rfl) (fun _ _ _ h => h) (Or.inl ⟨by rfl, ?y74⟩) (by assumption) ?r74
          case y74 => intro w hSw; (try dsimp only at hSw); go_simp; (try with_reducible rfl)
          (try simp only [Act.put, List.setIfInBounds_toArray, List.set_cons_zero, List.set_cons_succ, List.getElem_toArray, List.getElem_cons_zero, List.getElem_cons_succ])
          refine wpAnyH_ready (rs := [7]) (by kernel_rfl) (by simp) ?_
          refine AllReadyH.cons rfl (fun K hK => ?_) AllReadyH.nil
          go_simp
          refine (HOUT.out V kx).mono ?_
          rintro e w3 ⟨q3, c3, rfl, ho, hx⟩
          have hq3 := ho.p
          replace kx := kx.trans hx
          clear hx ho
          generalize w3 = V at *
          refine hK.out _ _ ?s75 (fun hHeld => ?k75)
          case s75 => ((try dsimp only); (exact ⟨(cells2 (HST.out.ext kx).d.two).1, cells4 (HST.out.ext kx).hp, kx.cell xc⟩))
          clear hK K
          (try simp only [Act.put, List.setIfInBounds_toArray, List.set_cons_zero, List.set_cons_succ, List.getElem_toArray, List.getElem_cons_zero, List.getElem_cons_succ])
          refine wpAnyH_take (i := 8) (v := ?v76) rfl (by kernel_rfl) (by kernel_rfl) (by kernel_rfl) (fun _ _ _ h => h) (Or.inl ⟨by rfl, ?y76⟩) (by assumption) ?r76
          case y76 => intro w hSw; (try dsimp only at hSw); go_simp; (try with_reducible rfl)
          (try simp only [Act.put, List.setIfInBounds_toArray, List.set_cons_zero, List.set_cons_succ, List.getElem_toArray, List.getElem_cons_zero, List.getElem_cons_succ])
          refine wpAnyH_take (i := 9) (v := ?v77) rfl (by kernel_rfl) (by kernel_rfl) (by kernel_rfl) (fun _ _ _ h => h) (Or.inl ⟨by rfl, ?y77⟩) (by assumption) ?r77
          case y77 => intro w hSw; (try dsimp only at hSw); go_simp; (try with_reducible rfl)
          (try simp only [Act.put, List.setIfInBounds_toArray, List.set_cons_zero, List.set_cons_succ, List.getElem_toArray, List.getElem_cons_zero, List.getElem_cons_succ])
          refine wpAnyH_take (i := 10) (v := ?v78) rfl (by kernel_rfl) (by kernel_rfl) (by kernel_rfl) (fun _ _ _ h => h) (Or.inl ⟨by rfl, ?y78⟩) (by assumption) ?r78
          case y78 => intro w hSw; (try dsimp only at hSw); go_simp; (try with_reducible rfl)
          (try simp only [Act.put, List.setIfInBounds_toArray, List.set_cons_zero, List.set_cons_succ, List.getElem_toArray, List.getElem_cons_zero, List.getElem_cons_succ])
          refine wpAnyH_take (i := 11) (v := ?v79) rfl (by kernel_rfl) (by kernel_rfl) (by kernel_rfl) (fun _ _ _ h => h) (Or.inl ⟨by rfl, ?y79⟩) (by assumption) ?r79
          case y79 => intro w hSw; (try dsimp only at hSw); go_simp; (try with_reducible rfl)
          (try simp only [Act.put, List.setIfInBounds_toArray, List.set_cons_zero, List.set_cons_succ, List.getElem_toArray, List.getElem_cons_zero, List.getElem_cons_succ])
          refine wpAnyH_done (by kernel_rfl) ?_ _
          show wpList _ _ _ _ _ _
          have HKX := Lib.hid kx; have HQ3 := Lib.hid hq3
          clear kx hq3 hHeld
          go_wp2
          refine NoPanic.normal ?_
          go_upto_region 30 with fail
          have hxw : Ext w V := HST.out.d.x.trans HKX.out
          have rx := fun d os => cell_regrown (HKX.out.cell xc) d os
          have rz := fun d os => cell_regrown (HKX.out.cell zc) d os
          have rk := fun d os => cell_regrown (hxw.cell ck0) d os
          have CM := Lib.hid (fun d os => quiet_ext (d := d) (os := os) (msg_true (M := Mz) (HQ3.out.ext (Ext.regrown V d os)) (RowsP.ext HMZ.out (hxw.trans (Ext.regrown V d os)))))
          have CI := Lib.hid (fun d os => quiet_same (d := d) (os := os) (HIN.out (Go.Sort.grow (redrawn V d) os)))
          clear hxw
          refine wp_region_quiet_below (by kernel_rfl) (by kernel_rfl) ?_
          repeat (first | go_big_quiet_step (first | exact CM.out _ _ | exact CI.out _ _) | quiet_step (first | exact CM.out _ _ | exact CI.out _ _))
          refine wpQuiet_nil ?_
          intro _ hw'
          obtain ⟨⟨dq, osq⟩, hw''⟩ := hw'
          subst hw''
          have HXn := Lib.hid (HKX.out.trans (Ext.regrown V dq osq))
          clear rx rz rk CM CI
          generalize Go.Sort.grow (redrawn V dq) osq = w30 at *
          go_wp2_with fail
          exact ⟨⟨j + 1, by omega, by go_num, HXn.out⟩, by simp [Go.RowKit.intOf]; omega⟩
          -->>B
        · obtain rfl : j = xs.length := by omega
          have i2 : ¬ (xs.length : Int) < (xs.length : Int) := by omega
          obtain ⟨hf1, hf2, hf3⟩ := hfn
          (try dsimp only at hf1); (try dsimp only at hf3); (try dsimp only at k1); (try dsimp only at k2); (try dsimp only at k3); (try dsimp only at k4); (try dsimp only at k5); (try dsimp only at k6)
          obtain ⟨x0, x1⟩ := cells2 KJ.out.d.two
          have hwr := words_rig KJ.out.d.a
          go_wp2_with fail
          (with_reducible refine hwr.mono ?_)
          rintro e w40 ⟨q40, c40, rfl, ho, hx⟩
          have K40 := Lib.hid (KJ.out.ext hx); have B40 := Lib.hid (keep_ext BJ.out hx); have O40 := Lib.hid (ho.mono (Nat.zero_le _))
          clear hwr ho hx x0 x1 KJ BJ HXJ
          obtain ⟨z0, z1, z2, z3, z4⟩ := cells5 B40.out
          generalize hfe : firstN ⟨3, hf, sp, tp⟩ = f at *
          have HFE := Lib.hid hfe
          have hspf : sp * hf = (f : Int) := hf1.symm
          obtain ⟨tn, rfl⟩ := Int.eq_ofNat_of_zero_le k5
          have hmf : f + tn ≤ m := by rw [rig_len] at hreg; (try dsimp only at hreg); omega
          have hfm : f < m := by rw [rig_len] at hreg; (try dsimp only at hreg); omega
          clear hf1 hfe hreg
          go_upto_region 36 with fail
          obtain ⟨gb, hgb, -, -, -⟩ : ∃ gb, qb = some ⟨gb, 0, none⟩ ∧ True ∧ True ∧ True := by
            rcases K40.out.bef.forms with ⟨_, h0⟩ | ⟨gg, cap, cur, hv, _⟩
            · have := congrArg List.length h0
              rw [List.length_map, ← HWB.out, wordsAt_len HG.out HL.out, rig_len] at this
              simp at this
              omega
            · exact ⟨gg, (Value.slice.inj hv).1, trivial, trivial, trivial⟩
          obtain ⟨ga, hga, -, -, -⟩ : ∃ ga, q40 = some ⟨ga, 0, none⟩ ∧ True ∧ True ∧ True := by
            rcases O40.out.forms with ⟨_, h0⟩ | ⟨gg, cap, cur, hv, _⟩
            · have := congrArg List.length h0
              rw [List.length_map, wordsAt_len HG.out (HBK.out.len), rig_len] at this
              simp at this
              omega
            · exact ⟨gg, (Value.slice.inj hv).1, trivial, trivial, trivial⟩
          subst hgb
          subst hga
          have hwl : WB.length = m := by rw [← HWB.out, wordsAt_len HG.out HL.out, rig_len]
          have hwl2 : (wordsAt ws (rigR m) 3).length = m := by rw [wordsAt_len HG.out HBK.out.len, rig_len]
          obtain ⟨_, cb', hvb, hcb, -⟩ := K40.out.bef.len
          obtain ⟨-, -, rfl⟩ := Value.slice.inj hvb
          obtain ⟨_, ca', hvc, hca, -⟩ := O40.out.len
          obtain ⟨-, -, rfl⟩ := Value.slice.inj hvc
          rw [List.length_map] at hcb hca
          have hs1 : ∀ W, (Instr.slice 22 (.slice (some ⟨gb, 0, none⟩) m cb) (some (.int .i64 (f : Int))) (some (.int .i64 ((f : Int) + (tn : Int)))) none).run Tryz.prog W = .ok (.slice (some ⟨gb, f, none⟩) tn (cb - f)) W := fun W => by
            have := run_mid W gb m cb f (f + tn) (by omega) (by omega) (by omega)
            rwa [Int.natCast_add, Nat.add_sub_cancel_left] at this
          have hs2 : ∀ W, (Instr.slice 22 (.slice (some ⟨ga, 0, none⟩) m c40) (some (.int .i64 (f : Int))) (some (.int .i64 ((f : Int) + (tn : Int)))) none).run Tryz.prog W = .ok (.slice (some ⟨ga, f, none⟩) tn (c40 - f)) W := fun W => by
            have := run_mid W ga m c40 f (f + tn) (by omega) (by omega) (by omega)
            rwa [Int.natCast_add, Nat.add_sub_cancel_left] at this
          have HKW := Lib.hid (fun V (e : Ext w40 V) => by
            have h := keep_words (mid_words (f := f) (tn := tn) (K40.out.bef.ext e) hwl.symm hmf) (mid_words (f := f) (tn := tn) (O40.out.ext e) hwl2.symm hmf)
            have he := HLast.out
            rw [HWB.out] at he
            rw [decide_eq_true (show (WB.drop f).take tn = ((wordsAt ws (rigR m) 3).drop f).take tn from by have := he.symm; simpa using this)] at h
            exact h)
          have hwp : IntKind.i64.wrap ((f : Int) + (tn : Int)) = (f : Int) + (tn : Int) := IntWalk.i64_in _ (by omega)
          have HX40 := Lib.hid K40.out.d.x
          have z4' := z4
          clear hvb hvc hcb hca hwl hwl2 z0 z1 z2 z3
          refine wp_region_noPanic ?_
          refine wp_region_last 20 (S := (fun w' => w'.cell? ⟨w.heap.size, 4, none⟩ = some (.int .i64 (tn : Int)))) (by kernel_rfl) (by kernel_rfl) _ rfl ?_ (fun hHeld => ?_)
          · skip
            have kx := Ext.drew w40
            generalize w40.drew = V at *
            (exact kx.cell z4')
          have kx := Ext.drew w40
          generalize w40.drew = V at *
          simp only [List.take_succ_cons, List.take_zero]
          refine wpAnyH_take (i := 0) (v := ?v80) rfl (by kernel_rfl) (by kernel_rfl) (by kernel_rfl) (fun _ _ _ h => h) (Or.inl ⟨by rfl, ?y80⟩) (by assumption) ?r80
          case y80 => intro w hSw; (try dsimp only at hSw); go_simp; (try with_reducible rfl)
          (try simp only [Act.put, List.setIfInBounds_toArray, List.set_cons_zero, List.set_cons_succ, List.getElem_toArray, List.getElem_cons_zero, List.getElem_cons_succ])
          refine wpAnyH_take (i := 1) (v := ?v81) rfl (by kernel_rfl) (by kernel_rfl) (by kernel_rfl) (fun _ _ _ h => h) (Or.inl ⟨by rfl, ?y81⟩) (by assumption) ?r81
          case y81 => intro w hSw; (try dsimp only at hSw); go_simp; (try with_reducible rfl)
          (try simp only [Act.put, List.setIfInBounds_toArray, List.set_cons_zero, List.set_cons_succ, List.getElem_toArray, List.getElem_cons_zero, List.getElem_cons_succ])
          refine wpAnyH_take (i := 2) (v := ?v82) rfl (by kernel_rfl) (by kernel_rfl) (by kernel_rfl) (fun _ _ _ h => h) (Or.inl ⟨by rfl, ?y82⟩) (by assumption) ?r82
          case y82 => intro w hSw; (try dsimp only at hSw); go_simp; (try with_reducible rfl)
          (try simp only [Act.put, List.setIfInBounds_toArray, List.set_cons_zero, List.set_cons_succ, List.getElem_toArray, List.getElem_cons_zero, List.getElem_cons_succ])
          refine wpAnyH_take (i := 3) (v := ?v83) rfl (by kernel_rfl) (by kernel_rfl) (by kernel_rfl) (fun _ _ _ h => h) (Or.inl ⟨by rfl, ?y83⟩) (by assumption) ?r83
          case y83 => intro w hSw; (try dsimp only at hSw); go_simp; (try with_reducible rfl)
          (try simp only [Act.put, List.setIfInBounds_toArray, List.set_cons_zero, List.set_cons_succ, List.getElem_toArray, List.getElem_cons_zero, List.getElem_cons_succ])
          refine wpAnyH_take (i := 4) (v := ?v84) rfl (by kernel_rfl) (by kernel_rfl) (by kernel_rfl) (fun _ _ _ h => h) (Or.inl ⟨by rfl, ?y84⟩) (by assumption) ?r84
          case y84 => intro w hSw; (try dsimp only at hSw); go_simp; (try with_reducible rfl)
          (try simp only [Act.put, List.setIfInBounds_toArray, List.set_cons_zero, List.set_cons_succ, List.getElem_toArray, List.getElem_cons_zero, List.getElem_cons_succ])
          refine wpAnyH_take (i := 5) (v := ?v85) rfl (by kernel_rfl) (by kernel_rfl) (by kernel_rfl) (fun _ _ _ h => h) (Or.inl ⟨by rfl, ?y85⟩) (by assumption) ?r85
          case y85 => intro w hSw; (try dsimp only at hSw); go_simp; (try with_reducible rfl)
          (try simp only [Act.put, List.setIfInBounds_toArray, List.set_cons_zero, List.set_cons_succ, List.getElem_toArray, List.getElem_cons_zero, List.getElem_cons_succ])
          refine wpAnyH_take (i := 6) (v := ?v86) rfl (by kernel_rfl) (by kernel_rfl) (by kernel_rfl) (fun _ _ _ h => h) (Or.inl ⟨by rfl, ?y86⟩) (by assumption) ?r86
          case y86 => intro w hSw; (try dsimp only at hSw); go_simp; (try with_reducible rfl)
          (try simp only [Act.put, List.setIfInBounds_toArray, List.set_cons_zero, List.set_cons_succ, List.getElem_toArray, List.getElem_cons_zero, List.getElem_cons_succ])
          refine wpAnyH_take (i := 7) (v := ?v87) rfl (by kernel_rfl) (by kernel_rfl) (by kernel_rfl) (fun _ _ _ h => h) (Or.inl ⟨by rfl, ?y87⟩) (by assumption) ?r87
          case y87 => intro w hSw; (try dsimp only at hSw); go_simp; (try with_reducible rfl)
          (try simp only [Act.put, List.setIfInBounds_toArray, List.set_cons_zero, List.set_cons_succ, List.getElem_toArray, List.getElem_cons_zero, List.getElem_cons_succ])
          refine wpAnyH_take (i := 8) (v := ?v88) rfl (by kernel_rfl) (by kernel_rfl) (by kernel_rfl) (fun _ _ _ h => h) (Or.inl ⟨by rfl, ?y88⟩) (by assumption) ?r88
          case y88 => intro w hSw; (try dsimp only at hSw); go_simp; (try with_reducible rfl)
          (try simp only [Act.put, List.setIfInBounds_toArray, List.set_cons_zero, List.set_cons_succ, List.getElem_toArray, List.getElem_cons_zero, List.getElem_cons_succ])
          refine wpAnyH_take (i := 9) (v := ?v89) rfl (by kernel_rfl) (by kernel_rfl) (by kernel_rfl) (fun _ _ _ h => h) (Or.inl ⟨by rfl, ?y89⟩) (by assumption) ?r89
          case y89 => intro w hSw; (try dsimp only at hSw); go_simp; (try with_reducible rfl)
          (try simp only [Act.put, List.setIfInBounds_toArray, List.set_cons_zero, List.set_cons_succ, List.getElem_toArray, List.getElem_cons_zero, List.getElem_cons_succ])
          refine wpAnyH_take (i := 10) (v := ?v90) rfl (by kernel_rfl) (by kernel_rfl) (by kernel_rfl) (fun _ _ _ h => h) (Or.inl ⟨by rfl, ?y90⟩) (by assumption) ?r90
          case y90 => intro w hSw; (try dsimp only at hSw); go_simp; (try with_reducible rfl)
          (try simp only [Act.put, List.setIfInBounds_toArray, List.set_cons_zero, List.set_cons_succ, List.getElem_toArray, List.getElem_cons_zero, List.getElem_cons_succ])
          refine wpAnyH_take (i := 11) (v := ?v91) rfl (by kernel_rfl) (by kernel_rfl) (by kernel_rfl) (fun _ _ _ h => h) (Or.inl ⟨by rfl, ?y91⟩) (by assumption) ?r91
          case y91 => intro w hSw; (try dsimp only at hSw); go_simp; (try with_reducible rfl)
          (try simp only [Act.put, List.setIfInBounds_toArray, List.set_cons_zero, List.set_cons_succ, List.getElem_toArray, List.getElem_cons_zero, List.getElem_cons_succ])
          refine wpAnyH_take (i := 12) (v := ?v92) rfl (by kernel_rfl) (by kernel_rfl) (by kernel_rfl) (fun _ _ _ h => h) (Or.inl ⟨by rfl, ?y92⟩) (by assumption) ?r92
          case y92 => intro w hSw; (try dsimp only at hSw); go_simp; (try with_reducible rfl)
          (try simp only [Act.put, List.setIfInBounds_toArray, List.set_cons_zero, List.set_cons_succ, List.getElem_toArray, List.getElem_cons_zero, List.getElem_cons_succ])
          refine wpAnyH_take (i := 13) (v := ?v93) rfl (by kernel_rfl) (by kernel_rfl) (by kernel_rfl) (fun _ _ _ h => h) (Or.inl ⟨by rfl, ?y93⟩) (by assumption) ?r93
          case y93 => intro w hSw; (try dsimp only at hSw); go_simp; (try with_reducible rfl)
          (try simp only [Act.put, List.setIfInBounds_toArray, List.set_cons_zero, List.set_cons_succ, List.getElem_toArray, List.getElem_cons_zero, List.getElem_cons_succ])
          refine wpAnyH_take (i := 14) (v := ?v94) rfl (by kernel_rfl) (by kernel_rfl) (by kernel_rfl) (fun _ _ _ h => h) (Or.inl ⟨by rfl, ?y94⟩) (by assumption) ?r94
          case y94 => intro w hSw; (try dsimp only at hSw); go_simp; (try with_reducible rfl)
          (try simp only [Act.put, List.setIfInBounds_toArray, List.set_cons_zero, List.set_cons_succ, List.getElem_toArray, List.getElem_cons_zero, List.getElem_cons_succ])
          refine wpAnyH_take (i := 15) (v := ?v95) rfl (by kernel_rfl) (by kernel_rfl) (by kernel_rfl) (fun _ _ _ h => h) (Or.inl ⟨by rfl, ?y95⟩) (by assumption) ?r95
          case y95 => intro w hSw; (try dsimp only at hSw); go_simp; (try with_reducible rfl)
          (try simp only [Act.put, List.setIfInBounds_toArray, List.set_cons_zero, List.set_cons_succ, List.getElem_toArray, List.getElem_cons_zero, List.getElem_cons_succ])
          refine wpAnyH_ready (rs := [16]) (by kernel_rfl) (by simp) ?_
          refine AllReadyH.cons rfl (fun K hK => ?_) AllReadyH.nil
          go_simp
          refine (HKW.out V kx).mono ?_
          rintro e w3 ⟨rfl, hx⟩
          replace kx := kx.trans hx
          clear hx
          generalize w3 = V at *
          refine hK.out _ _ ?s96 (fun hHeld => ?k96)
          case s96 => ((try dsimp only); (exact kx.cell z4'))
          clear hK K
          (try simp only [Act.put, List.setIfInBounds_toArray, List.set_cons_zero, List.set_cons_succ, List.getElem_toArray, List.getElem_cons_zero, List.getElem_cons_succ])
          refine wpAnyH_take (i := 17) (v := ?v97) rfl (by kernel_rfl) (by kernel_rfl) (by kernel_rfl) (fun _ _ _ h => h) (Or.inl ⟨by rfl, ?y97⟩) (by assumption) ?r97
          case y97 => intro w hSw; (try dsimp only at hSw); go_simp; (try with_reducible rfl)
          (try simp only [Act.put, List.setIfInBounds_toArray, List.set_cons_zero, List.set_cons_succ, List.getElem_toArray, List.getElem_cons_zero, List.getElem_cons_succ])
          refine wpAnyH_ready (rs := [18]) (by kernel_rfl) (by simp) ?_
          refine AllReadyH.cons rfl (fun K hK => ?_) AllReadyH.nil
          go_simp
          refine (HWk.out V (HX40.out.trans kx)).mono ?_
          rintro e w3 ⟨rfl, hx⟩
          replace kx := kx.trans hx
          clear hx
          generalize w3 = V at *
          refine hK.out _ _ ?s98 (fun hHeld => ?k98)
          case s98 => ((try dsimp only); (exact kx.cell z4'))
          clear hK K
          (try simp only [Act.put, List.setIfInBounds_toArray, List.set_cons_zero, List.set_cons_succ, List.getElem_toArray, List.getElem_cons_zero, List.getElem_cons_succ])
          refine wpAnyH_take (i := 19) (v := ?v99) rfl (by kernel_rfl) (by kernel_rfl) (by kernel_rfl) (fun _ _ _ h => h) (Or.inl ⟨by rfl, ?y99⟩) (by assumption) ?r99
          case y99 => intro w hSw; (try dsimp only at hSw); go_simp; (try with_reducible rfl)
          (try simp only [Act.put, List.setIfInBounds_toArray, List.set_cons_zero, List.set_cons_succ, List.getElem_toArray, List.getElem_cons_zero, List.getElem_cons_succ])
          refine wpAnyH_done (by kernel_rfl) ?_ _
          show wpList _ _ _ _ _ _
          have HKX := Lib.hid kx
          clear kx hHeld
          go_wp2
          refine NoPanic.normal ?_
          go_wp2
          go_ret
          exact ⟨rfl, HX40.out.trans HKX.out⟩
end Go.Proofs.YtppkgfcobnknfaaGreatDoor
/- A row of rows among the arguments: general. -/
namespace Go.Proofs.YtppkgfcobnknfaaGreatDoor
open Go Go.ChangeShapes Go.WideShapes Go.ChangeAt Go.RowKit Go.Deep
set_option maxHeartbeats 4000000
set_option maxRecDepth 100000
theorem flat_inv {s : Nat} (hs : 1 ≤ s) : ∀ (l : List (List Value)), (∀ cs ∈ l, cs.length = s) → ∀ (j : Nat) (u : Value), l.flatten[j]? = some u → ∃ i f cs, j = i * s + f ∧ l[i]? = some cs ∧ cs[f]? = some u
  | [], _, j, u, h => by simp at h
  | c :: l, hl, j, u, h => by
    have hc := hl c (.head _)
    rw [List.flatten_cons] at h
    by_cases hj : j < s
    · rw [List.getElem?_append_left (by omega)] at h
      exact ⟨0, j, c, by omega, rfl, h⟩
    · rw [List.getElem?_append_right (by omega), hc] at h
      obtain ⟨i, f, cs, h1, h2, h3⟩ := flat_inv hs l (fun cs hm => hl cs (.tail _ hm)) (j - s) u h
      exact ⟨i + 1, f, cs, by rw [Nat.add_mul]; omega, h2, h3⟩
theorem rows_p {w : World} {v : Value} {s : Nat} {l : List (List Value)} (hs : 1 ≤ s) (h : RowsSl w v s l) (h1 : Rows1 s l) (hn : l ≠ []) : RowsP w v s l := by
  obtain ⟨q, c, rfl, h2, h3, h4⟩ := h
  refine ⟨h1, .inr ?_⟩
  obtain ⟨cs0, hcs0⟩ : ∃ cs, l[0]? = some cs := by cases l with | nil => exact absurd rfl hn | cons a l => exact ⟨a, rfl⟩
  obtain ⟨_, b, off, rfl, _⟩ := h4 0 cs0 hcs0
  refine ⟨b, off, c, rfl, h2, h3, fun j u hu => ?_⟩
  obtain ⟨i, f, cs, rfl, hi, hf⟩ := flat_inv hs l (fun cs hm => (h1 cs hm).1) j u hu
  obtain ⟨_, b', off', e, hc⟩ := h4 i cs hi
  obtain ⟨rfl, rfl, _⟩ := Addr.mk.inj (Option.some.inj e)
  rw [← Nat.add_assoc]
  exact hc f u hf
/-- one cell that reads as a slice -/
theorem rows_cell {H : Type} {enc : TypeId × Value → H} {P : Program} {w : World} {t e : TypeId} {s : Nat} {cs : List Value} (ht : P.underlying t = some (.slice e)) (hs : P.cellsOf e = s) (h1 : 1 ≤ s)
    (h : ReadsAs enc P w t cs) : ∃ v l, cs = [v] ∧ RowsSl w v s l ∧ (l = [] → EmptyV v) ∧ ∀ cs ∈ l, ReadsAs enc P w e cs := by
  obtain ⟨fuel, x, hf⟩ := h
  rcases open_slice ht hf with ⟨hcs, _⟩ | ⟨a, len, cap, m, n, D, Pl, hcs, _, hlc, hcm, hm, _, hel⟩
  · exact ⟨_, [], hcs, ⟨none, 0, rfl, Nat.le_refl _, Nat.zero_le _, fun i cs h => by simp at h⟩, fun _ => .inl rfl, fun cs h => by cases h⟩
  · simp only [if_true] at hm
    rw [hs] at hel
    rw [hm] at hel
    obtain ⟨V, hV⟩ := choose_lt (n := cap) (p := fun i cs => w.cells? 0 (a.add (i * s)) s = some cs ∧ DataW.trod enc P w 0 (fun _ => true) true n e cs = some (D i, Pl i)) (fun i hi => hel i hi)
    have hl : ((List.range len).map V).length = len := by simp
    refine ⟨_, (List.range len).map V, hcs, ⟨some a, cap, by rw [hl], by rw [hl]; exact hlc, hcm, fun i cs hi => ?_⟩, fun he => ?_, fun cs hcs => ?_⟩
    · have hil : i < len := by have := (List.getElem?_eq_some_iff.1 hi).1; simpa using this
      have hcs : V i = cs := by simpa [hil] using hi
      subst hcs
      obtain ⟨_, hlen, hcell⟩ := World.cells?_some (hV i (by omega)).1
      obtain ⟨_, hlen0, hcell0⟩ := World.cells?_some (hV 0 (by omega)).1
      have hc0 := hcell0 0 (by omega)
      rw [List.getElem?_eq_getElem (by omega : 0 < (V 0).length), Go.Deep.add_add] at hc0
      obtain ⟨b, off, spot⟩ := a
      have hspot : spot = none := by simpa [Addr.add] using World.cell?_spot hc0
      subst hspot
      refine ⟨hlen, b, off, rfl, fun f u hu => ?_⟩
      have hfl : f < s := by rw [← hlen]; exact (List.getElem?_eq_some_iff.1 hu).1
      have := hcell f hfl
      rw [Go.Deep.add_add, add_plain, hu] at this
      rw [Nat.add_assoc]
      exact this
    · have h0 : len = 0 := by have := congrArg List.length he; simpa using this
      subst h0
      exact .inr ⟨a, cap, rfl, hcm⟩
    · obtain ⟨i, hi, rfl⟩ := List.mem_map.1 hcs
      have hil := List.mem_range.1 hi
      exact ⟨n, _, (hV i (by omega)).2⟩
/-- rows whose cells are all of a form -/
theorem choose_form {α : Type} [Inhabited α] (f : α → List Value) : ∀ (l : List (List Value)), (∀ cs ∈ l, ∃ x, cs = f x) → ∃ M : List α, l = M.map f
  | [], _ => ⟨[], rfl⟩
  | c :: l, h => by
    obtain ⟨x, rfl⟩ := h c (.head _)
    obtain ⟨M, rfl⟩ := choose_form f l (fun cs hm => h cs (.tail _ hm))
    exact ⟨x :: M, rfl⟩
end Go.Proofs.YtppkgfcobnknfaaGreatDoor
/- (stockpotrig.Two).Same: the walk. -/
namespace Go.Proofs.YtppkgfcobnknfaaGreatDoor
open Go.RowKit Go.Maps Arena
set_option maxHeartbeats 8000000
set_option maxRecDepth 100000
attribute [local go_sem ↓] Go.wp_at_zero Go.wp_at_succ
theorem rig_free {m : Nat} (h : 1 ≤ m) : freeB (rigR m) 3 = true := by unfold freeB; rw [rig_len]; simp; omega
theorem rig_free0 (m : Nat) : freeB (rigR m) 0 = true := by unfold freeB; rw [rig_len0]; rfl
theorem large_is {w : World} {v : Value} {l : List Int} {a b c d : Int} (hv : WordSl w v l) : Calls Tryz.prog 5 #[.agg #[v, .agg #[.int .i64 a, .int .i64 b, .int .i64 c, .int .i64 d]]] w fun e w' => e = .returned (.bool (decide (400 < l.length))) ∧ Ext w w' := by
  obtain ⟨qv, cv, rfl, hd1, hd2, hcell⟩ := hv
  unfold maxLen at hd2
  clear hcell
  by_cases h : 400 < l.length
  · rw [decide_eq_true h]
    have i1 : (400 : Int) < (l.length : Int) := by omega
    clear h
    go_enter Tryz.func5, Tryz.ntmps5
    go_wp2_with fail
    go_ret
    exact ⟨rfl, Ext.alloc _ _⟩
  · rw [decide_eq_false h]
    have i1 : ¬ (400 : Int) < (l.length : Int) := by omega
    clear h
    go_enter Tryz.func5, Tryz.ntmps5
    go_wp2_with fail
    go_ret
    exact ⟨rfl, Ext.alloc _ _⟩
end Go.Proofs.YtppkgfcobnknfaaGreatDoor
/- keep.OwnWords. -/
namespace Go.Proofs.YtppkgfcobnknfaaGreatDoor
open Go.RowKit Go.Maps Arena
set_option maxHeartbeats 8000000
set_option maxRecDepth 100000
theorem own_empty1 (W : World) (T : TypeId) : OwnP (W.alloc (.cells #[] T)) W.heap.size T (.slice (some ⟨W.heap.size, 0, none⟩) 0 0) 1 [] :=
  OwnP.of_form (l := []) (cap := 0) (cur := #[]) (Rows1.nil 1) (Nat.le_refl _) (heap_alloc_new _ _) (Nat.le_refl _) (Nat.zero_le _) rfl rfl
end Go.Proofs.YtppkgfcobnknfaaGreatDoor
/- keep.OwnObject. -/
namespace Go.Proofs.YtppkgfcobnknfaaGreatDoor
open Go.RowKit Go.Maps Arena
set_option maxHeartbeats 8000000
set_option maxRecDepth 100000
end Go.Proofs.YtppkgfcobnknfaaGreatDoor
/- Objects, rows of words, heaps, steps among the arguments, as a walk wants them. -/
namespace Go.Proofs.YtppkgfcobnknfaaGreatDoor
open Go Go.ChangeShapes Go.WideShapes Go.ChangeAt Go.RowKit Go.Deep Arena
set_option maxHeartbeats 4000000
set_option maxRecDepth 100000
theorem w64_of_wf {x : Int} (h : (Lit.int .u64 x).wf = true) : W64 x := by
  have h3 : IntKind.u64.min ≤ x ∧ x ≤ IntKind.u64.max := by simpa [Lit.wf] using h
  have e1 : IntKind.u64.min = 0 := by decide
  have e2 : IntKind.u64.max = 18446744073709551615 := by decide
  unfold W64
  omega
theorem word_reads {H : Type} {enc : TypeId × Value → H} {w : World} {cs : List Value} (h : ReadsAs enc Tryz.prog w 42 cs) : ∃ x : {x : Int // W64 x}, cs = wordC x.1 := by
  obtain ⟨n, y, h⟩ := h
  obtain ⟨a, rfl, _, hw⟩ := DataW.trod_int Tryz.underlying42 h
  exact ⟨⟨a, w64_of_wf hw⟩, rfl⟩
instance : Inhabited {x : Int // W64 x} := ⟨⟨0, w64_zero⟩⟩
/-- a slice of words that came in -/
def WdsP (w : World) (v : Value) (l : List Int) : Prop := RowsP w v 1 (l.map wordC) ∧ ∀ x ∈ l, W64 x
theorem WdsP.ext {w w' : World} {v : Value} {l : List Int} (h : WdsP w v l) (e : Ext w w') : WdsP w' v l := ⟨h.1.ext e, h.2⟩
theorem words_reads {H : Type} {enc : TypeId × Value → H} {w : World} {cs : List Value} (h : ReadsAs enc Tryz.prog w 22 cs) : ∃ v l, cs = [v] ∧ WdsP w v l := by
  obtain ⟨v, l, rfl, hr, he, hl⟩ := rows_cell Tryz.underlying22 (show Tryz.prog.cellsOf 42 = 1 by kernel_rfl) (by omega) h
  obtain ⟨M, rfl⟩ := choose_form (fun x : {x : Int // W64 x} => wordC x.1) l (fun cs hm => word_reads (hl cs hm))
  refine ⟨v, M.map (·.1), rfl, ?_, fun x hx => ?_⟩
  · rw [List.map_map]
    cases M with
    | nil => exact ⟨Rows1.nil 1, .inl ⟨he rfl, rfl⟩⟩
    | cons x M => exact rows_p (by omega) hr (fun cs hm => by obtain ⟨y, _, rfl⟩ := List.mem_map.1 hm; exact ⟨rfl, fun u hu => by rw [List.mem_singleton.1 hu]; rfl⟩) (by simp)
  · obtain ⟨y, _, rfl⟩ := List.mem_map.1 hx
    exact y.2
theorem open_words {H : Type} {enc : TypeId × Value → H} {W : World} {v : Value} {d : DataW H} {ps : List MemPlace} {base : Nat} (hval : Value.okWide Tryz.prog W .any base 22 v) (h : DataW.Trod enc Tryz.prog W 0 (fun _ => true) true 22 v d ps) : ∃ l, WdsP W v l := by
  obtain ⟨a0, len, cap, rfl⟩ := okWide_slice Tryz.underlying22 hval
  obtain ⟨fuel, hf⟩ := h
  obtain ⟨v', l, e, hp⟩ := words_reads ⟨fuel, _, hf⟩
  obtain rfl : v' = _ := (List.cons.inj e).1.symm
  exact ⟨l, hp⟩
/-- an object that came in -/
structure ObI where
  o : Ob
  v : Value
def obiC (x : ObI) : List Value := [.int .i64 x.o.kind, .int .i64 x.o.tag, x.v, .string x.o.text]
structure ObiP (w : World) (x : ObI) : Prop where
  p : WdsP w x.v x.o.fields
  text : x.o.text.size ≤ maxLen
  kind : (Lit.int .i64 x.o.kind).wf = true
  tag : (Lit.int .i64 x.o.tag).wf = true
theorem ObiP.ext {w w' : World} {x : ObI} (h : ObiP w x) (e : Ext w w') : ObiP w' x := ⟨h.p.ext e, h.text, h.kind, h.tag⟩
theorem obj_reads {H : Type} {enc : TypeId × Value → H} {w : World} {cs : List Value} (h : ReadsAs enc Tryz.prog w 56 cs) : ∃ x, cs = obiC x ∧ ObiP w x := by
  obtain ⟨n, y, h⟩ := h
  obtain ⟨xs, k, rfl, _, hlen, hxl, hf⟩ := DataW.trod_struct Tryz.underlying56 h
  have hc : Tryz.prog.cellsOf 56 = 4 := by kernel_rfl
  rw [hc] at hlen
  match cs, hlen, xs, hxl with
  | [v0, v1, v2, v3], _, [y0, y1, y2, y3], _ =>
    have g0 := hf 0 _ rfl
    have g1 := hf 1 _ rfl
    have g2 := hf 2 _ rfl
    have g3 := hf 3 _ rfl
    have ci : Tryz.prog.cellsOf 3 = 1 := by kernel_rfl
    have ci6 : Tryz.prog.cellsOf 22 = 1 := by kernel_rfl
    have cs1 : Tryz.prog.cellsOf 9 = 1 := by kernel_rfl
    simp [ci, ci6, cs1] at g0 g1 g2 g3
    obtain ⟨a0, e0, _, w0⟩ := DataW.trod_int Tryz.underlying3 g0
    obtain ⟨a1, e1, _, w1⟩ := DataW.trod_int Tryz.underlying3 g1
    obtain ⟨v, l, e2, hp⟩ := words_reads ⟨_, _, g2⟩
    obtain ⟨a3, e3, _, w3⟩ := DataW.trod_string Tryz.underlying9 g3
    simp at e0 e1 e2 e3
    subst e0; subst e1; subst e2; subst e3
    exact ⟨⟨⟨a0, a1, l, a3⟩, v2⟩, rfl, hp, by first | exact w3 | simpa [Lit.wf] using w3, w0, w1⟩
theorem open_obj {H : Type} {enc : TypeId × Value → H} {W : World} {v : Value} {d : DataW H} {ps : List MemPlace} {base : Nat} (hval : Value.okWide Tryz.prog W .any base 56 v) (h : DataW.Trod enc Tryz.prog W 0 (fun _ => true) true 56 v d ps) : ∃ x, v = .agg (obiC x).toArray ∧ ObiP W x := by
  obtain ⟨cs, rfl, _⟩ := okWide_struct Tryz.underlying56 hval
  obtain ⟨fuel, hf⟩ := h
  obtain ⟨x, e, hp⟩ := obj_reads ⟨fuel, _, hf⟩
  refine ⟨x, ?_, hp⟩
  rw [← e]
  rfl
/-- objects that came in, side by side -/
def ObsP (w : World) (v : Value) (L : List ObI) : Prop := RowsSl w v 4 (L.map obiC) ∧ ∀ x ∈ L, ObiP w x
theorem ObsP.ext {w w' : World} {v : Value} {L : List ObI} (h : ObsP w v L) (e : Ext w w') : ObsP w' v L := ⟨h.1.ext e, fun x hx => (h.2 x hx).ext e⟩
theorem choose_with {α : Type} (p : α → Prop) (f : α → List Value) : ∀ (l : List (List Value)), (∀ cs ∈ l, ∃ x, cs = f x ∧ p x) → ∃ M : List α, l = M.map f ∧ ∀ x ∈ M, p x
  | [], _ => ⟨[], rfl, fun x h => by cases h⟩
  | c :: l, h => by
    obtain ⟨x, rfl, hx⟩ := h c (.head _)
    obtain ⟨M, rfl, hM⟩ := choose_with p f l (fun cs hm => h cs (.tail _ hm))
    exact ⟨x :: M, rfl, fun y hy => by rcases List.mem_cons.1 hy with rfl | hy; exact hx; exact hM y hy⟩
theorem open_objs {H : Type} {enc : TypeId × Value → H} {W : World} {v : Value} {d : DataW H} {ps : List MemPlace} {base : Nat} (hval : Value.okWide Tryz.prog W .any base 79 v) (h : DataW.Trod enc Tryz.prog W 0 (fun _ => true) true 79 v d ps) : ∃ L, ObsP W v L := by
  obtain ⟨l, hr, hl⟩ := open_rows Tryz.underlying79 (show Tryz.prog.cellsOf 56 = 4 by kernel_rfl) (by omega) hval h
  obtain ⟨M, rfl, hM⟩ := choose_with (ObiP W) obiC l (fun cs hm => obj_reads (hl cs hm))
  exact ⟨M, hr, hM⟩
/-- a region's words and a heap that came in -/
structure RawI where
  v : Value
  l : List Int
  h : Hp
def rawC (x : RawI) : List Value := [x.v, .int .i64 x.h.base, .int .i64 x.h.half, .int .i64 x.h.space, .int .i64 x.h.top]
structure HpWf (h : Hp) : Prop where
  half : (Lit.int .i64 h.half).wf = true
  space : (Lit.int .i64 h.space).wf = true
  top : (Lit.int .i64 h.top).wf = true
structure RawP (w : World) (x : RawI) : Prop where
  p : WdsP w x.v x.l
  h : HpWf x.h
theorem open_raw {H : Type} {enc : TypeId × Value → H} {W : World} {v : Value} {d : DataW H} {ps : List MemPlace} {base : Nat} (hval : Value.okWide Tryz.prog W .any base 26 v) (h : DataW.Trod enc Tryz.prog W 0 (fun _ => true) true 26 v d ps) : ∃ x, v = .agg (rawC x).toArray ∧ RawP W x := by
  obtain ⟨cs, rfl, _⟩ := okWide_struct Tryz.underlying26 hval
  obtain ⟨fuel, hf⟩ := h
  obtain ⟨xs, k, _, _, hlen, hxl, hf⟩ := DataW.trod_struct Tryz.underlying26 hf
  have hc : Tryz.prog.cellsOf 26 = 5 := by kernel_rfl
  rw [hc] at hlen
  obtain ⟨cs⟩ := cs
  simp only [Value.cells] at hlen hf
  match cs, hlen, xs, hxl with
  | [v0, v1, v2, v3, v4], _, [y0, y1], _ =>
    have g0 := hf 0 _ rfl
    have g1 := hf 1 _ rfl
    have ci : Tryz.prog.cellsOf 22 = 1 := by kernel_rfl
    have ch : Tryz.prog.cellsOf 24 = 4 := by kernel_rfl
    simp [ci, ch] at g0 g1
    obtain ⟨v, l, e0, hp⟩ := words_reads ⟨_, _, g0⟩
    simp at e0
    subst e0
    obtain ⟨zs, m, _, _, _, hzl, hg⟩ := DataW.trod_struct Tryz.underlying24 g1
    match zs, hzl with
    | [z0, z1, z2, z3], _ =>
      have k0 := hg 0 _ rfl
      have k1 := hg 1 _ rfl
      have k2 := hg 2 _ rfl
      have k3 := hg 3 _ rfl
      have cn : Tryz.prog.cellsOf 3 = 1 := by kernel_rfl
      simp [cn] at k0 k1 k2 k3
      obtain ⟨a0, e0, _, w0⟩ := DataW.trod_int Tryz.underlying3 k0
      obtain ⟨a1, e1, _, w1⟩ := DataW.trod_int Tryz.underlying3 k1
      obtain ⟨a2, e2, _, w2⟩ := DataW.trod_int Tryz.underlying3 k2
      obtain ⟨a3, e3, _, w3⟩ := DataW.trod_int Tryz.underlying3 k3
      simp at e0 e1 e2 e3
      subst e0; subst e1; subst e2; subst e3
      exact ⟨⟨v0, l, ⟨a0, a1, a2, a3⟩⟩, rfl, hp, w1, w2, w3⟩
end Go.Proofs.YtppkgfcobnknfaaGreatDoor
/- A message, forms among the arguments. -/
namespace Go.Proofs.YtppkgfcobnknfaaGreatDoor
open Go Go.ChangeShapes Go.WideShapes Go.ChangeAt Go.RowKit Go.Deep
set_option maxHeartbeats 4000000
set_option maxRecDepth 100000
theorem cl_reads {H : Type} {enc : TypeId × Value → H} {w : World} {cs : List Value} (h : ReadsAs enc Tryz.prog w 51 cs) : ∃ x : Cl, cs = celC x := by
  obtain ⟨n, y, h⟩ := h
  obtain ⟨xs, k, rfl, _, hlen, hxl, hf⟩ := DataW.trod_struct Tryz.underlying51 h
  have hc : Tryz.prog.cellsOf 51 = 4 := by kernel_rfl
  rw [hc] at hlen
  match cs, hlen, xs, hxl with
  | [v0, v1, v2, v3], _, [y0, y1, y2, y3], _ =>
    have g0 := hf 0 _ rfl
    have g1 := hf 1 _ rfl
    have g2 := hf 2 _ rfl
    have g3 := hf 3 _ rfl
    have ci : Tryz.prog.cellsOf 3 = 1 := by kernel_rfl
    have ci6 : Tryz.prog.cellsOf 2 = 1 := by kernel_rfl
    have cs1 : Tryz.prog.cellsOf 9 = 1 := by kernel_rfl
    simp [ci, ci6, cs1] at g0 g1 g2 g3
    obtain ⟨a0, e0, _, w0⟩ := DataW.trod_int Tryz.underlying3 g0
    obtain ⟨a1, e1, _, w1⟩ := DataW.trod_int Tryz.underlying3 g1
    obtain ⟨a2, e2, _, w2⟩ := DataW.trod_int Tryz.underlying2 g2
    obtain ⟨a3, e3, _, w3⟩ := DataW.trod_string Tryz.underlying9 g3
    simp at e0 e1 e2 e3
    subst e0; subst e1; subst e2; subst e3
    exact ⟨⟨a0, a1, a2, a3⟩, rfl⟩
theorem choose_fm {α : Type} (f : α → List Value) : ∀ (l : List (List Value)), (∀ cs ∈ l, ∃ x, cs = f x) → ∃ M : List α, l = M.map f
  | [], _ => ⟨[], rfl⟩
  | c :: l, h => by
    obtain ⟨x, rfl⟩ := h c (.head _)
    obtain ⟨M, rfl⟩ := choose_fm f l (fun cs hm => h cs (.tail _ hm))
    exact ⟨x :: M, rfl⟩
theorem cel_rows (M : List Cl) : Rows1 4 (M.map celC) := by
  intro l hl
  obtain ⟨x, _, rfl⟩ := List.mem_map.1 hl
  refine ⟨rfl, fun u hu => ?_⟩
  simp [celC] at hu
  rcases hu with rfl | rfl | rfl | rfl <;> rfl
theorem msg_cell {H : Type} {enc : TypeId × Value → H} {w : World} {cs : List Value} (h : ReadsAs enc Tryz.prog w 41 cs) : ∃ v M, cs = [v] ∧ MsgP w v M := by
  obtain ⟨v, l, rfl, hr, he, hl⟩ := rows_cell Tryz.underlying41 (show Tryz.prog.cellsOf 51 = 4 by kernel_rfl) (by omega) h
  obtain ⟨M, rfl⟩ := choose_fm celC l (fun cs hm => cl_reads (hl cs hm))
  refine ⟨v, M, rfl, ?_⟩
  cases M with
  | nil => exact ⟨Rows1.nil 4, .inl ⟨he rfl, rfl⟩⟩
  | cons x M => exact rows_p (by omega) hr (cel_rows _) (by simp)
theorem open_msg {H : Type} {enc : TypeId × Value → H} {W : World} {v : Value} {d : DataW H} {ps : List MemPlace} {base : Nat} (hval : Value.okWide Tryz.prog W .any base 41 v) (h : DataW.Trod enc Tryz.prog W 0 (fun _ => true) true 41 v d ps) : ∃ M, MsgP W v M := by
  obtain ⟨a0, len, cap, rfl⟩ := okWide_slice Tryz.underlying41 hval
  obtain ⟨fuel, hf⟩ := h
  obtain ⟨v', M, hv, hm⟩ := msg_cell ⟨fuel, _, hf⟩
  simp only [Value.cells, List.cons.injEq, and_true] at hv
  subst hv
  exact ⟨M, hm⟩
end Go.Proofs.YtppkgfcobnknfaaGreatDoor
/- DataBack: its arguments; the walk, as the law's last text calls it. -/
namespace Go.Proofs.YtppkgfcobnknfaaGreatDoor
open Go Go.ChangeShapes Go.WideShapes Go.ChangeAt Go.RowKit Go.Deep
set_option maxHeartbeats 4000000
set_option maxRecDepth 100000
theorem choose_bk {α : Type} (p : α → Prop) (f : α → List Value) : ∀ (l : List (List Value)), (∀ cs ∈ l, ∃ x, cs = f x ∧ p x) → ∃ M : List α, l = M.map f ∧ ∀ x ∈ M, p x
  | [], _ => ⟨[], rfl, fun x h => by cases h⟩
  | c :: l, h => by
    obtain ⟨x, rfl, hx⟩ := h c (.head _)
    obtain ⟨M, rfl, hM⟩ := choose_bk p f l (fun cs hm => h cs (.tail _ hm))
    exact ⟨x :: M, rfl, fun y hy => by rcases List.mem_cons.1 hy with rfl | hy; exact hx; exact hM y hy⟩
theorem open_msl {H : Type} {enc : TypeId × Value → H} {W : World} {v : Value} {d : DataW H} {ps : List MemPlace} {base : Nat} (hval : Value.okWide Tryz.prog W .any base 27 v) (h : DataW.Trod enc Tryz.prog W 0 (fun _ => true) true 27 v d ps) : ∃ Y : List (Value × List Cl), MsL W v Y := by
  obtain ⟨a0, len, cap, rfl⟩ := okWide_slice Tryz.underlying27 hval
  obtain ⟨fuel, hf⟩ := h
  obtain ⟨v', l, hv, hr, he, hl⟩ := rows_cell Tryz.underlying27 (show Tryz.prog.cellsOf 41 = 1 by kernel_rfl) (by omega) ⟨fuel, _, hf⟩
  simp only [Value.cells, List.cons.injEq, and_true] at hv
  subst hv
  obtain ⟨Y, rfl, hY⟩ := choose_bk (fun x : Value × List Cl => MsgP W x.1 x.2) zC l (fun cs hm => by
    obtain ⟨v, M, rfl, hmp⟩ := msg_cell (hl cs hm)
    exact ⟨(v, M), rfl, hmp⟩)
  refine ⟨Y, ?_, hY⟩
  cases Y with
  | nil => exact ⟨Rows1.nil 1, .inl ⟨he rfl, rfl⟩⟩
  | cons x M =>
    exact rows_p (by omega) hr (by
      intro l hl
      obtain ⟨z, hz, rfl⟩ := List.mem_map.1 hl
      refine ⟨rfl, fun u hu => ?_⟩
      simp only [List.mem_singleton] at hu
      subst hu
      obtain ⟨q, c, hq, _⟩ := RowsP.at (hY z hz)
      rw [hq]; rfl) (by simp)
theorem dback_walk' {w : World} {v0 v1 : Value} {x : RawI} {Y : List (Value × List Cl)} (h0 : v0 = .agg (rawC x).toArray ∧ RawP w x) (h1 : MsL w v1 Y) (hO : OpLie w) : Calls Tryz.prog 3 #[v0, v1] w (True10 w) := by
  obtain ⟨rfl, hp⟩ := h0
  exact dback_walk hp.p.1 hp.p.2 h1 hO
end Go.Proofs.YtppkgfcobnknfaaGreatDoor
