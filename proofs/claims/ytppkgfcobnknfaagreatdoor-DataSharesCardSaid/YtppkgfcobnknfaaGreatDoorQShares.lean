/- Proved here: the contracts and laws of DatSA, DatSB, DatSC, RowIn, DatIn, DatSD of this claim, each beneath its own remark; conditions: those that each theorem names. -/
import Derived.Test.YtppkgfcobnknfaaGreatDoorM9
import Derived.Test.YtppkgfcobnknfaaGreatDoorM7
import Derived.Test.YtppkgfcobnknfaaGreatDoorM10
import Derived.Test.YtppkgfcobnknfaaGreatDoorM4
import Derived.Test.YtppkgfcobnknfaaGreatDoorM1
import Derived.Test.YtppkgfcobnknfaaGreatDoorM8
/- Data, in plain Lean: words that come in; values that are shared; a ring. -/
namespace Go.Proofs.YtppkgfcobnknfaaGreatDoor
open Go Go.RowKit Arena
set_option maxRecDepth 100000
theorem wd_64 {M : List Cl} {t : Nat} (hb : t + wsum M ≤ 100000) (k : Nat) : W64 (wdC M t k) := by
  unfold wdC
  cases M[k]? with
  | none => exact w64_zero
  | some c =>
    dsimp only
    split
    · exact numW_w64 _
    · have := wsum_take_le M k
      unfold posN W64
      omega
theorem layFrom_mem {M : List Cl} {t : Nat} : ∀ (r : List Cl) (k : Nat), M.drop k = r → ∀ x ∈ layFrom M t k r, ∃ j c, M[j]? = some c ∧ c.kind ≠ 0 ∧ x ∈ layO (obC M t j c)
  | [], _, _, x, h => by cases h
  | c :: r, k, hd, x, h => by
    have hk : M[k]? = some c := by
      have := congrArg (·[0]?) hd
      simpa using this
    have hd2 : M.drop (k + 1) = r := by
      have := congrArg (·.drop 1) hd
      simpa using this
    rw [layFrom] at h
    rcases List.mem_append.1 h with h | h
    · by_cases h0 : c.kind = 0
      · rw [if_pos h0] at h; cases h
      · rw [if_neg h0] at h
        exact ⟨k, c, hk, h0, h⟩
    · exact layFrom_mem r (k + 1) hd2 x h
theorem inL_64 {M : List Cl} {t : Nat} (hM : goodM M = true) (hb : t + wsum M ≤ 100000) : ∀ x ∈ inL M t, W64 x := by
  intro x hx
  obtain ⟨j, c, hc, h0, hx⟩ := layFrom_mem M 0 rfl x hx
  refine layO_64 (obC_may (goodM_all hM c (List.mem_of_getElem? hc)) h0) (fun y hy => ?_) x hx
  unfold obC at hy
  dsimp only at hy
  split at hy
  · obtain ⟨i, _, rfl⟩ := List.mem_map.1 hy
    exact wd_64 hb i
  · cases hy
theorem inWs_64 {ws : List Int} {R : List (Nat × Nat)} {h : Hp} {M : List Cl} (hM : goodM M = true) (hb : topN h + wsum M ≤ 100000) (hW : ∀ x ∈ ws, W64 x) : ∀ x ∈ inWs ws R h M, W64 x :=
  fun x hx => (setRun_mem hx).elim (hW x) (inL_64 hM hb x)
/-- what is told is a number, or a place of the heap's -/
theorem Msgs.fld {first : Nat} {L : List (Nat × Ob)} {x : Int} {st : List Int} {M : List Cl} (h : Msgs first L (x :: st) M) : fieldOK (L.map (·.1)) first x = true := by
  have go : ∀ y, getL first L x = some y → fieldOK (L.map (·.1)) first x = true := fun y hy => by
    obtain ⟨h1, h2, h3, h4⟩ := getL_some hy
    unfold fieldOK
    rw [h3, Bool.false_or, decide_eq_true h4, Bool.true_and, List.any_eq_true]
    exact ⟨y.1, List.mem_map_of_mem h1, decide_eq_true h2⟩
  cases h with
  | num _ _ M hx _ => unfold fieldOK; rw [hx, Bool.true_or]
  | str _ y _ M hg hk _ => exact go y hg
  | blk _ y _ M hg hk _ => exact go y hg
/-- a ring has no message -/
theorem ring_none {first : Nat} {L : List (Nat × Ob)} {p : Int} {y : Nat × Ob} (hy : getL first L p = some y) (hk : y.2.kind = 1) (hp : p ∈ y.2.fields) {st : List Int} {M : List Cl} (h : Msgs first L st M) : p ∉ st := by
  induction h with
  | nil => simp
  | num x st M hx _ ih =>
    intro hm
    rcases List.mem_cons.1 hm with rfl | hm
    · rw [getL_notint hy] at hx; cases hx
    · exact ih hm
  | str x z st M hg hk2 _ ih =>
    intro hm
    rcases List.mem_cons.1 hm with rfl | hm
    · obtain rfl := Option.some.inj (hy.symm.trans hg); omega
    · exact ih hm
  | blk x z st M hg hk2 _ ih =>
    intro hm
    rcases List.mem_cons.1 hm with rfl | hm
    · obtain rfl := Option.some.inj (hy.symm.trans hg)
      exact ih (List.mem_append_left _ hp)
    · exact ih (List.mem_append_right _ hm)
theorem ring_out {first : Nat} {L : List (Nat × Ob)} {p : Int} {y : Nat × Ob} (hy : getL first L p = some y) (hk : y.2.kind = 1) (hp : p ∈ y.2.fields) : outD first L p = none := by
  cases h : outD first L p with
  | none => rfl
  | some M => exact absurd (List.mem_singleton_self p) (ring_none hy hk hp (outD_some h))
/-- the object at a place -/
theorem getL_at {first : Nat} {L : List (Nat × Ob)} (hp : L.Pairwise (fun x y => x.1 < y.1)) {y : Nat × Ob} (hy : y ∈ L) (hb : first + y.1 ≤ 100000) : getL first L ((2 * (first + y.1) : Nat) : Int) = some y := by
  unfold getL
  rw [if_neg (by unfold isIntW; simp; omega)]
  have he : (((2 * (first + y.1) : Nat) : Int) / 2) = ((first + y.1 : Nat) : Int) := by omega
  rw [he]
  obtain ⟨z, hz⟩ : ∃ z, L.find? (fun z => decide (((first + z.1 : Nat) : Int) = ((first + y.1 : Nat) : Int))) = some z := by
    cases hf : L.find? (fun z => decide (((first + z.1 : Nat) : Int) = ((first + y.1 : Nat) : Int))) with
    | some z => exact ⟨z, rfl⟩
    | none =>
      have := List.find?_eq_none.1 hf y hy
      simp at this
  rw [hz]
  have h1 := List.mem_of_find?_eq_some hz
  have h2 : ((first + z.1 : Nat) : Int) = ((first + y.1 : Nat) : Int) := by simpa using List.find?_some hz
  rw [places_inj hp h1 hy (by omega)]
theorem pos_zero (M : List Cl) (t : Nat) : posN M t 0 = t := by unfold posN wsum; simp
/-- where a message has come in, it goes out -/
theorem out_in {n : Nat} {ws : List Int} {R : List (Nat × Nat)} {h : Hp} {M : List Cl} {L : List (Nat × Ob)} (hg : Arena.Good n R) (hl : ws.length = n) (ha : allH ws R h = some L) (hM : goodM M = true) (hfit : h.top + (wsum M : Nat) ≤ h.half) :
    outH (inWs ws R h M) R (hpMore h (wsum M)) (wdC M (topN h) 0) = some M := by
  unfold outH
  rw [allH_in hg hl ha hM hfit]
  exact outD_of (in_out hg hl ha hM hfit) (goodM_len hM).2
/-! ### DataShares: the heaps, one behind the other -/
def sR : List (Nat × Nat) := rigR 600
def sH0 : Hp := ⟨3, 300, 0, 0⟩
def shX1 (M : List Cl) : Int := wdC M 0 0
def shO (M : List Cl) : Ob := ⟨1, 0, [shX1 M, shX1 M], ByteArray.empty⟩
def shH1 (M : List Cl) : Hp := hpMore sH0 (wsum M)
def shW1 (ws : List Int) (M : List Cl) : List Int := inWs ws sR sH0 M
def shH2 (M : List Cl) : Hp := hpUp (shH1 M) (shO M)
def shW2 (ws : List Int) (M : List Cl) : List Int := putWs (shW1 ws M) sR (shH1 M) (shO M)
def shX2 (M : List Cl) : Int := ((2 * wsum M : Nat) : Int)
def shH3 (M : List Cl) : Hp := hpMore (shH2 M) (wsum (twoM M))
def shW3 (ws : List Int) (M : List Cl) : List Int := inWs (shW2 ws M) sR (shH2 M) (twoM M)
def shX3 (M : List Cl) : Int := wdC (twoM M) (topN (shH2 M)) 0
def shW4 (ws : List Int) (M : List Cl) : List Int := wsOf (shW3 ws M) sR 3 (setAt (shW3 ws M) sR (shH3 M) (shX2 M) 1 (shX2 M)) (shX2 M)
structure ShF (ws : List Int) (M : List Cl) : Prop where
  in1 : inB' ws sR sH0 M = true
  put : putB (shW1 ws M) sR (shH1 M) (shO M) = true
  out2 : outH (shW2 ws M) sR (shH2 M) (shX2 M) = some (twoM M)
  in3 : inB' (shW2 ws M) sR (shH2 M) (twoM M) = true
  out3 : outH (shW3 ws M) sR (shH3 M) (shX3 M) = some (twoM M)
  set : (setAt (shW3 ws M) sR (shH3 M) (shX2 M) 1 (shX2 M)).isSome = true
  out4 : outH (shW4 ws M) sR (shH3 M) (shX2 M) = none
  w1 : ∀ x ∈ shW1 ws M, W64 x
  w2 : ∀ x ∈ shW2 ws M, W64 x
  w3 : ∀ x ∈ shW3 ws M, W64 x
  w4 : ∀ x ∈ shW4 ws M, W64 x
  x1 : W64 (shX1 M)
  x2 : W64 (shX2 M)
  x3 : W64 (shX3 M)
theorem two_sum (M : List Cl) : wsum (twoM M) = 3 + wsum M + wsum M := by
  have h : wsum (twoM M) = cw (hd 0 2) + wsum (M ++ M) := by unfold twoM wsum; rw [List.map_cons, List.sum_cons]
  rw [h, wsum_app]
  show 3 + _ = _
  omega
theorem sH0_first : firstN sH0 = 0 := by decide
theorem sH0_topN : topN sH0 = 0 := by decide
theorem shH1_first (M : List Cl) : firstN (shH1 M) = 0 := sH0_first
theorem shH2_first (M : List Cl) : firstN (shH2 M) = 0 := sH0_first
theorem shH3_first (M : List Cl) : firstN (shH3 M) = 0 := sH0_first
theorem shH1_top (M : List Cl) : (shH1 M).top = (wsum M : Nat) := by unfold shH1 hpMore sH0; simp
theorem shO_words (M : List Cl) : wordsO (shO M) = 3 := rfl
theorem shH2_top (M : List Cl) : (shH2 M).top = ((wsum M + 3 : Nat) : Int) := by
  have : (shH2 M).top = (shH1 M).top + ((wordsO (shO M) : Nat) : Int) := rfl
  rw [this, shH1_top, shO_words]; omega
theorem share {n : Nat} {ws : List Int} (hg : Arena.Good n sR) (hl : ws.length = n) (hW : ∀ x ∈ ws, W64 x) {M : List Cl} (hM : goodM M = true) (hl40 : M.length ≤ 40) (h90 : wsum M ≤ 90) : ShF ws M := by
  have ht0 : thereB sR sH0 = true := by decide +kernel
  have a0 : allH ws sR sH0 = some [] := by
    unfold allH
    rw [if_pos ht0]
    have : semi ws sR sH0 = [] := by unfold semi sH0; rfl
    rw [this]
    rfl
  have hfit0 : sH0.top + (wsum M : Nat) ≤ sH0.half := by unfold sH0; dsimp only; omega
  have t0 : topN sH0 = 0 := sH0_topN
  have in1 : inB' ws sR sH0 M = true := by
    unfold inB'
    rw [hM, a0, decide_eq_true hfit0]; rfl
  have a1 := allH_in hg hl a0 hM hfit0
  have m1 := in_out hg hl a0 hM hfit0
  rw [List.nil_append, t0] at a1
  rw [List.nil_append, t0] at m1
  have l1 : (shW1 ws M).length = n := (inWs_len ..).trans hl
  have w1 : ∀ x ∈ shW1 ws M, W64 x := inWs_64 hM (by rw [t0]; omega) hW
  have x1 : W64 (shX1 M) := wd_64 (by omega) 0
  have hT1 : (shH1 M).top = (wsum M : Nat) := shH1_top M
  have hHalf1 : (shH1 M).half = 300 := rfl
  have hfld1 : fieldOK ((inObs M 0 sH0.top.toNat).map (·.1)) (firstN (shH1 M)) (shX1 M) = true := m1.fld
  have hput : putB (shW1 ws M) sR (shH1 M) (shO M) = true := by
    have hm : mayO (shO M) = true := rfl
    have : putB (shW1 ws M) sR (shH1 M) (shO M) = (mayO (shO M) && decide ((shH1 M).top + (wordsO (shO M) : Nat) ≤ (shH1 M).half) && (shO M).fields.all (fieldOK ((inObs M 0 sH0.top.toNat).map (·.1)) (firstN (shH1 M)))) := putB_some a1
    rw [this, hm, decide_eq_true (by rw [hT1, hHalf1, shO_words]; omega)]
    simp [shO, hfld1]
  have a2 := allH_put hg l1 a1 hput
  have l2 : (shW2 ws M).length = n := (setRun_len ..).trans l1
  have w2 : ∀ x ∈ shW2 ws M, W64 x := putWs_64 hput w1 (by intro x hx; simp [shO] at hx; subst hx; exact x1)
  have hp2 := objs_places (allS_some (allH_there a2).2).1
  have hg2 : getL (firstN (shH2 M)) (inObs M 0 sH0.top.toNat ++ [((shH1 M).top.toNat, shO M)]) (shX2 M) = some ((shH1 M).top.toNat, shO M) := by
    have := getL_at (first := firstN (shH2 M)) hp2 (y := ((shH1 M).top.toNat, shO M)) (List.mem_append_right _ (List.mem_singleton_self _)) (by rw [shH2_first, hT1]; simp; omega)
    rw [shH2_first] at this ⊢
    rw [show (2 * (0 + ((shH1 M).top.toNat, shO M).1) : Nat) = 2 * wsum M by rw [hT1]; simp] at this
    exact this
  have m2 : Msgs (firstN (shH2 M)) (inObs M 0 sH0.top.toNat ++ [((shH1 M).top.toNat, shO M)]) [shX2 M] (twoM M) := by
    have h : Msgs (firstN (shH2 M)) (inObs M 0 sH0.top.toNat ++ [((shH1 M).top.toNat, shO M)]) [shX1 M] M := Msgs.more m1 [((shH1 M).top.toNat, shO M)]
    have hh : Msgs (firstN (shH2 M)) (inObs M 0 sH0.top.toNat ++ [((shH1 M).top.toNat, shO M)]) ([shX1 M] ++ [shX1 M]) (M ++ M) := h.app h
    exact Msgs.blk (shX2 M) _ [] (M ++ M) hg2 rfl hh
  have hlen2 : (twoM M).length ≤ 100 := by unfold twoM; simp; omega
  have out2 : outH (shW2 ws M) sR (shH2 M) (shX2 M) = some (twoM M) := by
    unfold outH
    rw [show allH (shW2 ws M) sR (shH2 M) = _ from a2]
    exact outD_of m2 hlen2
  have hM2 := two_good hM hl40
  have hT2 := shH2_top M
  have hHalf2 : (shH2 M).half = 300 := rfl
  have hfit2 : (shH2 M).top + (wsum (twoM M) : Nat) ≤ (shH2 M).half := by rw [hT2, hHalf2, two_sum]; omega
  have in3 : inB' (shW2 ws M) sR (shH2 M) (twoM M) = true := by
    unfold inB'
    rw [hM2, show allH (shW2 ws M) sR (shH2 M) = _ from a2, decide_eq_true hfit2]; rfl
  have a3 := allH_in hg l2 a2 hM2 hfit2
  have l3 : (shW3 ws M).length = n := (inWs_len ..).trans l2
  have ht2 : topN (shH2 M) = wsum M + 3 := by unfold topN; rw [shH2_first, hT2]; omega
  have hb3 : topN (shH2 M) + wsum (twoM M) ≤ 100000 := by rw [ht2, two_sum]; omega
  have w3 : ∀ x ∈ shW3 ws M, W64 x := inWs_64 hM2 hb3 w2
  have x2 : W64 (shX2 M) := by unfold shX2 W64; omega
  have g3 := getL_app (N := inObs (twoM M) (topN (shH2 M)) (shH2 M).top.toNat) hg2
  have hs := allH_set (x := shX2 M) (i := 1) (v := shX2 M) hg l3 a3 (y := ((shH1 M).top.toNat, shO M)) g3 (by omega) (by simp [shO]) (Msgs.fld (Msgs.more m2 (inObs (twoM M) (topN (shH2 M)) (shH2 M).top.toNat)))
  have a4 : allH (shW4 ws M) sR (shH3 M) = _ := hs.2
  refine ⟨in1, hput, out2, in3, out_in hg l2 a2 hM2 hfit2, by rw [show setAt (shW3 ws M) sR (shH3 M) (shX2 M) 1 (shX2 M) = _ from hs.1]; rfl, ?_, w1, w2, w3, wsOf_64 w3 x2, x1, x2, wd_64 hb3 0⟩
  unfold outH
  rw [a4]
  have hp4 := objs_places (allS_some (allH_there a4).2).1
  have hmem := List.mem_map_of_mem (f := updF ((shH1 M).top.toNat, shO M).1 (1 : Int).toNat (shX2 M)) (getL_some g3).1
  have hg4 := getL_at (first := firstN (shH3 M)) hp4 hmem (by rw [shH3_first, updF_fst, hT1]; simp; omega)
  rw [updF_fst, shH3_first] at hg4
  rw [show (2 * (0 + ((shH1 M).top.toNat, shO M).1) : Nat) = 2 * wsum M by rw [hT1]; simp] at hg4
  refine ring_out (y := updF ((shH1 M).top.toNat, shO M).1 (1 : Int).toNat (shX2 M) ((shH1 M).top.toNat, shO M)) (by rw [shH3_first]; exact hg4) ?_ ?_
  · unfold updF; rw [if_pos rfl]; rfl
  · unfold updF; rw [if_pos rfl]; simp [shO]
end Go.Proofs.YtppkgfcobnknfaaGreatDoor
/- DataShares: what it asks of the heap, step by step. -/
namespace Go.Proofs.YtppkgfcobnknfaaGreatDoor
open Go.RowKit Go.Maps Arena
set_option maxHeartbeats 8000000
set_option maxRecDepth 100000
/-- it is true, and nothing that was there has turned -/
def True10 (w : World) (e : Ending) (w' : World) : Prop := e = .returned (.bool true) ∧ Ext w w'
theorem large_same {w : World} {v : Value} {M : List Cl} (h : MsgP w v M) : Calls Tryz.prog 10 #[v] w fun e w' => ∃ b, e = .returned (.bool b) ∧ (b = false → M.length ≤ 3000) ∧ w = w' :=
  (large_msg h).mono fun _ _ ⟨b, h1, h2, h3⟩ => ⟨b, h1, h2, h3.symm⟩
theorem s_in1 {V : World} {p g bm n : Nat} {ws : List Int} (H : ArenaAt V p g bm n ws sR) (hW : ∀ x ∈ ws, W64 x) {M : List Cl} (F : ShF ws M) {q : Option Addr} {c : Nat} (hm : ∀ W, Turn [g] V W → RowsP W (.slice q M.length c) 4 (M.map celC)) :
    Calls Tryz.prog 11 #[.pointer (some ⟨p, 0, none⟩), .agg #[.int .i64 3, .int .i64 300, .int .i64 0, .int .i64 0], .slice q M.length c] V fun e w' =>
      e = .returned (.tuple #[.agg #[.int .i64 3, .int .i64 300, .int .i64 0, .int .i64 (wsum M : Nat)], .int .u64 (shX1 M), .bool true]) ∧ ArenaAt w' p g bm n (shW1 ws M) sR ∧ Turn [g] V w' := by
  have h := din_yes (M := M) H sH0 (by decide) hW (qm := q) (cm := c) (hm V (Turn.refl _ _)) hm F.in1
  rw [sH0_topN, show sH0.top + (wsum M : Nat) = (wsum M : Nat) by unfold sH0; simp] at h
  exact h
theorem s_put {V : World} {p g bm n : Nat} {ws : List Int} {M : List Cl} (H : ArenaAt V p g bm n (shW1 ws M) sR) (F : ShF ws M) {q : Option Addr} {c : Nat} (hm : ∀ W, Turn [g] V W → RowsP W (.slice q 2 c) 1 ([shX1 M, shX1 M].map wordC)) :
    Calls Tryz.prog 19 #[.pointer (some ⟨p, 0, none⟩), .agg #[.int .i64 3, .int .i64 300, .int .i64 0, .int .i64 (wsum M : Nat)], .agg #[.int .i64 1, .int .i64 0, .slice q 2 c, .string ⟨#[]⟩]] V fun e w' =>
      e = .returned (.tuple #[.agg #[.int .i64 3, .int .i64 300, .int .i64 0, .int .i64 ((wsum M : Nat) + 3)], .int .u64 (shX2 M), .bool true]) ∧ ArenaAt w' p g bm n (shW2 ws M) sR ∧ Turn [g] V w' := by
  have h := put_is H (shH1 M) (show (Lit.int .i64 (3 : Int)).wf = true by decide) F.w1 (shO M) c q hm (by intro x hx; simp [shO] at hx; subst hx; exact F.x1) (by simp [shO])
  unfold PutSaid at h
  rw [F.put, if_pos rfl, if_pos rfl, if_pos rfl, shH1_top] at h
  have e1 : (hpV (hpUp (shH1 M) (shO M))) = .agg #[.int .i64 3, .int .i64 300, .int .i64 0, .int .i64 ((wsum M : Nat) + 3)] := by
    have e := shH2_top M
    unfold shH2 at e
    unfold hpV
    rw [e, Int.natCast_add]
    rfl
  have e2 : ((2 * topN (shH1 M) : Nat) : Int) = shX2 M := by
    unfold shX2 topN
    rw [shH1_first, shH1_top]; omega
  rw [e1, e2] at h
  exact h
theorem shH2_top' (M : List Cl) : (shH2 M).top = (wsum M : Nat) + 3 := by rw [shH2_top]; omega
theorem s_out2 {V : World} {p g bm n : Nat} {ws : List Int} {M : List Cl} (H : ArenaAt V p g bm n (shW2 ws M) sR) (F : ShF ws M) :
    Calls Tryz.prog 15 #[.pointer (some ⟨p, 0, none⟩), .agg #[.int .i64 3, .int .i64 300, .int .i64 0, .int .i64 ((wsum M : Nat) + 3)], .int .u64 (shX2 M)] V fun e w' =>
      ∃ q c, e = .returned (.tuple #[.slice q (twoM M).length c, .bool true]) ∧ OwnP w' V.heap.size 51 (.slice q (twoM M).length c) 4 ((twoM M).map celC) ∧ Ext V w' := by
  have h := out_is H (shH2 M) (show (Lit.int .i64 (3 : Int)).wf = true by decide) F.w2 F.x2
  rw [F.out2, shH2_top'] at h
  exact h
theorem shH3_top (M : List Cl) : (shH3 M).top = (wsum M : Nat) + 3 + 2 * (wsum M : Nat) + 3 := by
  have : (shH3 M).top = (shH2 M).top + ((wsum (twoM M) : Nat) : Int) := rfl
  rw [this, shH2_top, two_sum]; omega
theorem s_in3 {V : World} {p g bm n : Nat} {ws : List Int} {M : List Cl} (H : ArenaAt V p g bm n (shW2 ws M) sR) (F : ShF ws M) {q : Option Addr} {c : Nat} (hm : ∀ W, Turn [g] V W → RowsP W (.slice q (twoM M).length c) 4 ((twoM M).map celC)) :
    Calls Tryz.prog 11 #[.pointer (some ⟨p, 0, none⟩), .agg #[.int .i64 3, .int .i64 300, .int .i64 0, .int .i64 ((wsum M : Nat) + 3)], .slice q (twoM M).length c] V fun e w' =>
      e = .returned (.tuple #[.agg #[.int .i64 3, .int .i64 300, .int .i64 0, .int .i64 ((wsum M : Nat) + 3 + 2 * (wsum M : Nat) + 3)], .int .u64 (shX3 M), .bool true]) ∧ ArenaAt w' p g bm n (shW3 ws M) sR ∧ Turn [g] V w' := by
  have h := din_yes (M := twoM M) H (shH2 M) (show (Lit.int .i64 (3 : Int)).wf = true by decide) F.w2 (qm := q) (cm := c) (hm V (Turn.refl _ _)) hm F.in3
  rw [show (shH2 M).top + ((wsum (twoM M) : Nat) : Int) = (wsum M : Nat) + 3 + 2 * (wsum M : Nat) + 3 from shH3_top M, shH2_top'] at h
  exact h
theorem s_out3 {V : World} {p g bm n : Nat} {ws : List Int} {M : List Cl} (H : ArenaAt V p g bm n (shW3 ws M) sR) (F : ShF ws M) :
    Calls Tryz.prog 15 #[.pointer (some ⟨p, 0, none⟩), .agg #[.int .i64 3, .int .i64 300, .int .i64 0, .int .i64 ((wsum M : Nat) + 3 + 2 * (wsum M : Nat) + 3)], .int .u64 (shX3 M)] V fun e w' =>
      ∃ q c, e = .returned (.tuple #[.slice q (twoM M).length c, .bool true]) ∧ OwnP w' V.heap.size 51 (.slice q (twoM M).length c) 4 ((twoM M).map celC) ∧ Ext V w' := by
  have h := out_is H (shH3 M) (show (Lit.int .i64 (3 : Int)).wf = true by decide) F.w3 F.x3
  rw [F.out3, shH3_top] at h
  exact h
theorem s_set {V : World} {p g bm n : Nat} {ws : List Int} {M : List Cl} (H : ArenaAt V p g bm n (shW3 ws M) sR) (F : ShF ws M) :
    Calls Tryz.prog 20 #[.pointer (some ⟨p, 0, none⟩), .agg #[.int .i64 3, .int .i64 300, .int .i64 0, .int .i64 ((wsum M : Nat) + 3 + 2 * (wsum M : Nat) + 3)], .int .u64 (shX2 M), .int .i64 1, .int .u64 (shX2 M)] V fun e w' =>
      e = .returned (.bool true) ∧ ArenaAt w' p g bm n (shW4 ws M) sR ∧ Turn [g] V w' := by
  have h := oset_is H (shH3 M) (show (Lit.int .i64 (3 : Int)).wf = true by decide) F.w3 (x := shX2 M) (v := shX2 M) (i := 1) F.x2 F.x2 (by decide)
  rw [F.set, shH3_top] at h
  exact h
theorem s_out4 {V : World} {p g bm n : Nat} {ws : List Int} {M : List Cl} (H : ArenaAt V p g bm n (shW4 ws M) sR) (F : ShF ws M) :
    Calls Tryz.prog 15 #[.pointer (some ⟨p, 0, none⟩), .agg #[.int .i64 3, .int .i64 300, .int .i64 0, .int .i64 ((wsum M : Nat) + 3 + 2 * (wsum M : Nat) + 3)], .int .u64 (shX2 M)] V fun e w' =>
      e = .returned (.tuple #[.slice none 0 0, .bool false]) ∧ Ext V w' := by
  have h := out_is H (shH3 M) (show (Lit.int .i64 (3 : Int)).wf = true by decide) F.w4 F.x2
  rw [F.out4, shH3_top] at h
  exact h
end Go.Proofs.YtppkgfcobnknfaaGreatDoor
/- DataShares: the walk. -/
namespace Go.Proofs.YtppkgfcobnknfaaGreatDoor
open Go.RowKit Go.Maps Arena
set_option maxHeartbeats 8000000
set_option maxRecDepth 100000
def s0ws : List Int := rigW (List.replicate 600 0) 600
theorem s0_64 : ∀ x ∈ s0ws, W64 x := rigW_mem (by intro x hx; rw [(List.mem_replicate.1 hx).2]; exact w64_zero) _
theorem D10.out {w V V' : World} {p g bm t0 q n : Nat} {ws : List Int} {R : List (Nat × Nat)} (h : D10 w V p g bm t0 q n ws R) (t : Turn [g] V V') : Ext w V' := Below.trans h.x (t.below (Below.size h.x) (by have := h.ge.1; simp; omega))
theorem keep_blk {V V' : World} {g b : Nat} {o : Obj} (h : V.heap[b]? = some o) (t : Turn [g] V V') (hn : g < b) : V'.heap[b]? = some o := (t.block b (Array.getElem?_eq_some_iff.1 h).1 (by simp; omega)).trans h
theorem keep_ext {V V' : World} {b : Nat} {o : Obj} (h : V.heap[b]? = some o) (e : Ext V V') : V'.heap[b]? = some o := (Below.block e b (Array.getElem?_eq_some_iff.1 h).1).trans h
theorem shares_walk {w : World} {vm : Value} {M : List Cl} (hm : MsgP w vm M) (hO : OpLie w) : Calls Tryz.prog 4 #[vm] w (True10 w) := by
  have hmk := run_make_row' (P := Tryz.prog) 22 42 (.int .u64 0) 8 Tryz.underlying22 info_u64 rfl .i64 .i64 600 (by omega) (by omega)
  simp only [Int.cast_ofNat_Int] at hmk
  have HM := Lib.hid hm; have HO := Lib.hid hO
  obtain ⟨qm, cm, rfl, hm1, hm2, -⟩ := RowsP.at hm
  rw [List.length_map] at hm1 HM ⊢
  have HLM := Lib.hid (large_same HM.out)
  have HGM := Lib.hid (fun W (e : Ext w W) => refgood_msg (HM.out.ext e))
  have HWk := Lib.hid (fun W (e : Ext w W) => wakes10 W (HO.out.ext e))
  generalize hgm : goodM M = gm at HGM
  have HGe := Lib.hid hgm
  clear hm hO hgm
  go_enter Tryz.func4, Tryz.ntmps4
  go_wp2_with fail
  (with_reducible refine HLM.out.mono ?_)
  rintro e w1 ⟨b, rfl, hla, rfl⟩
  cases b with
  | true =>
    have HXX := Lib.hid (Ext.refl w)
    clear hla
    go_wp2_with fail
    (with_reducible refine (HWk.out _ HXX.out).mono ?_)
    rintro e w9 ⟨rfl, hx9⟩
    have HX9 := Lib.hid (HXX.out.trans hx9)
    clear hx9
    go_wp2_with fail
    go_ret
    exact ⟨rfl, HX9.out⟩
  | false =>
    clear hla HLM
    by_cases h40 : 40 < M.length
    · have t1 : (40 : Int) < (M.length : Int) := by omega
      have HXX := Lib.hid (Ext.refl w)
      go_wp2_with fail
      (with_reducible refine (HWk.out _ HXX.out).mono ?_)
      rintro e w9 ⟨rfl, hx9⟩
      have HX9 := Lib.hid (HXX.out.trans hx9)
      clear hx9
      go_wp2_with fail
      go_ret
      exact ⟨rfl, HX9.out⟩
    have t1 : ¬ (40 : Int) < (M.length : Int) := by omega
    cases gm with
    | false =>
      go_wp2_with fail
      (with_reducible refine (HGM.out _ (Ext.refl w)).mono ?_)
      rintro e w2 ⟨rfl, hx⟩
      have HXX := Lib.hid hx
      clear hx
      go_wp2_with fail
      (with_reducible refine (HWk.out _ HXX.out).mono ?_)
      rintro e w9 ⟨rfl, hx9⟩
      have HX9 := Lib.hid (HXX.out.trans hx9)
      clear hx9
      go_wp2_with fail
      go_ret
      exact ⟨rfl, HX9.out⟩
    | true =>
      have HRW := Lib.hid (fun W (e : Ext w W) => refwords_msg (HM.out.ext e) HGe.out)
      have hsum := goodM_sum HGe.out
      go_wp2_with fail
      (with_reducible refine (HGM.out _ (Ext.refl w)).mono ?_)
      rintro e w2 ⟨rfl, hx⟩
      have HX2 := Lib.hid hx
      clear hx HGM
      go_wp2_with fail
      (with_reducible refine (HRW.out _ HX2.out).mono ?_)
      rintro e w3 ⟨rfl, hx⟩
      have HXX := Lib.hid (HX2.out.trans hx)
      clear hx HX2
      by_cases h90 : 90 < wsum M
      · have t2 : (90 : Int) < (wsum M : Int) := by omega
        go_wp2_with fail
        (with_reducible refine (HWk.out _ HXX.out).mono ?_)
        rintro e w9 ⟨rfl, hx9⟩
        have HX9 := Lib.hid (HXX.out.trans hx9)
        clear hx9
        go_wp2_with fail
        go_ret
        exact ⟨rfl, HX9.out⟩
      have t2 : ¬ (90 : Int) < (wsum M : Int) := by omega
      go_wp2_with fail
      refine (lay_words (made_words w3 600 (by omega) _) (by simp)).mono ?_
      rintro e w4 ⟨p, g, bm, q, gq, B, rfl, hB⟩
      simp only [List.length_replicate] at hB
      have HB := Lib.hid hB
      clear hB hmk
      go_upto_region 6 with fail
      refine wp_alloc1 fun W hE hS b0 => ?_
      have hlt := HB.out.a.lt
      have hA0 : ArenaAt w4 p g bm 610 s0ws sR := HB.out.a
      have K := Lib.hid (show D10 w W p g bm w4.heap.size q 610 s0ws sR from ⟨hA0.ext hE, b0, HXX.out.trans (((Ext.alloc w3 (Obj.cells (madeCells #[Value.int IntKind.u64 0] 600) 42)).trans HB.out.ext).trans hE), by have h1 := HB.out.ge.2.1; have h2 := Below.size (Ext.alloc w3 (Obj.cells (madeCells #[Value.int IntKind.u64 0] 600) 42)); have h3 := HXX.out.size; omega, by omega, by omega, by omega⟩)
      have F := Lib.hid (share hA0.good hA0.len s0_64 HGe.out (by omega) (by omega))
      clear hE hS b0 hlt HB hA0
      generalize w4.heap.size = t0 at *
      obtain ⟨x0, x1⟩ := cells2 K.out.two
      have hin := s_in1 K.out.a s0_64 F.out (q := qm) (c := cm) (fun W' t => RowsP.ext HM.out (K.out.out t))
      go_wp2_with fail
      (with_reducible refine hin.mono ?_)
      rintro e w5 ⟨rfl, ha, ht⟩
      have K5 := Lib.hid (K.out.put ha ht)
      clear hin ha ht K x0 x1
      go_upto_region 7 with fail
      refine wp_alloc1 fun W6 hE hS b6 => ?_
      have hl5 := K5.out.lt
      have K6 := Lib.hid (K5.out.ext hE)
      have hn1 : t0 < w5.heap.size := hl5
      have B6 := Lib.hid b6
      have hs6 : w5.heap.size < W6.heap.size := by omega
      clear hE hS K5 hl5
      generalize w5.heap.size = n1 at *
      obtain ⟨x0, x1⟩ := cells2 K6.out.two
      obtain ⟨y0, y1, y2, y3⟩ := cells4 b6
      clear b6
      have hE7 := Ext.alloc W6 (.cells #[.int .u64 (shX1 M), .int .u64 (shX1 M)] 42)
      have hrow := OwnP.of_form (w := W6.alloc (.cells #[.int .u64 (shX1 M), .int .u64 (shX1 M)] 42)) (base := W6.heap.size) (T := 42) (l := [shX1 M, shX1 M].map wordC) (cap := 2) (cur := #[.int .u64 (shX1 M), .int .u64 (shX1 M)]) (by intro l hl; simp at hl; rcases hl with rfl | rfl <;> exact ⟨rfl, by intro u hu; simp [wordC] at hu; subst hu; rfl⟩) (Nat.le_refl _) (heap_alloc_new _ _) (Nat.le_refl _) (by unfold maxLen; omega) rfl rfl
      have hput := s_put (K6.out.ext hE7).a F.out (q := some ⟨W6.heap.size, 0, none⟩) (c := 2) (fun W' t => (hrow.turn t (fun b hb hmm => by have h1 := (hrow.own b hb).1; have h2 := K6.out.ge; simp at hmm; omega)).p)
      have K7 := Lib.hid (K6.out.ext hE7)
      have B7 := Lib.hid (keep_ext B6.out hE7)
      clear hrow
      go_wp2_with fail
      (with_reducible refine hput.mono ?_)
      rintro e w8 ⟨rfl, ha, ht⟩
      have K8 := Lib.hid (K7.out.put ha ht)
      clear hput ha ht hE7 x0 x1 y0 y1 y2 y3 K6 K7 B6 B7
      go_upto_region 8 with fail
      refine wp_alloc1 fun W9 hE hS b9 => ?_
      have hl8 := K8.out.lt
      have K9 := Lib.hid (K8.out.ext hE)
      have hn2 : t0 < w8.heap.size := hl8
      have B9 := Lib.hid b9
      clear hE hS K8 hl8
      generalize w8.heap.size = n2 at *
      obtain ⟨x0, x1⟩ := cells2 K9.out.two
      obtain ⟨y0, y1, y2, y3⟩ := cells4 b9
      clear b9
      have hout := s_out2 K9.out.a F.out
      go_wp2_with fail
      (with_reducible refine hout.mono ?_)
      rintro e w10 ⟨q10, c10, rfl, ho, hx⟩
      have K10 := Lib.hid (K9.out.ext hx)
      have B10 := Lib.hid (keep_ext B9.out hx)
      have hg9 : g < W9.heap.size := by have h1 := K9.out.ge; have h2 := K9.out.lt; omega
      have O10 := Lib.hid ho
      clear hout ho hx x0 x1 y0 y1 y2 y3 K9 B9
      go_upto_region 9 with fail
      have HXa := Lib.hid K10.out.x
      have H1 := Lib.hid (OwnP.of_form (w := w10.alloc (.cells #[.int .i64 1, .int .i64 0, .int .i64 2, .string ByteArray.empty] 51)) (base := w10.heap.size) (T := 51) (l := [hd 0 2].map celC) (cap := 1) (cur := #[.int .i64 1, .int .i64 0, .int .i64 2, .string ByteArray.empty]) (celC_rows _) (Nat.le_refl _) (heap_alloc_new _ _) (Nat.le_refl _) (by unfold maxLen; omega) rfl rfl)
      have HEW := Lib.hid (Ext.alloc w10 (.cells #[.int .i64 1, .int .i64 0, .int .i64 2, .string ByteArray.empty] 51))
      go_wp2_with (refine wpList_append_rows ECel (by rfl) _ _ (by rfl) w10.heap.size (.slice (some ⟨w10.heap.size, 0, none⟩) 1 1) (.slice qm M.length cm) ([hd 0 2].map celC) (M.map celC) (by rfl) H1.out (by rfl) (RowsP.ext HM.out (HXa.out.trans HEW.out)) (by simp; unfold maxLen; omega) (by simp; omega) (by simp) ?_)
      intro v11 w11 ho hg hb _
      have hx : Ext w10 w11 := Below.grown (Below.alloc (Ext.refl w10) (Nat.le_refl _) _) hg (by simp) (fun b hb => (H1.out.own b hb).1)
      replace ho : OwnP w11 w10.heap.size 51 v11 4 ((hd 0 2 :: M).map celC) := by simpa using ho
      obtain ⟨q11, c11, hv, -, -⟩ := ho.len
      obtain rfl : v11 = .slice q11 (M.length + 1) c11 := by rw [hv, List.length_map, List.length_cons]
      have HO11 := Lib.hid ho; have H11 := Lib.hid hx
      have hs11 := Below.size hx
      clear ho hg hb hx H1 HEW hv
      go_wp2_with (refine wpList_append_rows ECel (by rfl) _ _ (by rfl) w10.heap.size (.slice q11 (M.length + 1) c11) (.slice qm M.length cm) ((hd 0 2 :: M).map celC) (M.map celC) (by rfl) HO11.out (by rfl) (RowsP.ext HM.out (HXa.out.trans H11.out)) (by simp; unfold maxLen; omega) (by simp; omega) (by omega) ?_)
      intro v12 w12 ho hg hb _
      have hx : Below w10.heap.size w11 w12 := Below.grown (Below.refl _ _) hg hs11 (fun b hb => (HO11.out.own b (own_any hb)).1)
      replace ho : OwnP w12 w10.heap.size 51 v12 4 ((twoM M).map celC) := by unfold twoM; simpa using ho
      obtain ⟨q12, c12, hv, -, -⟩ := ho.len
      rw [List.length_map] at hv
      subst hv
      have hx12 : Ext w10 w12 := Below.trans H11.out hx
      have K12 := Lib.hid (K10.out.ext hx12); have B12 := Lib.hid (keep_ext B10.out hx12); have O12 := Lib.hid (O10.out.ext hx12); have HT12 := Lib.hid ho.p
      clear ho hg hb hx HO11 H11 hx12 K10 B10 O10 HXa
      have hmsg := msg_true (M := twoM M) O12.out.p HT12.out
      go_wp2_with fail
      (with_reducible refine hmsg.mono ?_)
      rintro e w13 ⟨rfl, hx⟩
      have K13 := Lib.hid (K12.out.ext hx); have B13 := Lib.hid (keep_ext B12.out hx); have O13 := Lib.hid (O12.out.ext hx)
      clear hmsg hx K12 B12 O12 HT12
      obtain ⟨x0, x1⟩ := cells2 K13.out.two
      obtain ⟨y0, y1, y2, y3⟩ := cells4 B13.out
      have hin := s_in3 K13.out.a F.out (q := q10) (c := c10) (fun W' t => (O13.out.turn t (fun b hb hmm => by have h1 := (O13.out.own b hb).1; simp at hmm; omega)).p)
      go_wp2_with fail
      (with_reducible refine hin.mono ?_)
      rintro e w14 ⟨rfl, ha, ht⟩
      have K14 := Lib.hid (K13.out.put ha ht); have B14 := Lib.hid (keep_blk B13.out ht (by have := K13.out.ge; omega)); have O14 := Lib.hid (O13.out.turn ht (fun b hb hmm => by have h1 := (O13.out.own b hb).1; simp at hmm; omega))
      clear hin ha ht x0 x1 y0 y1 y2 y3 K13 B13 O13
      go_upto_region 13 with fail
      refine wp_alloc1 fun W15 hE hS b15 => ?_
      have hl14 := K14.out.lt
      have K15 := Lib.hid (K14.out.ext hE)
      have hn3 : t0 < w14.heap.size := hl14
      have C15 := Lib.hid b15; have B15 := Lib.hid (keep_ext B14.out hE); have O15 := Lib.hid (O14.out.ext hE)
      clear hE hS K14 hl14 B14 O14
      generalize w14.heap.size = n3 at *
      obtain ⟨x0, x1⟩ := cells2 K15.out.two
      obtain ⟨y0, y1, y2, y3⟩ := cells4 b15
      clear b15
      have hout := s_out3 K15.out.a F.out
      go_wp2_with fail
      (with_reducible refine hout.mono ?_)
      rintro e w16 ⟨q16, c16, rfl, ho, hx⟩
      have K16 := Lib.hid (K15.out.ext hx); have C16 := Lib.hid (keep_ext C15.out hx); have B16 := Lib.hid (keep_ext B15.out hx); have O16 := Lib.hid (O15.out.ext hx).p; have P16 := Lib.hid ho.p
      clear hout ho hx x0 x1 y0 y1 y2 y3 K15 C15 B15 O15
      go_upto_region 14 with fail
      have hm14 : ∀ d os, Calls Tryz.prog 16 #[.slice q16 (twoM M).length c16, .slice q10 (twoM M).length c10] (Go.Sort.grow (redrawn w16 d) os) fun e w'' => e = .returned (.bool true) ∧ ∃ p : Regrown, w'' = Go.Sort.grow (redrawn w16 p.d) p.os := fun d os => quiet_ext (msg_true (M := twoM M) (P16.out.ext (Ext.regrown w16 d os)) (O16.out.ext (Ext.regrown w16 d os)))
      have hw14 : ∀ d os, Calls Tryz.prog 13 #[.slice qm M.length cm] (Go.Sort.grow (redrawn w16 d) os) fun e w'' => e = .returned (.int .i64 (wsum M)) ∧ ∃ p : Regrown, w'' = Go.Sort.grow (redrawn w16 p.d) p.os := fun d os => quiet_ext (HRW.out _ (K16.out.x.trans (Ext.regrown w16 d os)))
      have CM := Lib.hid hm14; have CW := Lib.hid hw14
      obtain ⟨y0, y1, y2, y3⟩ := cells4 C16.out
      obtain ⟨z0, z1, z2, z3⟩ := cells4 B16.out
      have ry := fun d os => cell_regrown y3 d os
      have rz := fun d os => cell_regrown z3 d os
      clear hm14 hw14 y0 y1 y2 z0 z1 z2
      refine wp_region_quiet_below (by kernel_rfl) (by kernel_rfl) ?_
      repeat (first | go_big_quiet_step (first | exact CM.out _ _ | exact CW.out _ _) | quiet_step (first | exact CM.out _ _ | exact CW.out _ _))
      refine wpQuiet_nil ?_
      intro _ hw'
      obtain ⟨⟨dq, osq⟩, hw''⟩ := hw'
      subst hw''
      have hxr := Ext.regrown w16 dq osq
      have K17 := Lib.hid (K16.out.ext hxr); have C17 := Lib.hid (keep_ext C16.out hxr)
      clear ry rz CM CW y3 z3 K16 C16 B16 O16 P16
      generalize Go.Sort.grow (redrawn w16 dq) osq = w17 at *
      clear hxr
      obtain ⟨x0, x1⟩ := cells2 K17.out.two
      obtain ⟨y0, y1, y2, y3⟩ := cells4 C17.out
      have hset := s_set K17.out.a F.out
      go_wp2_with fail
      (with_reducible refine hset.mono ?_)
      rintro e w18 ⟨rfl, ha, ht⟩
      have K18 := Lib.hid (K17.out.put ha ht); have C18 := Lib.hid (keep_blk C17.out ht (by have := K17.out.ge; omega))
      clear hset ha ht x0 x1 y0 y1 y2 y3 K17 C17
      obtain ⟨x0, x1⟩ := cells2 K18.out.two
      obtain ⟨y0, y1, y2, y3⟩ := cells4 C18.out
      have hout := s_out4 K18.out.a F.out
      go_wp2_with fail
      (with_reducible refine hout.mono ?_)
      rintro e w19 ⟨rfl, hx⟩
      have HX19 := Lib.hid (K18.out.x.trans hx)
      clear hout hx x0 x1 y0 y1 y2 y3 K18 C18 HXX
      have HXX := HX19
      clear HX19
      go_wp2_with fail
      (with_reducible refine (HWk.out _ HXX.out).mono ?_)
      rintro e w9 ⟨rfl, hx9⟩
      have HX9 := Lib.hid (HXX.out.trans hx9)
      clear hx9
      go_wp2_with fail
      go_ret
      exact ⟨rfl, HX9.out⟩
end Go.Proofs.YtppkgfcobnknfaaGreatDoor
/- A row of rows among the arguments: general. -/
namespace Go.Proofs.YtppkgfcobnknfaaGreatDoor
open Go Go.ChangeShapes Go.WideShapes Go.ChangeAt Go.RowKit Go.Deep
set_option maxHeartbeats 4000000
set_option maxRecDepth 100000
theorem flat_inv {s : Nat} (hs : 1 ≤ s) : ∀ (l : List (List Value)), (∀ cs ∈ l, cs.length = s) → ∀ (j : Nat) (u : Value), l.flatten[j]? = some u → ∃ i f cs, j = i * s + f ∧ l[i]? = some cs ∧ cs[f]? = some u
  | [], _, j, u, h => by simp at h
  | c :: l, hl, j, u, h => by
    have hc := hl c (.head _)
    rw [List.flatten_cons] at h
    by_cases hj : j < s
    · rw [List.getElem?_append_left (by omega)] at h
      exact ⟨0, j, c, by omega, rfl, h⟩
    · rw [List.getElem?_append_right (by omega), hc] at h
      obtain ⟨i, f, cs, h1, h2, h3⟩ := flat_inv hs l (fun cs hm => hl cs (.tail _ hm)) (j - s) u h
      exact ⟨i + 1, f, cs, by rw [Nat.add_mul]; omega, h2, h3⟩
theorem rows_p {w : World} {v : Value} {s : Nat} {l : List (List Value)} (hs : 1 ≤ s) (h : RowsSl w v s l) (h1 : Rows1 s l) (hn : l ≠ []) : RowsP w v s l := by
  obtain ⟨q, c, rfl, h2, h3, h4⟩ := h
  refine ⟨h1, .inr ?_⟩
  obtain ⟨cs0, hcs0⟩ : ∃ cs, l[0]? = some cs := by cases l with | nil => exact absurd rfl hn | cons a l => exact ⟨a, rfl⟩
  obtain ⟨_, b, off, rfl, _⟩ := h4 0 cs0 hcs0
  refine ⟨b, off, c, rfl, h2, h3, fun j u hu => ?_⟩
  obtain ⟨i, f, cs, rfl, hi, hf⟩ := flat_inv hs l (fun cs hm => (h1 cs hm).1) j u hu
  obtain ⟨_, b', off', e, hc⟩ := h4 i cs hi
  obtain ⟨rfl, rfl, _⟩ := Addr.mk.inj (Option.some.inj e)
  rw [← Nat.add_assoc]
  exact hc f u hf
/-- one cell that reads as a slice -/
theorem rows_cell {H : Type} {enc : TypeId × Value → H} {P : Program} {w : World} {t e : TypeId} {s : Nat} {cs : List Value} (ht : P.underlying t = some (.slice e)) (hs : P.cellsOf e = s) (h1 : 1 ≤ s)
    (h : ReadsAs enc P w t cs) : ∃ v l, cs = [v] ∧ RowsSl w v s l ∧ (l = [] → EmptyV v) ∧ ∀ cs ∈ l, ReadsAs enc P w e cs := by
  obtain ⟨fuel, x, hf⟩ := h
  rcases open_slice ht hf with ⟨hcs, _⟩ | ⟨a, len, cap, m, n, D, Pl, hcs, _, hlc, hcm, hm, _, hel⟩
  · exact ⟨_, [], hcs, ⟨none, 0, rfl, Nat.le_refl _, Nat.zero_le _, fun i cs h => by simp at h⟩, fun _ => .inl rfl, fun cs h => by cases h⟩
  · simp only [if_true] at hm
    rw [hs] at hel
    rw [hm] at hel
    obtain ⟨V, hV⟩ := choose_lt (n := cap) (p := fun i cs => w.cells? 0 (a.add (i * s)) s = some cs ∧ DataW.trod enc P w 0 (fun _ => true) true n e cs = some (D i, Pl i)) (fun i hi => hel i hi)
    have hl : ((List.range len).map V).length = len := by simp
    refine ⟨_, (List.range len).map V, hcs, ⟨some a, cap, by rw [hl], by rw [hl]; exact hlc, hcm, fun i cs hi => ?_⟩, fun he => ?_, fun cs hcs => ?_⟩
    · have hil : i < len := by have := (List.getElem?_eq_some_iff.1 hi).1; simpa using this
      have hcs : V i = cs := by simpa [hil] using hi
      subst hcs
      obtain ⟨_, hlen, hcell⟩ := World.cells?_some (hV i (by omega)).1
      obtain ⟨_, hlen0, hcell0⟩ := World.cells?_some (hV 0 (by omega)).1
      have hc0 := hcell0 0 (by omega)
      rw [List.getElem?_eq_getElem (by omega : 0 < (V 0).length), Go.Deep.add_add] at hc0
      obtain ⟨b, off, spot⟩ := a
      have hspot : spot = none := by simpa [Addr.add] using World.cell?_spot hc0
      subst hspot
      refine ⟨hlen, b, off, rfl, fun f u hu => ?_⟩
      have hfl : f < s := by rw [← hlen]; exact (List.getElem?_eq_some_iff.1 hu).1
      have := hcell f hfl
      rw [Go.Deep.add_add, add_plain, hu] at this
      rw [Nat.add_assoc]
      exact this
    · have h0 : len = 0 := by have := congrArg List.length he; simpa using this
      subst h0
      exact .inr ⟨a, cap, rfl, hcm⟩
    · obtain ⟨i, hi, rfl⟩ := List.mem_map.1 hcs
      have hil := List.mem_range.1 hi
      exact ⟨n, _, (hV i (by omega)).2⟩
/-- rows whose cells are all of a form -/
theorem choose_form {α : Type} [Inhabited α] (f : α → List Value) : ∀ (l : List (List Value)), (∀ cs ∈ l, ∃ x, cs = f x) → ∃ M : List α, l = M.map f
  | [], _ => ⟨[], rfl⟩
  | c :: l, h => by
    obtain ⟨x, rfl⟩ := h c (.head _)
    obtain ⟨M, rfl⟩ := choose_form f l (fun cs hm => h cs (.tail _ hm))
    exact ⟨x :: M, rfl⟩
end Go.Proofs.YtppkgfcobnknfaaGreatDoor
/- A message, forms among the arguments. -/
namespace Go.Proofs.YtppkgfcobnknfaaGreatDoor
open Go Go.ChangeShapes Go.WideShapes Go.ChangeAt Go.RowKit Go.Deep
set_option maxHeartbeats 4000000
set_option maxRecDepth 100000
theorem cl_reads {H : Type} {enc : TypeId × Value → H} {w : World} {cs : List Value} (h : ReadsAs enc Tryz.prog w 51 cs) : ∃ x : Cl, cs = celC x := by
  obtain ⟨n, y, h⟩ := h
  obtain ⟨xs, k, rfl, _, hlen, hxl, hf⟩ := DataW.trod_struct Tryz.underlying51 h
  have hc : Tryz.prog.cellsOf 51 = 4 := by kernel_rfl
  rw [hc] at hlen
  match cs, hlen, xs, hxl with
  | [v0, v1, v2, v3], _, [y0, y1, y2, y3], _ =>
    have g0 := hf 0 _ rfl
    have g1 := hf 1 _ rfl
    have g2 := hf 2 _ rfl
    have g3 := hf 3 _ rfl
    have ci : Tryz.prog.cellsOf 3 = 1 := by kernel_rfl
    have ci6 : Tryz.prog.cellsOf 2 = 1 := by kernel_rfl
    have cs1 : Tryz.prog.cellsOf 9 = 1 := by kernel_rfl
    simp [ci, ci6, cs1] at g0 g1 g2 g3
    obtain ⟨a0, e0, _, w0⟩ := DataW.trod_int Tryz.underlying3 g0
    obtain ⟨a1, e1, _, w1⟩ := DataW.trod_int Tryz.underlying3 g1
    obtain ⟨a2, e2, _, w2⟩ := DataW.trod_int Tryz.underlying2 g2
    obtain ⟨a3, e3, _, w3⟩ := DataW.trod_string Tryz.underlying9 g3
    simp at e0 e1 e2 e3
    subst e0; subst e1; subst e2; subst e3
    exact ⟨⟨a0, a1, a2, a3⟩, rfl⟩
theorem choose_fm {α : Type} (f : α → List Value) : ∀ (l : List (List Value)), (∀ cs ∈ l, ∃ x, cs = f x) → ∃ M : List α, l = M.map f
  | [], _ => ⟨[], rfl⟩
  | c :: l, h => by
    obtain ⟨x, rfl⟩ := h c (.head _)
    obtain ⟨M, rfl⟩ := choose_fm f l (fun cs hm => h cs (.tail _ hm))
    exact ⟨x :: M, rfl⟩
theorem cel_rows (M : List Cl) : Rows1 4 (M.map celC) := by
  intro l hl
  obtain ⟨x, _, rfl⟩ := List.mem_map.1 hl
  refine ⟨rfl, fun u hu => ?_⟩
  simp [celC] at hu
  rcases hu with rfl | rfl | rfl | rfl <;> rfl
theorem msg_cell {H : Type} {enc : TypeId × Value → H} {w : World} {cs : List Value} (h : ReadsAs enc Tryz.prog w 41 cs) : ∃ v M, cs = [v] ∧ MsgP w v M := by
  obtain ⟨v, l, rfl, hr, he, hl⟩ := rows_cell Tryz.underlying41 (show Tryz.prog.cellsOf 51 = 4 by kernel_rfl) (by omega) h
  obtain ⟨M, rfl⟩ := choose_fm celC l (fun cs hm => cl_reads (hl cs hm))
  refine ⟨v, M, rfl, ?_⟩
  cases M with
  | nil => exact ⟨Rows1.nil 4, .inl ⟨he rfl, rfl⟩⟩
  | cons x M => exact rows_p (by omega) hr (cel_rows _) (by simp)
theorem open_msg {H : Type} {enc : TypeId × Value → H} {W : World} {v : Value} {d : DataW H} {ps : List MemPlace} {base : Nat} (hval : Value.okWide Tryz.prog W .any base 41 v) (h : DataW.Trod enc Tryz.prog W 0 (fun _ => true) true 41 v d ps) : ∃ M, MsgP W v M := by
  obtain ⟨a0, len, cap, rfl⟩ := okWide_slice Tryz.underlying41 hval
  obtain ⟨fuel, hf⟩ := h
  obtain ⟨v', M, hv, hm⟩ := msg_cell ⟨fuel, _, hf⟩
  simp only [Value.cells, List.cons.injEq, and_true] at hv
  subst hv
  exact ⟨M, hm⟩
end Go.Proofs.YtppkgfcobnknfaaGreatDoor
/- DataShares: the walk, as the law's last text calls it. -/
namespace Go.Proofs.YtppkgfcobnknfaaGreatDoor
open Go.RowKit
theorem shares_walk' {w : World} {vm : Value} {M : List Cl} (hm : MsgP w vm M) (hO : OpLie w) : Calls Tryz.prog 4 #[vm] w (True10 w) := shares_walk hm hO
end Go.Proofs.YtppkgfcobnknfaaGreatDoor
