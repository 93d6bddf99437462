/- Proved here: the contracts and laws of ObjV, ObjW, ObjX, PieceQ, ObjY, ObjZ, ObjZA, ObjZB, ObjZC, ObjZD, ObjZE of this claim, each beneath its own remark; conditions: those that each theorem names. -/
import Derived.Test.YtinakendlpomnaaGreatM4
import Derived.Test.YtinakendlpomnaaGreatM2
import Derived.IntWalk
/- A heap's functions (the program's): find, Get. -/
namespace Go.Proofs.YtinakendlpomnaaGreat
open Go.RowKit Go.Maps Arena
set_option maxHeartbeats 4000000
set_option maxRecDepth 100000
/-- the object of a place's word -/
def getL (first : Nat) (L : List (Nat × Ob)) (x : Int) : Option (Nat × Ob) := if isIntW x = true ∨ 4294967296 ≤ x / 2 then none else L.find? fun y => decide (((first + y.1 : Nat) : Int) = x / 2)
def getH (ws : List Int) (R : List (Nat × Nat)) (h : Hp) (x : Int) : Option (Nat × Ob) := (allH ws R h).bind fun L => getL (firstN h) L x
theorem getL_some {first : Nat} {L : List (Nat × Ob)} {x : Int} {y : Nat × Ob} (h : getL first L x = some y) : y ∈ L ∧ ((first + y.1 : Nat) : Int) = x / 2 ∧ isIntW x = false ∧ x / 2 < 4294967296 := by
  unfold getL at h
  split at h
  · cases h
  · rename_i hn
    refine ⟨List.mem_of_find?_eq_some h, by simpa using List.find?_some h, ?_, by omega⟩
    cases hi : isIntW x with
    | false => rfl
    | true => exact absurd (.inl hi) hn
theorem places_inj {L : List (Nat × Ob)} (h : L.Pairwise (fun x y => x.1 < y.1)) {x y : Nat × Ob} (hx : x ∈ L) (hy : y ∈ L) (e : y.1 = x.1) : y = x := by
  obtain ⟨i, hi, rfl⟩ := List.getElem_of_mem hx
  obtain ⟨j, hj, rfl⟩ := List.getElem_of_mem hy
  rcases Nat.lt_trichotomy i j with h1 | h1 | h1
  · have := List.pairwise_iff_getElem.1 h i j hi hj h1; omega
  · subst h1; rfl
  · have := List.pairwise_iff_getElem.1 h j i hj hi h1; omega
theorem MetAt.mono {w : World} {mb B B' first : Nat} {L : List (Nat × Ob)} (h : MetAt w mb B first L) (hb : B' ≤ B) : MetAt w mb B' first L := by
  obtain ⟨n, f, h0, h1, h2, h3⟩ := h
  exact ⟨n, f, h0, h1, fun x hx => (h2 x hx).imp fun v hv => ⟨hv.1, hv.2.mono hb⟩, h3⟩
/-- what 'find' tells -/
def FindSaid (ws : List Int) (R : List (Nat × Nat)) (h : Hp) (x : Int) (w : World) (e : Ending) (w' : World) : Prop :=
  ∃ (kd tg : Int) (q : Option Addr) (l c : Nat) (s : ByteArray) (mv : Option Nat) (k : Int), e = .returned (.tuple #[.agg #[.int .i64 kd, .int .i64 tg, .slice q l c, .string s], .map mv, .int .i64 k, .bool (getH ws R h x).isSome]) ∧ Ext w w' ∧
    (getH ws R h x = none → (.agg #[.int .i64 kd, .int .i64 tg, .slice q l c, .string s] : Value) = zeroOV) ∧
    ∀ y, getH ws R h x = some y → ObV w' w.heap.size (.agg #[.int .i64 kd, .int .i64 tg, .slice q l c, .string s]) y.2 ∧ k = ((firstN h + y.1 : Nat) : Int) ∧ ∃ L mb, allH ws R h = some L ∧ mv = some mb ∧ MetAt w' mb w.heap.size (firstN h) L
theorem find_is {w : World} {p g bm n : Nat} {ws : List Int} {R : List (Nat × Nat)} (H : ArenaAt w p g bm n ws R) (h : Hp) (hw : (Lit.int .i64 h.base).wf = true) (hW : ∀ x ∈ ws, W64 x) {x : Int} (hx : W64 x) :
    Calls Tryz.prog 45 #[.agg #[.pointer (some ⟨p, 0, none⟩), .int .i64 h.base, .int .i64 h.half, .int .i64 h.space, .int .i64 h.top], .int .u64 x] w (FindSaid ws R h x w) := by
  have HA := Lib.hid (fun W (e : Ext w W) => all_is (H.ext e) h hw hW)
  have hpl : ∀ L, allH ws R h = some L → L.Pairwise (fun x y => x.1 < y.1) := fun L hL => objs_places (allS_some (allH_there hL).2).1
  unfold FindSaid getH
  generalize allH ws R h = r at HA hpl ⊢
  generalize firstN h = first at HA ⊢
  clear H hw hW
  have HT := Lib.hid (fun W => at_is hx W)
  cases r with
  | none =>
    clear HT hpl
    go_enter Tryz.func45, Tryz.ntmps45
    go_upto_region 1 with fail
    refine wp_alloc2 fun W hE hS b0 b1 => ?_
    obtain ⟨x0, x1, x2, x3, x4⟩ := cells5 b0
    go_wp2_with fail
    refine (HA.out W hE).mono ?_
    intro e w1 h1
    obtain ⟨rfl, hx1⟩ := h1
    have c1 := (Below.block hx1 (w.heap.size + 1) (by omega)).trans b1
    have HX := Lib.hid (hE.trans hx1)
    clear hx1 hE hS b0 b1 x0 x1 x2 x3 x4
    obtain ⟨y0, y1, y2, y3⟩ := cells4 c1
    have f0 := free_at c1 (i := 0)
    have f1 := free_at c1 (i := 1)
    have f2 := free_at c1 (i := 2)
    have f3 := free_at c1 (i := 3)
    go_wp2
    refine post_fill4 c1 fun W3 c1 hT hS3 => ?_
    obtain ⟨y0, y1, y2, y3⟩ := cells4 c1
    refine bodyPost_ret (v := .tuple #[zeroOV, .map none, .int .i64 0, .bool false]) (by simp [results, Tryz.results45, go_sem, y0, y1, y2, y3, zeroOV]; rfl) rfl ?_
    exact ⟨_, _, _, _, _, _, none, 0, rfl, Turn.after HX.out hT (by simp), fun _ => rfl, fun y hy => by cases hy⟩
  | some L =>
    have hpl := hpl L rfl
    have HPL := Lib.hid hpl
    clear hpl
    obtain ⟨gl, hgl⟩ : ∃ gl, gl = getL first L x := ⟨_, rfl⟩
    rw [show (some L).bind (fun L => getL first L x) = gl from hgl.symm]
    have HGL := Lib.hid hgl
    by_cases hc : isIntW x = true ∨ 4294967296 ≤ x / 2
    · rw [if_pos hc] at HT
      have hgn : gl = none := by rw [hgl]; unfold getL; rw [if_pos hc]
      subst hgn
      clear hc hgl HGL
      go_enter Tryz.func45, Tryz.ntmps45
      go_upto_region 1 with fail
      refine wp_alloc2 fun W hE hS b0 b1 => ?_
      obtain ⟨x0, x1, x2, x3, x4⟩ := cells5 b0
      go_wp2_with fail
      refine (HA.out W hE).mono ?_
      intro e w1 h1
      obtain ⟨mb, q, c, rfl, hm, hmb, ho, hx1⟩ := h1
      have c1 := (Below.block hx1 (w.heap.size + 1) (by omega)).trans b1
      have HX := Lib.hid (hE.trans hx1)
      clear hx1 hE hS b0 b1 x0 x1 x2 x3 x4 hm ho hmb
      obtain ⟨y0, y1, y2, y3⟩ := cells4 c1
      have f0 := free_at c1 (i := 0)
      have f1 := free_at c1 (i := 1)
      have f2 := free_at c1 (i := 2)
      have f3 := free_at c1 (i := 3)
      go_wp2_with fail
      refine (HT.out _).mono ?_
      rintro e w2 ⟨rfl, rfl⟩
      go_wp2
      refine post_fill4 c1 fun W3 c1 hT hS3 => ?_
      obtain ⟨y0, y1, y2, y3⟩ := cells4 c1
      refine bodyPost_ret (v := .tuple #[zeroOV, .map none, .int .i64 0, .bool false]) (by simp [results, Tryz.results45, go_sem, y0, y1, y2, y3, zeroOV]; rfl) rfl ?_
      exact ⟨_, _, _, _, _, _, none, 0, rfl, Turn.after HX.out hT (by simp), fun _ => rfl, fun y hy => by cases hy⟩
    · rw [if_neg hc] at HT
      obtain ⟨k, hk⟩ : ∃ k, k = x / 2 := ⟨_, rfl⟩
      have hwk : (Lit.int .i64 k).wf = true := by
        have := hx.1; have := hx.2
        exact WalkArith.wf_i64 (by omega)
      have hgl2 : gl = L.find? fun y => decide (((first + y.1 : Nat) : Int) = k) := by rw [hgl, hk]; exact if_neg hc
      rw [← hk] at HT
      have HG2 := Lib.hid hgl2
      clear hgl HGL hc hgl2 hk hx
      go_enter Tryz.func45, Tryz.ntmps45
      go_upto_region 1 with fail
      refine wp_alloc2 fun W hE hS b0 b1 => ?_
      obtain ⟨x0, x1, x2, x3, x4⟩ := cells5 b0
      go_wp2_with fail
      refine (HA.out W hE).mono ?_
      intro e w1 h1
      obtain ⟨mb, q, c, rfl, hm, hmb, ho, hx1⟩ := h1
      have c1 := (Below.block hx1 (w.heap.size + 1) (by omega)).trans b1
      have HX := Lib.hid (hE.trans hx1)
      obtain ⟨v, hl, h3, h4⟩ := hm.look true hwk
      have hwW : w.heap.size + 1 + 1 = W.heap.size := by omega
      have hsome : (L.any fun y => decide (((first + y.1 : Nat) : Int) = k)) = gl.isSome := by
        rw [HG2.out, Bool.eq_iff_iff, List.find?_isSome, List.any_eq_true]
      rw [hsome] at hl
      have hcl : ∃ kd tg q l c s, v = .agg #[.int .i64 kd, .int .i64 tg, .slice q l c, .string s] := by
        cases hgv : gl with
        | none =>
          rw [h4 (fun y hy e => by rw [HG2.out] at hgv; have := List.find?_eq_none.1 hgv y hy; simp at this; omega)]
          exact ⟨_, _, _, _, _, _, rfl⟩
        | some y =>
          rw [HG2.out] at hgv
          have hy := List.mem_of_find?_eq_some hgv
          obtain ⟨q, c, rfl, _⟩ := h3 y hy (by simpa using List.find?_some hgv) (fun z hz e => places_inj HPL.out hy hz e)
          exact ⟨_, _, _, _, _, _, rfl⟩
      obtain ⟨kd, tg, q3, l3, c3, s3, rfl⟩ := hcl
      have H3 := Lib.hid h3; have H4 := Lib.hid h4
      have HM := Lib.hid hm
      clear hx1 hE hS b0 b1 x0 x1 x2 x3 x4 hm ho hmb h3 h4 hsome hwk
      have HWW := Lib.hid hwW
      clear hwW
      obtain ⟨y0, y1, y2, y3⟩ := cells4 c1
      have f0 := free_at c1 (i := 0)
      have f1 := free_at c1 (i := 1)
      have f2 := free_at c1 (i := 2)
      have f3 := free_at c1 (i := 3)
      go_wp2_with fail
      refine (HT.out _).mono ?_
      rintro e w2 ⟨rfl, rfl⟩
      go_upto_region 8 with fail
      have C1 := Lib.hid c1
      refine wp_fill4 c1 fun W3 d1 hT hS3 => ?_
      have HT1 := Lib.hid hT
      have HX3 := Lib.hid (Turn.after HX.out hT (by simp))
      have hmb1 : IMap w1 mb 0 (fun _ => none) → True := fun _ => trivial
      have hmet3 : MetAt W3 mb w.heap.size first L := by
        obtain ⟨n4, f4, _, hm4, _⟩ := HM.out.map
        refine (HM.out.stays (hT.block mb HM.out.lt (fun e => ?_)) (fun v o ho => ho.turn_at C1.out (by decide) hT)).mono (by have := HWW.out; omega)
        obtain ⟨D, _, ⟨es, clock, h0, _⟩, _⟩ := hm4
        rw [List.mem_singleton.1 e] at h0
        rw [C1.out] at h0
        cases h0
      have HMET3 := Lib.hid hmet3
      have hov : ∀ y ∈ L, ((first + y.1 : Nat) : Int) = k → ObV W3 w.heap.size (.agg #[.int .i64 kd, .int .i64 tg, .slice q3 l3 c3, .string s3]) y.2 := fun y hy hyk =>
        ((H3.out y hy hyk (fun z hz e => places_inj HPL.out hy hz e)).turn_at C1.out (by decide) hT).mono (by have := HWW.out; omega)
      have HOV := Lib.hid hov
      clear hov hmet3 hmb1 hT y0 y1 y2 y3 f0 f1 f2 f3
      obtain ⟨y0, y1, y2, y3⟩ := cells4 d1
      have f0 := free_at d1 (i := 0)
      have f1 := free_at d1 (i := 1)
      have f2 := free_at d1 (i := 2)
      have f3 := free_at d1 (i := 3)
      go_wp2
      refine post_fill4 d1 fun W4 c4 hT4 hS4 => ?_
      obtain ⟨y0, y1, y2, y3⟩ := cells4 c4
      refine bodyPost_ret (v := .tuple #[.agg #[.int .i64 kd, .int .i64 tg, .slice q3 l3 c3, .string s3], .map (some mb), .int .i64 k, .bool gl.isSome]) (by simp [results, Tryz.results45, go_sem, y0, y1, y2, y3]) rfl ?_
      refine ⟨kd, tg, q3, l3, c3, s3, some mb, k, rfl, Turn.after HX3.out hT4 (by simp), fun hn => ?_, fun y hy => ?_⟩
      · refine H4.out fun y hy e => ?_
        rw [HG2.out] at hn
        have := List.find?_eq_none.1 hn y hy
        simp at this; omega
      · rw [HG2.out] at hy
        have hyL := List.mem_of_find?_eq_some hy
        have hyk : ((first + y.1 : Nat) : Int) = k := by simpa using List.find?_some hy
        refine ⟨(HOV.out y hyL hyk).turn_at d1 (by decide) hT4, hyk.symm, L, mb, rfl, rfl, ?_⟩
        obtain ⟨n4, f4, _, hm4, _⟩ := HMET3.out.map
        refine HMET3.out.stays (hT4.block mb HMET3.out.lt (fun e => ?_)) (fun v o ho => ho.turn_at d1 (by decide) hT4)
        obtain ⟨D, _, ⟨es, clock, h0, _⟩, _⟩ := hm4
        rw [List.mem_singleton.1 e, d1] at h0
        cases h0
end Go.Proofs.YtinakendlpomnaaGreat
/- A heap's functions (the program's): Get, Set. -/
namespace Go.Proofs.YtinakendlpomnaaGreat
open Go.RowKit Go.Maps Arena
set_option maxHeartbeats 4000000
set_option maxRecDepth 100000
theorem get_is {w : World} {p g bm n : Nat} {ws : List Int} {R : List (Nat × Nat)} (H : ArenaAt w p g bm n ws R) (h : Hp) (hw : (Lit.int .i64 h.base).wf = true) (hW : ∀ x ∈ ws, W64 x) {x : Int} (hx : W64 x) :
    Calls Tryz.prog 19 #[.pointer (some ⟨p, 0, none⟩), .agg #[.int .i64 h.base, .int .i64 h.half, .int .i64 h.space, .int .i64 h.top], .int .u64 x] w fun e w' =>
      ∃ v, e = .returned (.tuple #[v, .bool (getH ws R h x).isSome]) ∧ Ext w w' ∧ (getH ws R h x = none → v = zeroOV) ∧ ∀ y, getH ws R h x = some y → ObV w' w.heap.size v y.2 := by
  have HF := Lib.hid (fun W (e : Ext w W) => find_is (H.ext e) h hw hW hx)
  clear H hw hW hx
  go_enter Tryz.func19, Tryz.ntmps19
  go_upto_region 1 with fail
  refine wp_alloc2 fun W hE hS b0 b1 => ?_
  obtain ⟨x0, x1, x2, x3⟩ := cells4 b0
  go_wp2_with fail
  refine (HF.out W hE).mono ?_
  intro e w1 h1
  obtain ⟨kd, tg, q, l, c, s, mv, k, rfl, hx1, hno, hyes⟩ := h1
  have c1 := (Below.block hx1 (w.heap.size + 1) (by omega)).trans b1
  have HX := Lib.hid (hE.trans hx1)
  have HNO := Lib.hid hno; have HYES := Lib.hid hyes
  have hsz : w.heap.size ≤ W.heap.size := by omega
  generalize hbb : (getH ws R h x).isSome = bb
  have HBB := Lib.hid hbb
  clear hbb
  clear hx1 hE hS b0 b1 x0 x1 x2 x3 hno hyes
  go_upto_region 2 with fail
  refine wp_alloc1 fun W2 hE2 hS2 d2 => ?_
  have d1 := (Below.block hE2 (w.heap.size + 1) (Array.getElem?_eq_some_iff.1 c1).1).trans c1
  have HE2 := Lib.hid hE2
  clear hE2 hS2 c1
  obtain ⟨y0, y1, y2, y3⟩ := cells4 d1
  have f0 := free_at d1 (i := 0)
  have f1 := free_at d1 (i := 1)
  have f2 := free_at d1 (i := 2)
  have f3 := free_at d1 (i := 3)
  obtain ⟨z0, z1, z2, z3⟩ := cells4 d2
  go_wp2
  refine post_fill4 d1 fun W4 c4 hT4 hS4 => ?_
  obtain ⟨y0, y1, y2, y3⟩ := cells4 c4
  refine bodyPost_ret (v := .tuple #[.agg #[.int .i64 kd, .int .i64 tg, .slice q l c, .string s], .bool bb]) (by simp [results, Tryz.results19, go_sem, y0, y1, y2, y3]) rfl ?_
  refine ⟨_, by rw [HBB.out], Turn.after (HX.out.trans HE2.out) hT4 (by simp), HNO.out, fun y hy => ?_⟩
  exact (((HYES.out y hy).1.ext HE2.out).turn_at d1 (by decide) hT4).mono hsz
theorem objs_fit {S : List Int} {L : List (Nat × Ob)} (h : objs S 0 = some L) : ∀ x ∈ L, x.1 + wordsO x.2 ≤ S.length := by
  have := objs_ind (P := fun S a L => ∀ x ∈ L, x.1 + wordsO x.2 ≤ a + S.length) (fun a x hx => by cases hx)
    (fun S a o L hS hr ih x hx => by
      have hw := (readS_words hr).1
      rcases List.mem_cons.1 hx with rfl | hx
      · dsimp only; omega
      · have := ih x hx
        rw [List.length_drop] at this
        omega) S.length (Nat.le_refl _) h
  simpa using this
theorem fields_words {o : Ob} (h : mayO o = true) (hne : o.fields ≠ []) : wordsO o = 1 + o.fields.length := by
  unfold mayO at h
  unfold wordsO bodyK
  have : o.kind ≠ 2 := by
    intro e
    rcases mayK_cases h with ⟨h1, _⟩ | ⟨_, _, h2, _⟩ | ⟨h1, _⟩ | ⟨h1, _⟩
    · omega
    · exact hne (List.eq_nil_of_length_eq_zero h2)
    · omega
    · omega
  rw [if_neg this]
/-- where a field is set: its place in the region -/
def setAt (ws : List Int) (R : List (Nat × Nat)) (h : Hp) (x i v : Int) : Option Int := match allH ws R h with
  | none => none
  | some L => match getL (firstN h) L x with
    | none => none
    | some y => if 0 ≤ i ∧ i < y.2.fields.length ∧ fieldOK (L.map (·.1)) (firstN h) v = true then some ((firstN h : Int) + y.1 + 1 + i) else none
theorem setAt_within {n : Nat} {ws : List Int} {R : List (Nat × Nat)} {h : Hp} {x i v k : Int} (hg : Arena.Good n R) (hl : ws.length = n) (hs : setAt ws R h x i v = some k) : within R h.base k = true := by
  unfold setAt at hs
  cases ha : allH ws R h with
  | none => rw [ha] at hs; cases hs
  | some L =>
    rw [ha] at hs
    simp only at hs
    cases hy : getL (firstN h) L x with
    | none => rw [hy] at hs; cases hs
    | some y =>
      rw [hy] at hs
      simp only at hs
      split at hs
      · rename_i hc
        obtain ⟨h0, h1, _⟩ := hc
        obtain rfl := Option.some.inj hs
        obtain ⟨ht, hS⟩ := allH_there ha
        obtain ⟨ho, _⟩ := allS_some hS
        have hyL := (getL_some hy).1
        have hfit := objs_fit ho y hyL
        have hmay := (objs_fields ho y hyL).1
        have hne : y.2.fields ≠ [] := by intro e; rw [e] at h1; simp at h1; omega
        rw [fields_words hmay hne, semi_len hg hl ht] at hfit
        obtain ⟨hok, h2⟩ := thereB_ok ht
        have hf := firstN_is hok
        obtain ⟨_, _, _, _, a5, a6⟩ := hok
        unfold within
        rw [decide_eq_true]
        exact ⟨by omega, by omega⟩
      · cases hs
def wsOf (ws : List Int) (R : List (Nat × Nat)) (ba : Int) (k : Option Int) (v : Int) : List Int := match k with | none => ws | some k => setWs ws R ba k v
end Go.Proofs.YtinakendlpomnaaGreat
/- A heap's functions (the program's): Put. -/
namespace Go.Proofs.YtinakendlpomnaaGreat
open Go.RowKit Go.Maps Arena
set_option maxHeartbeats 4000000
set_option maxRecDepth 100000
/-- words set one behind the other -/
def setRun (ws : List Int) (R : List (Nat × Nat)) (ba : Int) : Nat → List Int → List Int
  | _, [] => ws
  | k, v :: l => setRun (setWs ws R ba k v) R ba (k + 1) l
theorem setRun_snoc (R : List (Nat × Nat)) (ba : Int) (v : Int) : ∀ (l : List Int) (ws : List Int) (k : Nat), setRun ws R ba k (l ++ [v]) = setWs (setRun ws R ba k l) R ba ((k + l.length : Nat) : Int) v := by
  intro l
  induction l with
  | nil => intro ws k; rfl
  | cons x l ih =>
    intro ws k
    rw [List.cons_append, setRun, ih, setRun, List.length_cons]
    congr 1
    omega
theorem setWs_mem {ws : List Int} {R : List (Nat × Nat)} {ba k v x : Int} (h : x ∈ setWs ws R ba k v) : x ∈ ws ∨ x = v := by
  unfold setWs at h
  split at h
  · exact (List.mem_or_eq_of_mem_set h)
  · exact .inl h
theorem setRun_mem {R : List (Nat × Nat)} {ba : Int} {x : Int} : ∀ {l ws : List Int} {k : Nat}, x ∈ setRun ws R ba k l → x ∈ ws ∨ x ∈ l := by
  intro l
  induction l with
  | nil => intro ws k h; exact .inl h
  | cons v l ih =>
    intro ws k h
    rcases ih h with h | h
    · rcases setWs_mem h with h | rfl
      · exact .inl h
      · exact .inr (.head _)
    · exact .inr (.tail _ h)
theorem setWs_len (ws : List Int) (R : List (Nat × Nat)) (ba k v : Int) : (setWs ws R ba k v).length = ws.length := by
  unfold setWs; split <;> simp
theorem setRun_len (R : List (Nat × Nat)) (ba : Int) : ∀ (l ws : List Int) (k : Nat), (setRun ws R ba k l).length = ws.length := by
  intro l
  induction l with
  | nil => intro ws k; rfl
  | cons v l ih => intro ws k; rw [setRun, ih, setWs_len]
def putB (ws : List Int) (R : List (Nat × Nat)) (h : Hp) (o : Ob) : Bool := match allH ws R h with
  | none => false
  | some L => mayO o && decide (h.top + (wordsO o : Nat) ≤ h.half) && o.fields.all (fieldOK (L.map (·.1)) (firstN h))
def topN (h : Hp) : Nat := firstN h + h.top.toNat
/-- what a put makes of the arena's words -/
def putWs (ws : List Int) (R : List (Nat × Nat)) (h : Hp) (o : Ob) : List Int := setRun ws R h.base (topN h) (layO o)
def hpUp (h : Hp) (o : Ob) : Hp := ⟨h.base, h.half, h.space, h.top + (wordsO o : Nat)⟩
theorem body_row (kd tg : Int) (n c : Nat) (q : Option Addr) (s : ByteArray) (h2 : kd ≠ 2) (w : World) : Calls Tryz.prog 43 #[.agg #[.int .i64 kd, .int .i64 tg, .slice q n c, .string s]] w fun e w' => e = .returned (.slice q n c) ∧ Ext w w' := by
  have k2 : (kd == 2) = false := beq_false_of_ne h2
  go_enter Tryz.func43, Tryz.ntmps43
  go_wp2
  go_ret
  exact ⟨rfl, Ext.alloc _ _⟩
theorem body_text (tg : Int) (n c : Nat) (q : Option Addr) (s : ByteArray) (hs : s.size ≤ 400) (w : World) : Calls Tryz.prog 43 #[.agg #[.int .i64 2, .int .i64 tg, .slice q n c, .string s]] w fun e w' => ∃ v, e = .returned v ∧ OwnP w' w.heap.size 51 v 1 ((pieces s.data.toList).map wordC) ∧ Ext w w' := by
  have HP := Lib.hid (fun W => pieces_is s W hs)
  go_enter Tryz.func43, Tryz.ntmps43
  go_wp2_with fail
  refine at_alloc1 fun W hE hS b0 => ?_
  refine (HP.out _).mono ?_
  rintro e w1 ⟨v, rfl, ho, hx⟩
  have HO := Lib.hid (ho.mono (base' := w.heap.size) (by omega))
  have HX := Lib.hid (hE.trans hx)
  clear ho hx hE hS b0
  go_wp2
  go_ret
  exact ⟨v, rfl, HO.out, HX.out⟩
/-- a fields' slice that stays as it is while the words of an arena are set -/
def RowStay (w : World) (g : Nat) (v : Value) (l : List (List Value)) : Prop := ∀ W, Turn [g] w W → RowsP W v 1 l
theorem body_is (o : Ob) (hm : mayO o = true) (c : Nat) (q : Option Addr) {w : World} {g : Nat} (hgw : g < w.heap.size) (hF : RowStay w g (.slice q o.fields.length c) (o.fields.map wordC)) : Calls Tryz.prog 43 #[.agg #[.int .i64 o.kind, .int .i64 o.tag, .slice q o.fields.length c, .string o.text]] w fun e w' => ∃ q c, e = .returned (.slice q (bodyO o).length c) ∧ RowStay w' g (.slice q (bodyO o).length c) ((bodyO o).map wordC) ∧ Ext w w' := by
  by_cases h2 : o.kind = 2
  · have hb : bodyO o = pieces o.text.data.toList := if_pos h2
    rw [hb, h2]
    refine (body_text o.tag o.fields.length c q o.text ?_ w).mono ?_
    · unfold mayO at hm; exact (mayK_bounds hm).2.2.2.2.2.1
    · rintro e w' ⟨v, rfl, ho, hx⟩
      obtain ⟨q2, c2, hv, _, _⟩ := ho.len
      rw [List.length_map] at hv
      subst hv
      exact ⟨q2, c2, rfl, fun W t => (ho.turn t (fun b hb hm => by have := (ho.own b hb).1; rw [List.mem_singleton.1 hm] at this; omega)).p, hx⟩
  · have hb : bodyO o = o.fields := if_neg h2
    rw [hb]
    refine (body_row o.kind o.tag o.fields.length c q o.text h2 w).mono ?_
    rintro e w' ⟨rfl, hx⟩
    exact ⟨q, c, rfl, fun W t => hF W ((Turn.of_ext hx).trans t), hx⟩
theorem body_len {o : Ob} (_hm : mayO o = true) : 1 + (bodyO o).length = wordsO o := by
  unfold mayO at _hm
  unfold wordsO bodyO bodyK
  by_cases h2 : o.kind = 2
  · rw [if_pos h2, if_pos h2]
    unfold pieces
    rw [List.length_map, List.length_range, Array.length_toList]
    rfl
  · rw [if_neg h2, if_neg h2]
def PutSaid (ws : List Int) (R : List (Nat × Nat)) (p g bm n : Nat) (h : Hp) (o : Ob) (w : World) (e : Ending) (w' : World) : Prop :=
  e = .returned (.tuple #[if putB ws R h o then hpV (hpUp h o) else hpV ⟨0, 0, 0, 0⟩, .int .u64 (if putB ws R h o then ((2 * topN h : Nat) : Int) else 0), .bool (putB ws R h o)]) ∧ ArenaAt w' p g bm n (if putB ws R h o then putWs ws R h o else ws) R ∧ Turn [g] w w'
theorem put_no {ws : List Int} {R : List (Nat × Nat)} {p g bm n : Nat} {h : Hp} {o : Ob} {w : World} {e : Ending} {w' : World} (hb : putB ws R h o = false) (H : ArenaAt w p g bm n ws R) (he : e = .returned (.tuple #[hpV ⟨0, 0, 0, 0⟩, .int .u64 0, .bool false])) (hx : Ext w w') : PutSaid ws R p g bm n h o w e w' := by
  unfold PutSaid
  rw [hb]
  exact ⟨he, H.ext hx, Turn.of_ext hx⟩
theorem owords_is (o : Ob) (c : Nat) (q : Option Addr) (W : World) (h : o.fields.length ≤ 1000) : Calls Tryz.prog 30 #[.agg #[.int .i64 o.kind, .int .i64 o.tag, .slice q o.fields.length c, .string o.text]] W fun e w' => e = .returned (.int .i64 ((if mayO o = true then wordsO o else 0 : Nat) : Int)) ∧ Ext W w' := by
  by_cases hm : mayO o = true
  · rw [if_pos hm]
    exact owords_yes o.kind o.tag o.fields.length c q o.text W (by omega) hm
  · rw [if_neg hm]
    exact owords_no o.kind o.tag o.fields.length c q o.text W (by omega) (by cases e : mayO o with | true => exact absurd e hm | false => exact e)
theorem post_gen {P : Program} {f : Func} {Q : Ending → World → Prop} {x : Exit} {a : Act} {w : World} (F : World → Prop) (hF : F w) (h : ∀ W, F W → bodyPost P f Q x a W) : bodyPost P f Q x a w := h w hF
theorem Turn.sub {bs cs : List Nat} {w w' : World} (h : Turn bs w w') (hs : ∀ b ∈ bs, b ∈ cs ∨ w.heap.size ≤ b) : Turn cs w w' :=
  ⟨h.os, h.tape, h.output, h.size, fun i hi hb => h.block i hi fun hm => by rcases hs i hm with h1 | h1; exact hb h1; omega⟩
theorem top_h (p : Nat) (h : Hp) (hok : hpOK h) (w : World) : Calls Tryz.prog 41 #[.agg #[.pointer (some ⟨p, 0, none⟩), .int .i64 h.base, .int .i64 h.half, .int .i64 h.space, .int .i64 h.top]] w fun e w' => e = .returned (.int .i64 (topN h : Nat)) ∧ Ext w w' := by
  obtain ⟨ba, ha, sp, tp⟩ := h
  have hf := firstN_is hok
  obtain ⟨a1, a2, a3, a4, a5, a6⟩ := hok
  dsimp only at a1 a2 a3 a4 a5 a6 hf ⊢
  obtain ⟨ha, rfl⟩ := Int.eq_ofNat_of_zero_le (show 0 ≤ ha by omega)
  obtain ⟨sp, rfl⟩ := Int.eq_ofNat_of_zero_le a3
  obtain ⟨tp, rfl⟩ := Int.eq_ofNat_of_zero_le a5
  have := top_is (.pointer (some ⟨p, 0, none⟩)) ba ha sp tp (by omega) (by omega) (by omega) w rfl
  rw [show topN ⟨ba, ha, sp, tp⟩ = sp * ha + tp by unfold topN; have := hf.1; dsimp only; rw [show firstN ⟨ba, ha, sp, tp⟩ = sp * ha by exact_mod_cast this]; omega]
  exact this
theorem put_is {w : World} {p g bm n : Nat} {ws : List Int} {R : List (Nat × Nat)} (H : ArenaAt w p g bm n ws R) (h : Hp) (hw : (Lit.int .i64 h.base).wf = true) (hW : ∀ x ∈ ws, W64 x) (o : Ob) (c : Nat) (q : Option Addr) (hF : RowStay w g (.slice q o.fields.length c) (o.fields.map wordC)) (hF64 : ∀ x ∈ o.fields, W64 x) (hFn : o.fields.length ≤ 1000) :
    Calls Tryz.prog 18 #[.pointer (some ⟨p, 0, none⟩), .agg #[.int .i64 h.base, .int .i64 h.half, .int .i64 h.space, .int .i64 h.top], .agg #[.int .i64 o.kind, .int .i64 o.tag, .slice q o.fields.length c, .string o.text]] w (PutSaid ws R p g bm n h o w) := by
  have HA := Lib.hid (fun W (e : Ext w W) => all_is (H.ext e) h hw hW)
  have HH := Lib.hid H
  obtain ⟨lp, lg, lm⟩ := H.lt
  have HWd := Lib.hid (fun W => owords_is o c q W hFn)
  obtain ⟨nn, hnn⟩ : ∃ nn : Nat, nn = if mayO o = true then wordsO o else 0 := ⟨_, rfl⟩
  rw [← hnn] at HWd
  cases hall : allH ws R h with
  | none =>
    have hb : putB ws R h o = false := by unfold putB; rw [hall]
    rw [hall] at HA
    have HB := Lib.hid hb
    clear hb hnn hall H hw hW hF hF64 lp lg lm
    go_enter Tryz.func18, Tryz.ntmps18
    go_wp2_with fail
    refine at_alloc4 fun W hE hS b0 b1 b2 b3 => ?_
    refine (HA.out W hE).mono ?_
    intro e w1 h1
    obtain ⟨rfl, hx1⟩ := h1
    have c1 := (Below.block hx1 (w.heap.size + 1) (by omega)).trans b1
    have c2 := (Below.block hx1 (w.heap.size + 1 + 1) (by omega)).trans b2
    have HX := Lib.hid (hE.trans hx1)
    have hl1 : w.heap.size + 1 + 1 < w1.heap.size := (Array.getElem?_eq_some_iff.1 c2).1
    clear hx1 hE hS b0 b1 b2 b3
    obtain ⟨x0, x1, x2, x3⟩ := cells4 c1
    go_wp2_with fail
    refine (HWd.out _).mono ?_
    rintro e w2 ⟨rfl, hx2⟩
    have d2 := (Below.block hx2 (w.heap.size + 1 + 1) (by omega)).trans c2
    have HX2 := Lib.hid (HX.out.trans hx2)
    clear hx2 c1 c2 x0 x1 x2 x3
    obtain ⟨y0, y1, y2, y3⟩ := cells4 d2
    have f0 := free_at d2 (i := 0)
    have f1 := free_at d2 (i := 1)
    have f2 := free_at d2 (i := 2)
    have f3 := free_at d2 (i := 3)
    go_wp2
    refine post_fill4 d2 fun W4 c4 hT4 hS4 => ?_
    obtain ⟨y0, y1, y2, y3⟩ := cells4 c4
    refine bodyPost_ret (v := .tuple #[hpV ⟨0, 0, 0, 0⟩, .int .u64 0, .bool false]) (by simp [results, Tryz.results18, go_sem, y0, y1, y2, y3, hpV]) rfl ?_
    exact put_no HB.out HH.out rfl (Turn.after HX2.out hT4 (by intro b hb; rw [List.mem_singleton.1 hb]; omega))
  | some L =>
    rw [hall] at HA
    obtain ⟨hth, hS⟩ := allH_there hall
    obtain ⟨hobj, hfo⟩ := allS_some hS
    obtain ⟨hok, hlen2⟩ := thereB_ok hth
    have hfi := firstN_is hok
    obtain ⟨a1, a2, a3, a4, a5, a6⟩ := hok
    by_cases hn : nn = 0 ∨ h.half < h.top + nn
    · have hb : putB ws R h o = false := by
        unfold putB
        rw [hall]
        simp only
        by_cases hm : mayO o = true
        · rw [if_pos hm] at hnn
          rcases hn with hn | hn
          · have : 1 ≤ wordsO o := by unfold wordsO; omega
            omega
          · rw [decide_eq_false (by omega)]; simp
        · simp [hm]
      have HB := Lib.hid hb
      by_cases hn0 : nn = 0
      · subst hn0
        clear hb hnn hall H hw hW hF hF64 lp lg lm hn hfo hobj hS hth hfi hlen2
        go_enter Tryz.func18, Tryz.ntmps18
        go_wp2_with fail
        refine at_alloc4 fun W hE hS b0 b1 b2 b3 => ?_
        refine (HA.out W hE).mono ?_
        intro e w1 h1
        obtain ⟨mb, ql, cl, rfl, -, -, -, hx1⟩ := h1
        have c1 := (Below.block hx1 (w.heap.size + 1) (by omega)).trans b1
        have c2 := (Below.block hx1 (w.heap.size + 1 + 1) (by omega)).trans b2
        have HX := Lib.hid (hE.trans hx1)
        have hl1 : w.heap.size + 1 + 1 < w1.heap.size := (Array.getElem?_eq_some_iff.1 c2).1
        clear hx1 hE hS b0 b1 b2 b3
        obtain ⟨x0, x1, x2, x3⟩ := cells4 c1
        go_wp2_with fail
        refine (HWd.out _).mono ?_
        rintro e w2 ⟨rfl, hx2⟩
        have d2 := (Below.block hx2 (w.heap.size + 1 + 1) (by omega)).trans c2
        have HX2 := Lib.hid (HX.out.trans hx2)
        clear hx2 c1 c2 x0 x1 x2 x3
        obtain ⟨y0, y1, y2, y3⟩ := cells4 d2
        have f0 := free_at d2 (i := 0)
        have f1 := free_at d2 (i := 1)
        have f2 := free_at d2 (i := 2)
        have f3 := free_at d2 (i := 3)
        go_wp2
        refine post_fill4 d2 fun W4 c4 hT4 hS4 => ?_
        obtain ⟨y0, y1, y2, y3⟩ := cells4 c4
        refine bodyPost_ret (v := .tuple #[hpV ⟨0, 0, 0, 0⟩, .int .u64 0, .bool false]) (by simp [results, Tryz.results18, go_sem, y0, y1, y2, y3, hpV]) rfl ?_
        exact put_no HB.out HH.out rfl (Turn.after HX2.out hT4 (by intro b hb; rw [List.mem_singleton.1 hb]; omega))
      · have i1 : ((nn : Int) == 0) = false := beq_false_of_ne (by omega)
        have i2 : decide (h.half - h.top < (nn : Int)) = true := decide_eq_true (by omega)
        have i3 : (nn : Int) ≤ 1000 := by
          have : nn ≤ 1000 := by
            rw [hnn]
            split
            · rename_i hm; unfold wordsO; unfold mayO at hm; have := (mayK_bounds hm).2.2.2.2.2.2.2; omega
            · omega
          omega
        clear hb hnn hall H hw hW hF hF64 lp lg lm hn hn0 hfo hobj hS hth hfi hlen2
        go_enter Tryz.func18, Tryz.ntmps18
        go_wp2_with fail
        refine at_alloc4 fun W hE hS b0 b1 b2 b3 => ?_
        refine (HA.out W hE).mono ?_
        intro e w1 h1
        obtain ⟨mb, ql, cl, rfl, -, -, -, hx1⟩ := h1
        have c0 := (Below.block hx1 w.heap.size (by omega)).trans b0
        have c1 := (Below.block hx1 (w.heap.size + 1) (by omega)).trans b1
        have c2 := (Below.block hx1 (w.heap.size + 1 + 1) (by omega)).trans b2
        have HX := Lib.hid (hE.trans hx1)
        have hl1 : w.heap.size + 1 + 1 < w1.heap.size := (Array.getElem?_eq_some_iff.1 c2).1
        clear hx1 hE hS b0 b1 b2 b3
        obtain ⟨x0, x1, x2, x3⟩ := cells4 c1
        go_wp2_with fail
        refine (HWd.out _).mono ?_
        rintro e w2 ⟨rfl, hx2⟩
        have d2 := (Below.block hx2 (w.heap.size + 1 + 1) (by omega)).trans c2
        have d0 := (Below.block hx2 w.heap.size (by omega)).trans c0
        have HX2 := Lib.hid (HX.out.trans hx2)
        clear hx2 c0 c1 c2 x0 x1 x2 x3
        obtain ⟨v0, v1, v2, v3⟩ := cells4 d0
        obtain ⟨y0, y1, y2, y3⟩ := cells4 d2
        have f0 := free_at d2 (i := 0)
        have f1 := free_at d2 (i := 1)
        have f2 := free_at d2 (i := 2)
        have f3 := free_at d2 (i := 3)
        go_wp2
        refine post_fill4 d2 fun W4 c4 hT4 hS4 => ?_
        obtain ⟨y0, y1, y2, y3⟩ := cells4 c4
        refine bodyPost_ret (v := .tuple #[hpV ⟨0, 0, 0, 0⟩, .int .u64 0, .bool false]) (by simp [results, Tryz.results18, go_sem, y0, y1, y2, y3, hpV]) rfl ?_
        exact put_no HB.out HH.out rfl (Turn.after HX2.out hT4 (by intro b hb; rw [List.mem_singleton.1 hb]; omega))
    · have hn0 : nn ≠ 0 := fun e => hn (.inl e)
      have hnh : ¬ h.half < h.top + nn := fun e => hn (.inr e)
      have hmo : mayO o = true := by
        cases e : mayO o with
        | true => rfl
        | false => rw [hnn, e] at hn0; simp at hn0
      rw [hmo, if_pos rfl] at hnn
      have i1 : ((nn : Int) == 0) = false := beq_false_of_ne (by omega)
      have i2 : decide (h.half - h.top < (nn : Int)) = false := decide_eq_false (by omega)
      have i3 : (nn : Int) ≤ 1000 := by
        have : nn ≤ 1000 := by rw [hnn]; unfold wordsO; unfold mayO at hmo; have := (mayK_bounds hmo).2.2.2.2.2.2.2; omega
        omega
      have hpb : putB ws R h o = o.fields.all (fieldOK (L.map (·.1)) (firstN h)) := by
        unfold putB
        rw [hall]
        simp only
        rw [hmo, decide_eq_true (by omega)]
        simp
      have HPB := Lib.hid hpb
      have HTOP := Lib.hid (fun W => top_h p h (thereB_ok hth).1 W)
      have HHD := Lib.hid (fun W => head_yes o.kind o.tag o.fields.length c q o.text W (by omega) hmo)
      have HSET := Lib.hid (fun W ws k v (H : ArenaAt W p g bm n ws R) => setA_said (x := h.base) (a := k) (v := v) H hw)
      have HBODY := Lib.hid (fun W (hg : g < W.heap.size) (hF : RowStay W g (.slice q o.fields.length c) (o.fields.map wordC)) => body_is o hmo c q hg hF)
      have HBL := Lib.hid (body_len hmo)
      have htn : topN h ≤ 4000 ∧ 0 ≤ h.top ∧ h.top ≤ 2000 ∧ 8 ≤ h.half ∧ h.half ≤ 2000 := by
        unfold topN; omega
      obtain ⟨t1, t2, t3, t4, t5⟩ := htn
      have HF := Lib.hid hF; have HF64 := Lib.hid hF64; have HNN := Lib.hid hnn
      clear hpb hn hn0 hnh hnn hmo hall H hw hW hF hF64 lp lm hfo hobj hS hth hfi hlen2 a1 a2 a3 a4 a5 a6
      go_enter Tryz.func18, Tryz.ntmps18
      go_wp2_with fail
      refine at_alloc4 fun W hE hS b0 b1 b2 b3 => ?_
      refine (HA.out W hE).mono ?_
      intro e w1 h1
      obtain ⟨mb, ql, cl, rfl, hmet, -, -, hx1⟩ := h1
      have c0 := (Below.block hx1 w.heap.size (by omega)).trans b0
      have c1 := (Below.block hx1 (w.heap.size + 1) (by omega)).trans b1
      have c2 := (Below.block hx1 (w.heap.size + 1 + 1) (by omega)).trans b2
      have c3 := (Below.block hx1 (w.heap.size + 1 + 1 + 1) (by omega)).trans b3
      have HX := Lib.hid (hE.trans hx1)
      have hl1 : w.heap.size + 1 + 1 + 1 < w1.heap.size := (Array.getElem?_eq_some_iff.1 c3).1
      have HM1 := Lib.hid hmet
      generalize W.heap.size = BW at HM1
      clear hx1 hE hS b0 b1 b2 b3 hmet
      obtain ⟨x0, x1, x2, x3⟩ := cells4 c1
      go_wp2_with fail
      refine (HWd.out _).mono ?_
      rintro e w2 ⟨rfl, hx2⟩
      have d0 := (Below.block hx2 w.heap.size (by omega)).trans c0
      have d1 := (Below.block hx2 (w.heap.size + 1) (by omega)).trans c1
      have d2 := (Below.block hx2 (w.heap.size + 1 + 1) (by omega)).trans c2
      have d3 := (Below.block hx2 (w.heap.size + 1 + 1 + 1) (by omega)).trans c3
      have HX2 := Lib.hid (HX.out.trans hx2)
      have HM2 := Lib.hid (HM1.out.ext hx2)
      have hl2 : w.heap.size + 1 + 1 + 1 < w2.heap.size := (Array.getElem?_eq_some_iff.1 d3).1
      clear hx2 c0 c1 c2 c3 x0 x1 x2 x3 hl1
      obtain ⟨x0, x1, x2, x3⟩ := cells4 d1
      obtain ⟨v0, v1, v2, v3⟩ := cells4 d0
      go_wp2_with fail
      go_loopw [51] (fun i wr => ∃ t : Nat, t ≤ o.fields.length ∧ i = .int .i64 t ∧ Hid ((o.fields.take t).all (fieldOK (L.map (·.1)) (firstN h)) = true) ∧ Ext w2 wr) (fun i _ => o.fields.length - (Go.RowKit.intOf i).toNat)
      case atStart => exact ⟨0, Nat.zero_le _, rfl, Lib.hid rfl, Ext.refl _⟩
      case round =>
        obtain ⟨t, ht, rfl, HFA, hxt⟩ := hrel
        have HXT := Lib.hid hxt
        have e0 := (Below.block hxt w.heap.size (by omega)).trans d0
        have e1 := (Below.block hxt (w.heap.size + 1) (by omega)).trans d1
        have e2 := (Below.block hxt (w.heap.size + 1 + 1) (by omega)).trans d2
        have e3 := (Below.block hxt (w.heap.size + 1 + 1 + 1) (by omega)).trans d3
        have hlr : w.heap.size + 1 + 1 + 1 < wr.heap.size := (Array.getElem?_eq_some_iff.1 e3).1
        clear hxt d0 d1 d2 d3 x0 x1 x2 x3 v0 v1 v2 v3
        by_cases htl : t < o.fields.length
        · obtain ⟨y, hy⟩ : ∃ y, o.fields[t]? = some y := ⟨_, List.getElem?_eq_getElem htl⟩
          have HY := Lib.hid hy
          have hPT := points_is (HM2.out.ext HXT.out) (HF64.out y (List.mem_of_getElem? hy))
          obtain ⟨q2, c2, hv2, _, _, hcell⟩ := (HF.out wr (Turn.of_ext (HX2.out.trans HXT.out))).at
          obtain ⟨fb, fo, hqe, hyc⟩ := hcell t (wordC y) (by rw [List.getElem?_map, hy]; rfl)
          obtain ⟨rfl, -, rfl⟩ := Value.slice.inj hv2
          subst hqe
          have hyc0 := hyc 0 _ rfl
          rw [Nat.mul_one, Nat.add_zero] at hyc0
          generalize hff : fieldOK (L.map (·.1)) (firstN h) y = ff at hPT
          have HFF := Lib.hid hff
          have HPT := Lib.hid hPT
          clear hff hPT hy hv2 hcell hyc
          have j3 : (t : Int) < (o.fields.length : Int) := by omega
          go_wp2_with fail
          refine HPT.out.mono ?_
          rintro e w7 ⟨rfl, hx7⟩
          have HX7 := Lib.hid (HXT.out.trans hx7)
          have d2 := (Below.block hx7 (w.heap.size + 1 + 1) (by omega)).trans e2
          clear hx7 e0 e1 e2 e3
          cases ff
          · have hno : putB ws R h o = false := by
              rw [HPB.out]
              refine Bool.eq_false_iff.2 fun h2 => ?_
              have h3 := List.all_eq_true.1 h2 y (List.mem_of_getElem? HY.out)
              rw [HFF.out] at h3
              cases h3
            have HNO := Lib.hid hno
            clear hno
            obtain ⟨y0, y1, y2, y3⟩ := cells4 d2
            have f0 := free_at d2 (i := 0)
            have f1 := free_at d2 (i := 1)
            have f2 := free_at d2 (i := 2)
            have f3 := free_at d2 (i := 3)
            go_wp2
            refine post_fill4 d2 fun W4 c4 hT4 hS4 => ?_
            obtain ⟨y0, y1, y2, y3⟩ := cells4 c4
            refine bodyPost_ret (v := .tuple #[hpV ⟨0, 0, 0, 0⟩, .int .u64 0, .bool false]) (by simp [results, Tryz.results18, go_sem, y0, y1, y2, y3, hpV]) rfl ?_
            exact put_no HNO.out HH.out rfl (Turn.after (HX2.out.trans HX7.out) hT4 (by intro b hb; rw [List.mem_singleton.1 hb]; omega))
          · have hst : (o.fields.take (t + 1)).all (fieldOK (L.map (·.1)) (firstN h)) = true := by
              obtain ⟨h1, h2⟩ := List.getElem?_eq_some_iff.1 HY.out
              rw [List.take_succ_eq_append_getElem h1, List.all_append, HFA.out, h2]
              simp [HFF.out]
            have HST := Lib.hid hst
            clear hst
            go_wp2
            exact ⟨⟨t + 1, by omega, by go_num, HST.out, HX7.out⟩, by simp [Go.RowKit.intOf]; omega⟩
        · obtain rfl : t = o.fields.length := by omega
          have hyes : putB ws R h o = true := by
            rw [HPB.out]
            have := HFA.out
            rw [List.take_length] at this
            exact this
          have HYES := Lib.hid hyes
          clear hyes HFA HM2 HM1
          have j3 : ¬ (o.fields.length : Int) < (o.fields.length : Int) := by omega
          obtain ⟨x0, x1, x2, x3, x4⟩ := cells5 e3
          have HXR := Lib.hid (HX2.out.trans HXT.out)
          go_wp2_with fail
          refine (HTOP.out _).mono ?_
          rintro e w4 ⟨rfl, hx4⟩
          have d0 := (Below.block hx4 w.heap.size (by omega)).trans e0
          have d1 := (Below.block hx4 (w.heap.size + 1) (by omega)).trans e1
          have d2 := (Below.block hx4 (w.heap.size + 1 + 1) (by omega)).trans e2
          have HX4 := Lib.hid (HXR.out.trans hx4)
          have hl4 : w.heap.size + 1 + 1 < w4.heap.size := (Array.getElem?_eq_some_iff.1 d2).1
          clear hx4 e0 e1 e2 e3 x0 x1 x2 x3 x4 hlr HXR HXT
          generalize htp : topN h = tp at *
          have HTP := Lib.hid htp
          clear htp
          obtain ⟨x0, x1, x2, x3⟩ := cells4 d1
          go_wp2_with fail
          refine (HHD.out _).mono ?_
          rintro e w5 ⟨rfl, hx5⟩
          have e0 := (Below.block hx5 w.heap.size (by omega)).trans d0
          have e1 := (Below.block hx5 (w.heap.size + 1) (by omega)).trans d1
          have e2 := (Below.block hx5 (w.heap.size + 1 + 1) (by omega)).trans d2
          have HX5 := Lib.hid (HX4.out.trans hx5)
          have hl5 : w.heap.size + 1 + 1 < w5.heap.size := (Array.getElem?_eq_some_iff.1 e2).1
          clear hx5 d0 d1 d2 x0 x1 x2 x3 hl4
          obtain ⟨v0, v1, v2, v3⟩ := cells4 e0
          go_wp2_with fail
          refine (HSET.out w5 ws tp _ (HH.out.ext HX5.out)).mono ?_
          rintro e w6 ⟨rfl, hA6, hT6⟩
          have hgw : g < w.heap.size := lg
          have d0 := (hT6.block w.heap.size (by omega) (by simp; omega)).trans e0
          have d1 := (hT6.block (w.heap.size + 1) (by omega) (by simp; omega)).trans e1
          have d2 := (hT6.block (w.heap.size + 1 + 1) (by omega) (by simp; omega)).trans e2
          have HT6 := Lib.hid ((Turn.of_ext HX5.out).trans hT6)
          have HA6 := Lib.hid hA6
          have hl6 : w.heap.size + 1 + 1 < w6.heap.size := (Array.getElem?_eq_some_iff.1 d2).1
          clear hT6 hA6 e0 e1 e2 v0 v1 v2 v3 hl5 HX5
          obtain ⟨x0, x1, x2, x3⟩ := cells4 d1
          go_wp2_with fail
          refine (HBODY.out w6 (by omega) (fun W t => HF.out W (HT6.out.trans t))).mono ?_
          rintro e w7 ⟨qb, cb, rfl, hrs, hx7⟩
          have e0 := (Below.block hx7 w.heap.size (by omega)).trans d0
          have e2 := (Below.block hx7 (w.heap.size + 1 + 1) (by omega)).trans d2
          have HT7 := Lib.hid (HT6.out.trans (Turn.of_ext hx7))
          have HA7 := Lib.hid (HA6.out.ext hx7)
          have HRS := Lib.hid hrs
          have hl7 : w.heap.size + 1 + 1 < w7.heap.size := (Array.getElem?_eq_some_iff.1 e2).1
          clear hx7 d0 d1 d2 x0 x1 x2 x3 hl6 hrs
          obtain ⟨B, hB⟩ : ∃ B, B = bodyO o := ⟨_, rfl⟩
          have hbl := HBL.out
          rw [← hB] at HRS hbl
          have hbn : B.length ≤ 1000 := by have := HNN.out; omega
          have HB2 := Lib.hid hB
          have HBL2 := Lib.hid hbl
          rw [← hB]
          clear hB hbl HBL
          go_wp2_with fail
          go_loopw [77] (fun i wr => ∃ k : Nat, k ≤ B.length ∧ i = .int .i64 k ∧ ArenaAt wr p g bm n (setRun ws R h.base tp (headO o :: B.take k)) R ∧ Turn [g] w7 wr) (fun i _ => B.length - (Go.RowKit.intOf i).toNat)
          case atStart => exact ⟨0, Nat.zero_le _, rfl, HA7.out, Turn.refl _ _⟩
          case round =>
            obtain ⟨k, hk, rfl, hA, hT⟩ := hrel
            have HA8 := Lib.hid hA
            have HT8 := Lib.hid hT
            have d0 := (hT.block w.heap.size (by omega) (by simp; omega)).trans e0
            have d2 := (hT.block (w.heap.size + 1 + 1) (by omega) (by simp; omega)).trans e2
            clear hA hT e0 e2
            obtain ⟨v0, v1, v2, v3⟩ := cells4 d0
            by_cases hkl : k < B.length
            · obtain ⟨y, hy⟩ : ∃ y, B[k]? = some y := ⟨_, List.getElem?_eq_getElem hkl⟩
              obtain ⟨q2, c2, hv2, _, _, hcell⟩ := (HRS.out wr HT8.out).at
              obtain ⟨fb, fo, hqe, hyc⟩ := hcell k (wordC y) (by rw [List.getElem?_map, hy]; rfl)
              rw [List.length_map] at hv2
              obtain ⟨rfl, -, rfl⟩ := Value.slice.inj hv2
              subst hqe
              have hyc0 := hyc 0 _ rfl
              rw [Nat.mul_one, Nat.add_zero] at hyc0
              have HY := Lib.hid hy
              clear hy hv2 hcell hyc
              have j4 : (k : Int) < (B.length : Int) := by omega
              go_wp2_with fail
              refine (HSET.out wr _ ((tp : Int) + 1 + (k : Int)) y HA8.out).mono ?_
              rintro e w9 ⟨rfl, hA9, hT9⟩
              have hA9' : ArenaAt w9 p g bm n (setRun ws R h.base tp (headO o :: B.take (k + 1))) R := by
                obtain ⟨h1, h2⟩ := List.getElem?_eq_some_iff.1 HY.out
                rw [List.take_succ_eq_append_getElem h1, h2, ← List.cons_append, setRun_snoc, List.length_cons, List.length_take]
                rw [show ((tp + (min k B.length + 1) : Nat) : Int) = (tp : Int) + 1 + (k : Int) by omega]
                exact hA9
              have HA9 := Lib.hid hA9'
              have HT9 := Lib.hid (HT8.out.trans hT9)
              clear hA9 hA9' hT9
              go_wp2
              exact ⟨⟨k + 1, by omega, by go_num, HA9.out, HT9.out⟩, by simp [Go.RowKit.intOf]; omega⟩
            · obtain rfl : k = B.length := by omega
              have j4 : ¬ (B.length : Int) < (B.length : Int) := by omega
              have hA := HA8.out
              rw [List.take_length] at hA
              have HA9 := Lib.hid hA
              clear hA HA8
              have f3 := free_at d0 (i := 3)
              go_upto_region 21 with fail
              refine wp_fill1 d0 fun W9 hb9 hT9 hS9 => ?_
              have g0 : W9.heap[w.heap.size]? = some (.cells #[.int .i64 h.base, .int .i64 h.half, .int .i64 h.space, .int .i64 (h.top + (nn : Int))] 24 (0, 0)) := hb9
              have g2 := (hT9.block (w.heap.size + 1 + 1) (Array.getElem?_eq_some_iff.1 d2).1 (by simp; omega)).trans d2
              have hpl := HH.out.lt.1
              have hbl := HH.out.lt.2.2
              have HA10 := Lib.hid (HA9.out.turn hT9 (by simp; omega) (by simp; omega) (by simp; omega))
              have hTg : Turn [g, w.heap.size] w W9 := (HT7.out.mono (by simp)).trans ((HT8.out.mono (by simp)).trans (hT9.mono (by simp)))
              have HTG := Lib.hid hTg
              clear hTg hT9 hb9 hS9 d0 d2 v0 v1 v2 v3 f3 hpl hbl
              obtain ⟨v0, v1, v2, v3⟩ := cells4 g0
              obtain ⟨y0, y1, y2, y3⟩ := cells4 g2
              have f0 := free_at g2 (i := 0)
              have f1 := free_at g2 (i := 1)
              have f2 := free_at g2 (i := 2)
              have f3 := free_at g2 (i := 3)
              refine wp_region_noPanic ?_
              refine wp_region_last 5 (S := (fun w' => w'.cell? ⟨w.heap.size, 0, none⟩ = some (.int .i64 h.base) ∧ w'.cell? ⟨w.heap.size, 1, none⟩ = some (.int .i64 h.half) ∧ w'.cell? ⟨w.heap.size, 2, none⟩ = some (.int .i64 h.space) ∧ w'.cell? ⟨w.heap.size, 3, none⟩ = some (.int .i64 (h.top + (nn : Int))))) (by kernel_rfl) (by kernel_rfl) _ rfl ?_ (fun hHeld => ?_)
              · (first | exact ⟨(Ext.drew _).cell v0, (Ext.drew _).cell v1, (Ext.drew _).cell v2, (Ext.drew _).cell v3⟩ | (refine ⟨?_, ?_, ?_, ?_⟩ <;> go_simp))
              simp only [List.take_succ_cons, List.take_zero]
              refine wpAnyH_take (i := 0) (v := ?v1) rfl (by kernel_rfl) (by kernel_rfl) (by kernel_rfl) (fun _ _ _ h => h) (Or.inl ⟨by rfl, ?y1⟩) (by assumption) ?r1
              case y1 => intro w hSw; (try dsimp only at hSw); go_simp; (try with_reducible rfl)
              (try simp only [Act.put, List.setIfInBounds_toArray, List.set_cons_zero, List.set_cons_succ, List.getElem_toArray, List.getElem_cons_zero, List.getElem_cons_succ])
              refine wpAnyH_take (i := 1) (v := ?v2) rfl (by kernel_rfl) (by kernel_rfl) (by kernel_rfl) (fun _ _ _ h => h) (Or.inl ⟨by rfl, ?y2⟩) (by assumption) ?r2
              case y2 => intro w hSw; (try dsimp only at hSw); go_simp; (try with_reducible rfl)
              (try simp only [Act.put, List.setIfInBounds_toArray, List.set_cons_zero, List.set_cons_succ, List.getElem_toArray, List.getElem_cons_zero, List.getElem_cons_succ])
              refine wpAnyH_ready (rs := [2]) (by kernel_rfl) (by simp) ?_
              refine AllReadyH.cons rfl (fun K hK => ?_) AllReadyH.nil
              go_simp
              refine (place_is (n := tp) (by omega) _).mono ?_
              rintro e w' ⟨rfl, rfl⟩
              refine hK.out _ _ ?s3 (fun hHeld => ?k3)
              case s3 => ((try dsimp only); (first | exact ⟨(Ext.drew _).cell v0, (Ext.drew _).cell v1, (Ext.drew _).cell v2, (Ext.drew _).cell v3⟩ | (refine ⟨?_, ?_, ?_, ?_⟩ <;> go_simp)))
              clear hK K
              (try simp only [Act.put, List.setIfInBounds_toArray, List.set_cons_zero, List.set_cons_succ, List.getElem_toArray, List.getElem_cons_zero, List.getElem_cons_succ])
              refine wpAnyH_ready (rs := [3]) (by kernel_rfl) (by simp) ?_
              refine AllReadyH.cons rfl (fun K hK => ?_) AllReadyH.nil
              go_simp
              refine hK.out _ _ ?s4 (fun hHeld => ?k4)
              case s4 => ((try dsimp only); (first | exact ⟨(Ext.drew _).cell v0, (Ext.drew _).cell v1, (Ext.drew _).cell v2, (Ext.drew _).cell v3⟩ | (refine ⟨?_, ?_, ?_, ?_⟩ <;> go_simp)))
              clear hK K
              (try simp only [Act.put, List.setIfInBounds_toArray, List.set_cons_zero, List.set_cons_succ, List.getElem_toArray, List.getElem_cons_zero, List.getElem_cons_succ])
              refine wpAnyH_take (i := 4) (v := ?v5) rfl (by kernel_rfl) (by kernel_rfl) (by kernel_rfl) (fun _ _ _ h => h) (Or.inl ⟨by rfl, ?y5⟩) (by assumption) ?r5
              case y5 => intro w hSw; (try dsimp only at hSw); go_simp; (try with_reducible rfl)
              (try simp only [Act.put, List.setIfInBounds_toArray, List.set_cons_zero, List.set_cons_succ, List.getElem_toArray, List.getElem_cons_zero, List.getElem_cons_succ])
              refine wpAnyH_done (by kernel_rfl) ?_ _
              show wpList _ _ _ _ _ _
              go_wp2
              refine NoPanic.normal ?_
              go_wp2
              have hf := fill4 (w := W9) g2 (.int .i64 h.base) (.int .i64 h.half) (.int .i64 h.space) (.int .i64 (h.top + (nn : Int)))
              refine post_gen (fun W => W.heap[w.heap.size + 1 + 1]? = some (.cells #[.int .i64 h.base, .int .i64 h.half, .int .i64 h.space, .int .i64 (h.top + (nn : Int))] 24 (0, 0)) ∧ Turn [w.heap.size + 1 + 1] W9 W) ⟨hf.1, hf.2.1.trans (Turn.of_ext (Ext.drew _))⟩ fun W10 hF10 => ?_
              obtain ⟨k2, hT10⟩ := hF10
              have HK2 := Lib.hid hT10
              clear hf hT10 y0 y1 y2 y3
              obtain ⟨y0, y1, y2, y3⟩ := cells4 k2
              refine bodyPost_ret (v := .tuple #[hpV ⟨h.base, h.half, h.space, h.top + (nn : Int)⟩, .int .u64 (2 * (tp : Int)), .bool true]) (by simp [results, Tryz.results18, go_sem, y0, y1, y2, y3, hpV]) rfl ?_
              unfold PutSaid
              rw [HYES.out]
              simp only [if_true]
              have hl := HH.out.lt
              refine ⟨?_, ?_, ?_⟩
              · rw [HTP.out]
                unfold hpUp
                rw [← HNN.out]
                rfl
              · unfold putWs layO
                rw [HTP.out, ← HB2.out]
                exact HA10.out.turn HK2.out (by simp; omega) (by simp; omega) (by simp; omega)
              · refine Turn.sub (bs := [g, w.heap.size, w.heap.size + 1 + 1]) ((HTG.out.mono (by simp)).trans (HK2.out.mono (by simp))) ?_
                intro b hb
                simp at hb
                rcases hb with rfl | rfl | rfl
                · exact .inl (.head _)
                · exact .inr (Nat.le_refl _)
                · exact .inr (by omega)
end Go.Proofs.YtinakendlpomnaaGreat
/- A text's words and bytes, in plain Lean: words are a text's just if the bytes behind its last one are 0. -/
namespace Go.Proofs.YtinakendlpomnaaGreat
theorem pk_append : ∀ (A B : List UInt8), pk (A ++ B) = pk A + 256 ^ A.length * pk B := by
  intro A
  induction A with
  | nil => intro B; simp [pk]
  | cons a A ih =>
    intro B
    rw [List.cons_append, pk, pk, ih, List.length_cons, Nat.pow_succ, Nat.mul_add]
    rw [show 256 * (256 ^ A.length * pk B) = 256 ^ A.length * 256 * pk B by rw [← Nat.mul_assoc, Nat.mul_comm 256]]
    omega
theorem pk_zero : ∀ (A : List UInt8), pk A = 0 ↔ A.all (· == 0) = true := by
  intro A
  induction A with
  | nil => simp [pk]
  | cons a A ih =>
    rw [pk, List.all_cons, Bool.and_eq_true, ← ih]
    constructor
    · intro h
      have h1 : a.toNat = 0 := by omega
      exact ⟨by rw [show a = 0 from UInt8.toNat_inj.1 h1]; rfl, by omega⟩
    · rintro ⟨h1, h2⟩
      have : a = 0 := by simpa using h1
      rw [this, h2]; rfl
theorem pk_bytes8 {x : Int} (h0 : 0 ≤ x) (h1 : x < 18446744073709551616) : (pk (bytes8 x) : Int) = x := by
  obtain ⟨n, rfl⟩ := Int.eq_ofNat_of_zero_le h0
  have hn : n < 18446744073709551616 := by omega
  unfold bytes8
  simp only [List.range_succ, List.range_zero, List.nil_append, List.map_cons, List.map_nil, List.cons_append, pk, Int.toNat_natCast]
  simp only [UInt8.toNat_ofNat']
  omega
theorem pieces_nil : pieces [] = [] := rfl
theorem pieces_short {A : List UInt8} (h1 : 1 ≤ A.length) (h8 : A.length ≤ 8) : pieces A = [(pk A : Int)] := by
  unfold pieces
  rw [show (A.length + 7) / 8 = 1 by omega]
  simp [pieceN, List.take_of_length_le h8]
theorem pieces_cons {A l : List UInt8} (h : A.length = 8) : pieces (A ++ l) = (pk A : Int) :: pieces l := by
  unfold pieces
  rw [List.length_append, show (A.length + l.length + 7) / 8 = (l.length + 7) / 8 + 1 by omega, List.range_succ_eq_map, List.map_cons, List.map_map]
  congr 1
  · unfold pieceN
    rw [Nat.mul_zero, List.drop_zero, List.take_append_of_le_length (by omega), List.take_of_length_le (by omega)]
  · refine List.map_congr_left fun j _ => ?_
    unfold pieceN
    simp only [Function.comp_apply, Nat.succ_eq_add_one]
    rw [show 8 * (j + 1) = A.length + 8 * j by omega, List.drop_append, List.drop_of_length_le (by omega), List.nil_append, Nat.add_sub_cancel_left]
theorem bytes8_length (x : Int) : (bytes8 x).length = 8 := by simp [bytes8]
theorem bytesOf_cons (x : Int) (W : List Int) : bytesOf (x :: W) = bytes8 x ++ bytesOf W := by simp [bytesOf]
theorem pieces_back : ∀ (W : List Int) (sz : Nat), (∀ x ∈ W, 0 ≤ x ∧ x < 18446744073709551616) → (sz + 7) / 8 = W.length → (pieces ((bytesOf W).take sz) = W ↔ ((bytesOf W).drop sz).all (· == 0) = true) := by
  intro W
  induction W with
  | nil =>
    intro sz _ hs
    have : sz = 0 := by simp at hs; omega
    subst this
    simp [bytesOf, pieces_nil]
  | cons x W ih =>
    intro sz hW hs
    rw [List.length_cons] at hs
    obtain ⟨hx0, hx1⟩ := hW x (.head _)
    rw [bytesOf_cons]
    have h8 := bytes8_length x
    by_cases hz : W = []
    · subst hz
      have hb : bytesOf [] = [] := rfl
      rw [hb, List.append_nil]
      have hsz : 1 ≤ sz ∧ sz ≤ 8 := by simp at hs; omega
      have hl : ((bytes8 x).take sz).length = sz := by rw [List.length_take]; omega
      rw [pieces_short (by omega) (by omega)]
      have hp := pk_append ((bytes8 x).take sz) ((bytes8 x).drop sz)
      rw [List.take_append_drop, hl] at hp
      have he := pk_bytes8 hx0 hx1
      rw [← pk_zero]
      constructor
      · intro h
        have h2 : (pk ((bytes8 x).take sz) : Int) = x := by simpa using h
        have h3 : pk ((bytes8 x).take sz) = pk (bytes8 x) := by omega
        rw [h3] at hp
        have h4 : 256 ^ sz * pk ((bytes8 x).drop sz) = 0 := by omega
        rcases Nat.mul_eq_zero.1 h4 with h5 | h5
        · have := Nat.pow_pos (n := sz) (show 0 < 256 by omega)
          omega
        · exact h5
      · intro h
        rw [h, Nat.mul_zero, Nat.add_zero] at hp
        rw [← hp, he]
    · have hl : 1 ≤ W.length := by cases W with | nil => exact absurd rfl hz | cons => simp
      have hs8 : 8 ≤ sz := by omega
      rw [List.take_append, List.drop_append, h8, List.take_of_length_le (l := bytes8 x) (by omega), List.drop_of_length_le (l := bytes8 x) (by omega), List.nil_append, pieces_cons h8, pk_bytes8 hx0 hx1]
      rw [← ih (sz - 8) (fun y hy => hW y (.tail _ hy)) (by omega)]
      constructor
      · intro h; exact (List.cons.inj h).2
      · intro h; rw [h]
end Go.Proofs.YtinakendlpomnaaGreat
/- What stands at a place of words (the reference's): plain; laying out; no object there. -/
namespace Go.Proofs.YtinakendlpomnaaGreat
open Go.RowKit Go.Maps Arena
set_option maxHeartbeats 4000000
set_option maxRecDepth 100000
/-- what is read at a place, whether it may be or not -/
def rawO (hd : Int) (r : List Int) : Ob := if hd % 256 = 2 then ⟨2, hd / 256 % 16777216, [], ⟨((bytesOf (r.take (((hd / 4294967296).toNat + 7) / 8))).take (hd / 4294967296).toNat).toArray⟩⟩ else ⟨hd % 256, hd / 256 % 16777216, r.take (hd / 4294967296).toNat, ByteArray.empty⟩
theorem head_back {hd : Int} {sz : Nat} (hw : W64 hd) (hsz : hd / 4294967296 = sz) : hd % 256 + 256 * (hd / 256 % 16777216) + 4294967296 * (sz : Int) = hd := by
  obtain ⟨h0, h1⟩ := hw
  omega
theorem readS_ref {hd : Int} {r : List Int} {sz : Nat} (hw : W64 hd) (hr : ∀ x ∈ r, W64 x) (hsz : hd / 4294967296 = sz) :
    readS (hd :: r) = if sz ≤ 400 ∧ bodyK (hd % 256) sz sz ≤ r.length ∧ mayO (rawO hd r) = true ∧ layO (rawO hd r) = (hd :: r).take (wordsO (rawO hd r)) then some (rawO hd r) else none := by
  have hsn : (hd / 4294967296).toNat = sz := by omega
  by_cases h2 : hd % 256 = 2
  · rw [readS_text h2 rfl hsz]
    have hro : rawO hd r = ⟨2, hd / 256 % 16777216, [], ⟨((bytesOf (r.take ((sz + 7) / 8))).take sz).toArray⟩⟩ := by unfold rawO; rw [if_pos h2, hsn]
    rw [hro, h2]
    have hb : bodyK 2 sz sz = (sz + 7) / 8 := rfl
    rw [hb]
    by_cases hs : sz ≤ 400 ∧ (sz + 7) / 8 ≤ r.length
    · obtain ⟨hs1, hs2⟩ := hs
      have htl : (r.take ((sz + 7) / 8)).length = (sz + 7) / 8 := by rw [List.length_take]; omega
      have hl : ((bytesOf (r.take ((sz + 7) / 8))).take sz).length = sz := by rw [List.length_take, bytesOf_len, htl]; omega
      have hsize : (ByteArray.mk ((bytesOf (r.take ((sz + 7) / 8))).take sz).toArray).size = sz := by rw [ByteArray.size, List.size_toArray, hl]
      have hm : mayO ⟨2, hd / 256 % 16777216, [], ⟨((bytesOf (r.take ((sz + 7) / 8))).take sz).toArray⟩⟩ = mayK 2 (hd / 256 % 16777216) 0 sz := by
        unfold mayO
        dsimp only
        rw [hsize]
        rfl
      have hwo : wordsO ⟨2, hd / 256 % 16777216, [], ⟨((bytesOf (r.take ((sz + 7) / 8))).take sz).toArray⟩⟩ = (sz + 7) / 8 + 1 := by
        unfold wordsO bodyK
        dsimp only
        rw [if_pos rfl, hsize]
        omega
      have hlay : layO ⟨2, hd / 256 % 16777216, [], ⟨((bytesOf (r.take ((sz + 7) / 8))).take sz).toArray⟩⟩ = hd :: pieces ((bytesOf (r.take ((sz + 7) / 8))).take sz) := by
        unfold layO headO bodyO headK sizeK
        dsimp only
        rw [if_pos rfl, if_pos rfl, hsize]
        congr 1
        have := head_back hw hsz
        rw [h2] at this
        exact this
      rw [hm, hwo, hlay, List.take_succ_cons]
      have hpb := pieces_back (r.take ((sz + 7) / 8)) sz (fun x hx => hr x (List.mem_of_mem_take hx)) htl.symm
      have hiff : (hd :: pieces ((bytesOf (r.take ((sz + 7) / 8))).take sz) = hd :: r.take ((sz + 7) / 8)) ↔ ((bytesOf (r.take ((sz + 7) / 8))).drop sz).all (· == 0) = true := by
        rw [← hpb]
        constructor
        · intro h; exact (List.cons.inj h).2
        · intro h; rw [h]
      by_cases hm2 : mayK 2 (hd / 256 % 16777216) 0 sz = true
      · by_cases hz : ((bytesOf (r.take ((sz + 7) / 8))).drop sz).all (· == 0) = true
        · rw [if_pos ⟨hs1, hs2, hz, hm2⟩, if_pos ⟨hs1, hs2, hm2, hiff.2 hz⟩]
        · rw [if_neg (fun h => hz h.2.2.1), if_neg (fun h => hz (hiff.1 h.2.2.2))]
      · rw [if_neg (fun h => hm2 h.2.2.2), if_neg (fun h => hm2 h.2.2.1)]
    · rw [if_neg (fun h => hs ⟨h.1, h.2.1⟩), if_neg (fun h => hs ⟨h.1, h.2.1⟩)]
  · have hb : bodyK (hd % 256) sz sz = sz := if_neg h2
    have hro : rawO hd r = ⟨hd % 256, hd / 256 % 16777216, r.take sz, ByteArray.empty⟩ := by unfold rawO; rw [if_neg h2, hsn]
    rw [hb, hro]
    by_cases hk : 1 ≤ hd % 256 ∧ hd % 256 ≤ 4
    · rw [readS_row rfl rfl hsz hk.1 hk.2 h2]
      by_cases hs : sz ≤ 400 ∧ sz ≤ r.length
      · obtain ⟨hs1, hs2⟩ := hs
        have hl : (r.take sz).length = sz := by rw [List.length_take]; omega
        have hm : mayO ⟨hd % 256, hd / 256 % 16777216, r.take sz, ByteArray.empty⟩ = mayK (hd % 256) (hd / 256 % 16777216) sz 0 := by
          unfold mayO; dsimp only; rw [hl]; rfl
        have hlay : layO ⟨hd % 256, hd / 256 % 16777216, r.take sz, ByteArray.empty⟩ = (hd :: r).take (wordsO ⟨hd % 256, hd / 256 % 16777216, r.take sz, ByteArray.empty⟩) := by
          unfold layO headO bodyO headK sizeK wordsO bodyK
          dsimp only
          rw [if_neg h2, if_neg h2, if_neg h2, hl, Nat.add_comm 1 sz, List.take_succ_cons]
          congr 1
          exact head_back hw hsz
        by_cases hm2 : mayK (hd % 256) (hd / 256 % 16777216) sz 0 = true
        · rw [if_pos ⟨hs1, hs2, hm2⟩, if_pos ⟨hs1, hs2, by rw [hm]; exact hm2, hlay⟩]
        · rw [if_neg (fun h => hm2 h.2.2), if_neg (fun h => hm2 (by rw [← hm]; exact h.2.2.1))]
      · rw [if_neg (fun h => hs ⟨h.1, h.2.1⟩), if_neg (fun h => hs ⟨h.1, h.2.1⟩)]
    · rw [readS_no rfl (by omega), if_neg]
      intro h
      have := mayK_bounds (show mayK (hd % 256) (hd / 256 % 16777216) (r.take sz).length 0 = true from h.2.2.1)
      omega
/-- laying out (the reference's) -/
theorem lay_is (o : Ob) (hm : mayO o = true) (c : Nat) (q : Option Addr) (w : World) (hF : RowsP w (.slice q o.fields.length c) 1 (o.fields.map wordC)) : Calls Tryz.prog 36 #[.agg #[.int .i64 o.kind, .int .i64 o.tag, .slice q o.fields.length c, .string o.text]] w fun e w' => ∃ v, e = .returned v ∧ OwnP w' w.heap.size 51 v 1 ((layO o).map wordC) ∧ Ext w w' := by
  obtain ⟨kd, tg, F, s⟩ := o
  unfold mayO at hm
  dsimp only at hm hF ⊢
  by_cases h2 : kd = 2
  · subst h2
    rcases mayK_cases hm with ⟨h, _⟩ | ⟨_, rfl, hn, h4⟩ | ⟨h, _⟩ | ⟨h, _⟩
    · omega
    · obtain rfl := List.eq_nil_of_length_eq_zero hn
      exact lay_text c q s w hF h4
    · omega
    · omega
  · have hs : s.size = 0 := by rcases mayK_cases hm with h | h | h | h <;> omega
    obtain rfl := empty_of hs
    have hl : layO ⟨kd, tg, F, ByteArray.empty⟩ = headK kd tg F.length 0 :: F := by
      unfold layO headO bodyO
      dsimp only
      rw [if_neg h2]
      rfl
    rw [hl]
    exact lay_row kd tg F.length c q F w hF hm h2
end Go.Proofs.YtinakendlpomnaaGreat
/- What stands at a place of words (the reference's 'At'). -/
namespace Go.Proofs.YtinakendlpomnaaGreat
open Go.RowKit Go.Maps Arena
set_option maxHeartbeats 4000000
set_option maxRecDepth 100000
def zeroRV : Value := .agg #[.int .i64 0, .int .i64 0, .slice none 0 0, .string ByteArray.empty, .bool false]
/-- what the reference's 'At' tells -/
def AtSaid (r : Option Ob) (w : World) (e : Ending) (w' : World) : Prop := match r with
  | none => e = .returned zeroRV ∧ Ext w w'
  | some o => ∃ q c, e = .returned (.agg #[.int .i64 o.kind, .int .i64 o.tag, .slice q o.fields.length c, .string o.text, .bool true]) ∧ OwnP w' w.heap.size 51 (.slice q o.fields.length c) 1 (o.fields.map wordC) ∧ Ext w w'
theorem post_fill5 {P : Program} {f : Func} {Q : Ending → World → Prop} {x : Exit} {a : Act} {w : World} {b : Nat} {x0 x1 x2 x3 x4 y0 y1 y2 y3 y4 : Value} {T : TypeId} (h0 : w.heap[b]? = some (.cells #[x0, x1, x2, x3, x4] T (0, 0)))
    (h : ∀ W : World, W.heap[b]? = some (.cells #[y0, y1, y2, y3, y4] T (0, 0)) → Turn [b] w W → W.heap.size = w.heap.size → bodyPost P f Q x a W) : bodyPost P f Q x a (((((w.setCell ⟨b, 0, none⟩ y0).setCell ⟨b, 1, none⟩ y1).setCell ⟨b, 2, none⟩ y2).setCell ⟨b, 3, none⟩ y3).setCell ⟨b, 4, none⟩ y4) :=
  h _ (fill5 h0 _ _ _ _ _).1 (fill5 h0 _ _ _ _ _).2.1 (fill5 h0 _ _ _ _ _).2.2
theorem at_out {n c : Nat} {q : Option Addr} {at_ : Int} (h : at_ < 0 ∨ (n : Int) ≤ at_) (w : World) : Calls Tryz.prog 60 #[.slice q n c, .int .i64 at_] w (AtSaid none w) := by
  by_cases h0 : at_ < 0
  · have d0 : decide (at_ < 0) = true := decide_eq_true h0
    go_enter Tryz.func60, Tryz.ntmps60
    go_upto_region 1 with fail
    refine wp_alloc1 fun W hE hS b0 => ?_
    obtain ⟨y0, y1, y2, y3, y4⟩ := cells5 b0
    have f0 := free_at b0 (i := 0)
    have f1 := free_at b0 (i := 1)
    have f2 := free_at b0 (i := 2)
    have f3 := free_at b0 (i := 3)
    have f4 := free_at b0 (i := 4)
    go_wp2
    refine post_fill5 b0 fun W3 c1 hT hS3 => ?_
    obtain ⟨y0, y1, y2, y3, y4⟩ := cells5 c1
    refine bodyPost_ret (v := zeroRV) (by simp [results, Tryz.results60, go_sem, y0, y1, y2, y3, y4, zeroRV]; rfl) rfl ⟨rfl, ?_⟩
    exact Turn.after hE hT (by simp)
  · have d0 : decide (at_ < 0) = false := decide_eq_false h0
    have d1 : decide ((n : Int) ≤ at_) = true := decide_eq_true (by omega)
    go_enter Tryz.func60, Tryz.ntmps60
    go_upto_region 1 with fail
    refine wp_alloc1 fun W hE hS b0 => ?_
    obtain ⟨y0, y1, y2, y3, y4⟩ := cells5 b0
    have f0 := free_at b0 (i := 0)
    have f1 := free_at b0 (i := 1)
    have f2 := free_at b0 (i := 2)
    have f3 := free_at b0 (i := 3)
    have f4 := free_at b0 (i := 4)
    go_wp2
    refine post_fill5 b0 fun W3 c1 hT hS3 => ?_
    obtain ⟨y0, y1, y2, y3, y4⟩ := cells5 c1
    refine bodyPost_ret (v := zeroRV) (by simp [results, Tryz.results60, go_sem, y0, y1, y2, y3, y4, zeroRV]; rfl) rfl ⟨rfl, ?_⟩
    exact Turn.after hE hT (by simp)
/-- a slot holds a number, the world is as it was -/
def NumSame (v : Value) (n : Nat) (w w' : World) : Prop := v = .int .i64 n ∧ w = w'
theorem fill_step {BL : List UInt8} {n k : Nat} {c : UInt8} (hl : BL.length = n) (hk : k < n) (hc : BL[k]? = some c) : (BL.take (k + 1) ++ List.replicate (n - (k + 1)) 0).map byteC = ((BL.take k ++ List.replicate (n - k) 0).map byteC).set k (byteC c) := by
  rw [← List.map_set]
  congr 1
  apply List.ext_getElem?
  intro i
  obtain ⟨h1, h2⟩ := List.getElem?_eq_some_iff.1 hc
  have e1 : (BL.take (k + 1)).length = k + 1 := by rw [List.length_take]; omega
  have e2 : (BL.take k).length = k := by rw [List.length_take]; omega
  rcases Nat.lt_trichotomy i k with h | h | h
  · rw [List.getElem?_append_left (by omega), List.getElem?_set_ne (by omega), List.getElem?_append_left (by omega), List.getElem?_take_of_lt (by omega), List.getElem?_take_of_lt h]
  · subst h
    rw [List.getElem?_append_left (by omega), List.getElem?_take_of_lt (by omega), hc, List.getElem?_set_self (by rw [List.length_append, e2, List.length_replicate]; omega)]
  · rw [List.getElem?_set_ne (by omega), List.getElem?_append_right (by omega), List.getElem?_append_right (by omega), e1, e2, List.getElem?_replicate, List.getElem?_replicate]
    by_cases hi : i < n
    · rw [if_pos (by omega), if_pos (by omega)]
    · rw [if_neg (by omega), if_neg (by omega)]
theorem bytesOf_at : ∀ {W : List Int} {k : Nat} {x : Int}, W[k / 8]? = some x → (bytesOf W)[k]? = some (byteAt x (k % 8)) := by
  intro W
  induction W with
  | nil => intro k x h; simp at h
  | cons y W ih =>
    intro k x h
    rw [bytesOf_cons]
    by_cases hk : k < 8
    · rw [show k / 8 = 0 by omega] at h
      obtain rfl : y = x := by simpa using h
      rw [List.getElem?_append_left (by rw [bytes8_len]; exact hk)]
      simp [bytes8, byteAt, hk, Nat.mod_eq_of_lt hk]
    · rw [List.getElem?_append_right (by rw [bytes8_len]; omega), bytes8_len]
      have h2 : W[(k - 8) / 8]? = some x := by
        rw [show k / 8 = (k - 8) / 8 + 1 by omega] at h
        simpa using h
      rw [ih h2, show (k - 8) % 8 = k % 8 by omega]
theorem at_in {c : Nat} {q : Option Addr} {S : List Int} (at_ : Nat) (hd : Int) (r : List Int) (hS : S.drop at_ = hd :: r) (w : World) (hR : RowsP w (.slice q S.length c) 1 (S.map wordC)) (h64 : ∀ x ∈ S, W64 x) (hSn : S.length ≤ 100000) :
    Calls Tryz.prog 60 #[.slice q S.length c, .int .i64 at_] w (AtSaid (readS (hd :: r)) w) := by
  have hl : at_ + r.length + 1 = S.length := by have := congrArg List.length hS; rw [List.length_drop, List.length_cons] at this; omega
  have hw : W64 hd := h64 hd (List.mem_of_mem_drop (by rw [hS]; exact .head _))
  have hr64 : ∀ x ∈ r, W64 x := fun x hx => h64 x (List.mem_of_mem_drop (by rw [hS]; exact .tail _ hx))
  have hx0 : S[at_]? = some hd := by have := congrArg (·[0]?) hS; simpa using this
  have hw0 := hw.1
  have hw1 := hw.2
  obtain ⟨sz, hsz⟩ := Int.eq_ofNat_of_zero_le (show 0 ≤ hd / 4294967296 by omega)
  rw [readS_ref hw hr64 hsz]
  generalize hRR : (if sz ≤ 400 ∧ bodyK (hd % 256) sz sz ≤ r.length ∧ mayO (rawO hd r) = true ∧ layO (rawO hd r) = (hd :: r).take (wordsO (rawO hd r)) then some (rawO hd r) else none) = RR
  have HRR := Lib.hid hRR
  obtain ⟨qa, ca, hva, hca, hcm, hcell⟩ := hR.at
  rw [List.length_map] at hva hca
  obtain ⟨rfl, -, rfl⟩ := Value.slice.inj hva
  obtain ⟨ab, ao, rfl, hyc⟩ := hcell at_ (wordC hd) (by rw [List.getElem?_map, hx0]; rfl)
  have hy0 := hyc 0 _ rfl
  rw [Nat.mul_one, Nat.add_zero] at hy0
  obtain ⟨kd, hkd⟩ : ∃ kd, hd % 256 = kd := ⟨_, rfl⟩
  obtain ⟨tg, htg⟩ : ∃ tg, hd / 256 % 16777216 = tg := ⟨_, rfl⟩
  have e2 : bits .and .u64 (hd / 256) 16777215 = tg := by rw [and_tag ⟨by omega, by omega⟩]; exact htg
  have t1 : 0 ≤ kd := by omega
  have t1' : kd ≤ 255 := by omega
  have t2 : 0 ≤ tg := by omega
  have t2' : tg ≤ 16777215 := by omega
  have t3 : sz ≤ 4294967295 := by omega
  have HTG := Lib.hid htg
  have HR := Lib.hid hR
  have d0 : decide ((at_ : Int) < 0) = false := decide_eq_false (by omega)
  have d1 : decide ((S.length : Int) ≤ (at_ : Int)) = false := decide_eq_false (by omega)
  obtain ⟨bl, hbl⟩ : ∃ bl, bl = bodyK kd sz sz := ⟨_, rfl⟩
  have HBL := Lib.hid hbl
  have hj : (at_ : Int) < (S.length : Int) := by omega
  by_cases hc : sz ≤ 400 ∧ bl ≤ r.length
  · obtain ⟨h4, h5⟩ := hc
    have d2 : decide ((400 : Int) < (sz : Int)) = false := decide_eq_false (by omega)
    have d3 : ¬ (S.length : Int) - (at_ : Int) - 1 < (bl : Int) := by omega
    have hW : ∀ W, Ext w W → RowsP W (.slice (some ⟨ab, ao, none⟩) S.length c) 1 (S.map wordC) := fun W e => hR.ext e
    obtain ⟨o, ho⟩ : ∃ o, o = rawO hd r := ⟨_, rfl⟩
    have hokd : o.kind = kd := by rw [ho]; unfold rawO; rw [hkd]; by_cases h2 : kd = 2 <;> simp [h2]
    have hotg : o.tag = tg := by rw [ho]; unfold rawO; rw [hkd, htg]; by_cases h2 : kd = 2 <;> simp [h2]
    have HW := Lib.hid hW
    have HO := Lib.hid ho
    have HR64 := Lib.hid hr64
    have HSR := Lib.hid hS
    have HRR2 : Hid ((if mayO o = true ∧ layO o = (hd :: r).take (wordsO o) then some o else none) = RR) := by
      show _ = _
      rw [← hRR, ho]
      by_cases hc2 : mayO (rawO hd r) = true ∧ layO (rawO hd r) = (hd :: r).take (wordsO (rawO hd r))
      · rw [if_pos hc2, if_pos ⟨h4, by rw [hkd, ← hbl]; exact h5, hc2.1, hc2.2⟩]
      · rw [if_neg hc2, if_neg (fun h => hc2 ⟨h.2.2.1, h.2.2.2⟩)]
    have hoF : kd ≠ 2 → o.fields = r.take sz ∧ o.text = ByteArray.empty := by
      intro h2
      rw [ho]; unfold rawO; rw [hkd, if_neg h2, hsz]; exact ⟨rfl, rfl⟩
    have hoT : kd = 2 → o.fields = [] ∧ o.text = ⟨((bytesOf (r.take ((sz + 7) / 8))).take sz).toArray⟩ := by
      intro h2
      rw [ho]; unfold rawO; rw [hkd, if_pos h2, hsz]; exact ⟨rfl, rfl⟩
    have HOF := Lib.hid hoF
    have HOT := Lib.hid hoT
    clear hyc hcell hRR HRR hS hx0 hva hR hW h64 hr64 hw htg HR ho hoF hoT
    have hb2 : (kd = 2 → bl = (sz + 7) / 8) ∧ (kd ≠ 2 → bl = sz) := by rw [hbl]; exact ⟨fun h => by rw [h]; rfl, fun h => if_neg h⟩
    have HB2 := Lib.hid hb2
    have hble : bl ≤ 400 := by
      by_cases h2 : kd = 2
      · have := hb2.1 h2; omega
      · have := hb2.2 h2; omega
    clear hbl hb2
    go_enter Tryz.func60, Tryz.ntmps60
    go_upto_region 1 with fail
    refine wp_alloc1 fun W hE hS b0 => ?_
    have hy1 := hE.cell hy0
    go_upto_region 5 with fail
    refine wp_alloc1 fun W2 hE2 hS2 b2 => ?_
    have b1 := (Below.block hE2 w.heap.size (by omega)).trans b0
    have HX := Lib.hid (hE.trans hE2)
    have hws : w.heap.size + 1 = W.heap.size := by omega
    rw [← hws] at b2
    clear hE hE2 b0 hy0 hy1 hws
    have HC2 := Lib.hid (show ∀ W, Turn [w.heap.size + 1] W2 W → W.heap[w.heap.size]? = some (.cells #[.int .i64 0, .int .i64 0, .slice none 0 0, .string ⟨#[]⟩, .bool false] 122 (0, 0)) from fun W t => (t.block w.heap.size (Array.getElem?_eq_some_iff.1 b1).1 (by simp)).trans b1)
    obtain ⟨z0, z1, z2, z3⟩ := cells4 b2
    have hlw : w.heap.size + 1 < W2.heap.size := (Array.getElem?_eq_some_iff.1 b2).1
    clear hS hS2
    by_cases h2 : kd = 2
    · subst h2
      obtain ⟨hof1, hof2⟩ := HOT.out rfl
      have hbl := HB2.out.1 rfl
      rw [← hbl] at hof2
      obtain ⟨BL, hBL⟩ : ∃ BL, BL = (bytesOf (r.take bl)).take sz := ⟨_, rfl⟩
      have hBl : BL.length = sz := by rw [hBL, List.length_take, bytesOf_len, List.length_take]; omega
      rw [← hBL] at hof2
      have hBat : ∀ k x, k < sz → r[k / 8]? = some x → BL[k]? = some (byteAt x (k % 8)) := by
        intro k x hk hx
        rw [hBL, List.getElem?_take_of_lt hk]
        exact bytesOf_at (by rw [List.getElem?_take_of_lt (by omega)]; exact hx)
      have HOF1 := Lib.hid hof1; have HOF2 := Lib.hid hof2; have HBat := Lib.hid hBat; have HBl := Lib.hid hBl
      have k3 : ((sz : Int) + 7) / 8 = (bl : Int) := by omega
      have HBB := Lib.hid hbl
      have hmk := mk_u8s sz (by omega)
      have hrd : (S.map wordC).drop (at_ + 1) = r.map wordC := by rw [← List.map_drop, ← List.drop_drop, HSR.out]; rfl
      have hrc : ∀ W, Ext w W → ∀ (j : Nat) (x : Int), r[j]? = some x → W.cell? ⟨ab, ao + (at_ + 1 + j), none⟩ = some (.int .u64 x) := by
        intro W e j x hx
        obtain ⟨qz, cz, hvz, _, _, hcz⟩ := (HW.out W e).at
        have hxs : S[at_ + 1 + j]? = some x := by
          have h1 : (S.map wordC)[at_ + 1 + j]? = some (wordC x) := by rw [← List.getElem?_drop, hrd, List.getElem?_map, hx]; rfl
          rw [List.getElem?_map] at h1
          obtain ⟨y, h2, h3⟩ := Option.map_eq_some_iff.1 h1
          rw [h2]
          simp [wordC] at h3
          rw [h3]
        obtain ⟨bz, oz, hqz, hfz⟩ := hcz (at_ + 1 + j) (wordC x) (by rw [List.getElem?_map, hxs]; rfl)
        obtain ⟨hq1, _, _⟩ := Value.slice.inj hvz
        rw [hqz] at hq1
        obtain ⟨rfl, rfl, _⟩ := Addr.mk.inj (Option.some.inj hq1)
        have := hfz 0 _ rfl
        rw [Nat.mul_one, Nat.add_zero] at this
        exact this
      have HRC := Lib.hid hrc
      clear hof1 hof2 hBL hBl hBat hbl hrd hrc
      go_upto_region 13 with fail
      have ho0 : OwnP (W2.alloc (.cells (madeCells #[.int .u8 0] sz) 5)) W2.heap.size 5 (.slice (some ⟨W2.heap.size, 0, none⟩) sz sz) 1 ((BL.take 0 ++ List.replicate (sz - 0) 0).map byteC) := by
        have := made_own W2 5 (.int .u8 0) sz W2.heap.size rfl (Nat.le_refl _) (by unfold maxLen; omega)
        rw [List.take_zero, List.nil_append, Nat.sub_zero, List.map_replicate]
        exact this
      have hx0 := Ext.alloc W2 (.cells (madeCells #[.int .u8 0] sz) 5)
      generalize W2.alloc (.cells (madeCells #[.int .u8 0] sz) 5) = W3 at *
      have HO0 := Lib.hid ho0; have HX0 := Lib.hid hx0
      clear ho0 hx0 z0 z1 z2 z3 hmk
      go_wp2_with fail
      go_loopw [10] (fun i wr => ∃ k : Nat, k ≤ sz ∧ i = .int .i64 k ∧ OwnP wr W2.heap.size 5 (.slice (some ⟨W2.heap.size, 0, none⟩) sz sz) 1 ((BL.take k ++ List.replicate (sz - k) 0).map byteC) ∧ Ext W2 wr) (fun i _ => sz - (Go.RowKit.intOf i).toNat)
      case atStart => exact ⟨0, Nat.zero_le _, rfl, HO0.out, HX0.out⟩
      case round =>
        obtain ⟨k, hk, rfl, hown, hxk⟩ := hrel
        have HXK := Lib.hid hxk
        have HOW := Lib.hid hown
        clear hown hxk
        by_cases hkl : k < sz
        · have i1 : (k : Int) < (sz : Int) := by omega
          obtain ⟨j, hj8⟩ : ∃ j : Nat, j = k / 8 := ⟨_, rfl⟩
          obtain ⟨rr, hr8⟩ : ∃ rr : Nat, rr = k % 8 := ⟨_, rfl⟩
          have hjb : j < bl := by have := HBB.out; omega
          obtain ⟨x, hx⟩ : ∃ x, r[j]? = some x := ⟨_, List.getElem?_eq_getElem (by omega)⟩
          have hcx := HRC.out wr (HX.out.trans HXK.out) j x hx
          have hbk := HBat.out k x hkl (by rw [← hj8]; exact hx)
          have hw6 := HR64.out x (List.mem_of_getElem? hx)
          have q1 : (k : Int) / 8 = (j : Int) := by omega
          have q2 : (k : Int) % 8 = (rr : Int) := by omega
          have q3 : (at_ : Int) + 1 + (j : Int) < (S.length : Int) := by omega
          have hr7 : rr < 8 := by omega
          have HJ := Lib.hid hj8; have HRR8 := Lib.hid hr8; have HXJ := Lib.hid hx; have HBK := Lib.hid hbk; have HW6 := Lib.hid hw6
          clear hj8 hr8 hx hbk hw6
          have hrow : ((BL.take k ++ List.replicate (sz - k) 0).map byteC)[k]? = some (byteC 0) := by
            have hl : (BL.take k).length = k := by rw [List.length_take, HBl.out]; omega
            rw [List.getElem?_map, List.getElem?_append_right (by omega), hl, Nat.sub_self, List.getElem?_replicate, if_pos (by omega)]
            rfl
          obtain ⟨g', e, _, y0, f0⟩ := HOW.out.cell hrow (f := 0) rfl
          obtain ⟨rfl, _⟩ := Addr.mk.inj (Option.some.inj e)
          rw [Nat.mul_one, Nat.add_zero] at y0 f0
          have HROW := Lib.hid hrow
          clear hrow e
          have hbv := byteAt_is HW6.out rr
          have hst := HOW.out.store (f := 0) HROW.out (by omega) (u := .int .u8 (x / 2 ^ (8 * rr) % 256)) rfl
          have hst2 : OwnP (wr.setCell ⟨W2.heap.size, k, none⟩ (.int .u8 (x / 2 ^ (8 * rr) % 256))) W2.heap.size 5 (.slice (some ⟨W2.heap.size, 0, none⟩) sz sz) 1 ((BL.take (k + 1) ++ List.replicate (sz - (k + 1)) 0).map byteC) := by
            rw [fill_step HBl.out hkl HBK.out, ← HRR8.out]
            rw [Nat.mul_one, Nat.add_zero] at hst
            rw [show byteC (byteAt x rr) = (byteC 0).set 0 (.int .u8 (x / 2 ^ (8 * rr) % 256)) by rw [hbv]; rfl]
            exact hst
          have HST := Lib.hid hst2
          have HX4 := Lib.hid (show Ext W2 (wr.setCell ⟨W2.heap.size, k, none⟩ (.int .u8 (x / 2 ^ (8 * rr) % 256))) from Below.setCell HXK.out (Nat.le_refl _) _)
          clear hst hst2 hbv
          go_wp2
          exact ⟨⟨k + 1, by omega, by go_num, HST.out, HX4.out⟩, by simp [Go.RowKit.intOf]; omega⟩
        · obtain rfl : k = sz := by omega
          have i1 : ¬ (k : Int) < (k : Int) := by omega
          have hown := HOW.out
          rw [Nat.sub_self, List.replicate_zero, List.append_nil, List.take_of_length_le (by rw [HBl.out]; exact Nat.le_refl _)] at hown
          have hcv := hown.p.string
          obtain ⟨s, hs⟩ : ∃ s : ByteArray, s = ⟨BL.toArray⟩ := ⟨_, rfl⟩
          rw [← hs] at hcv
          have c5' := (Below.block HXK.out (w.heap.size + 1) hlw).trans b2
          have k5 := (Below.block HXK.out w.heap.size (by omega)).trans b1
          have HX5 := Lib.hid (HX.out.trans HXK.out)
          have HF6 : Hid (o.fields.length = 0) := by show _ = _; rw [HOF1.out]; rfl
          have HS6 : Hid (o.text = s) := by show _ = _; rw [HOF2.out, hs]
          have HK6 := Lib.hid hokd
          have hss : s.data.toList.length = k := by rw [hs]; exact HBl.out
          have HSS := Lib.hid hss
          subst hotg
          clear hown hokd hs hss b1 b2 HOW
          obtain ⟨z0, z1, z2, z3⟩ := cells4 c5'
          have f3 := free_at c5' (i := 3)
          go_upto_region 19 with fail
          refine wp_fill1 c5' fun W6 hb6 hT6 hS6 => ?_
          have c6 : W6.heap[w.heap.size + 1]? = some (.cells #[.int .i64 2, .int .i64 o.tag, .slice none 0 0, .string s] 55 (0, 0)) := hb6
          have k6 := (hT6.block w.heap.size (Array.getElem?_eq_some_iff.1 k5).1 (by simp)).trans k5
          have HX6 := Lib.hid (Turn.after HX5.out hT6 (by simp))
          have HO6 := Lib.hid (show OwnP W6 w.heap.size 51 (.slice none 0 0) 1 (o.fields.map wordC) by rw [HOF1.out]; exact OwnP.nil _ _ _ _)
          clear hb6 hT6 hS6 c5' k5 z0 z1 z2 z3 f3 hcv HXK
          have hmay := fun W => refmay_is 2 o.tag 0 0 none s W
          have hm6 : mayK 2 o.tag 0 (s : ByteArray).size = mayO o := by unfold mayO; rw [HF6.out, HS6.out, HK6.out]
          rw [hm6] at hmay
          generalize hmm : mayO o = mm at hmay
          have HMM := Lib.hid hmm
          have HMAY := Lib.hid hmay
          clear hm6 hmay hmm
          obtain ⟨z0, z1, z2, z3⟩ := cells4 c6
          go_wp2_with fail
          refine (HMAY.out _).mono ?_
          rintro e w7 ⟨rfl, hx7⟩
          have c7 := (Below.block hx7 (w.heap.size + 1) (Array.getElem?_eq_some_iff.1 c6).1).trans c6
          have k7 := (Below.block hx7 w.heap.size (Array.getElem?_eq_some_iff.1 k6).1).trans k6
          have HX7 := Lib.hid (HX6.out.trans hx7)
          have HO7 := Lib.hid (HO6.out.ext hx7)
          clear hx7 z0 z1 z2 z3 c6 k6
          cases mm
          · have hno : RR = none := by rw [← HRR2.out, if_neg (fun h => by rw [HMM.out] at h; cases h.1)]
            subst hno
            obtain ⟨y0, y1, y2, y3, y4⟩ := cells5 k7
            have f0 := free_at k7 (i := 0)
            have f1 := free_at k7 (i := 1)
            have f2 := free_at k7 (i := 2)
            have f3 := free_at k7 (i := 3)
            have f4 := free_at k7 (i := 4)
            go_wp2
            refine post_fill5 k7 fun W3 c1 hT hS3 => ?_
            obtain ⟨y0, y1, y2, y3, y4⟩ := cells5 c1
            refine bodyPost_ret (v := zeroRV) (by simp [results, Tryz.results60, go_sem, y0, y1, y2, y3, y4, zeroRV]; rfl) rfl ⟨rfl, ?_⟩
            exact Turn.after HX7.out hT (by simp)
          · have hlay : ∀ W, Ext w7 W → Calls Tryz.prog 36 #[.agg #[.int .i64 2, .int .i64 o.tag, .slice none 0 0, .string s]] W fun e w' => ∃ v, e = .returned v ∧ OwnP w' W.heap.size 51 v 1 ((layO o).map wordC) ∧ Ext W w' := fun W e => by
              have := lay_is o HMM.out 0 none W (by rw [HF6.out]; exact (HO7.out.ext e).p)
              rw [HF6.out, HS6.out, HK6.out] at this
              exact this
            have HLAY := Lib.hid hlay
            have hll : (layO o).length = wordsO o := by have := body_len HMM.out; unfold layO; rw [List.length_cons]; omega
            have hwn : wordsO o = 1 + bl := by
              have h1 := body_len HMM.out
              rw [← h1]
              unfold bodyO pieces; rw [if_pos HK6.out, HS6.out, List.length_map, List.length_range, HSS.out]; have := HBB.out; omega
            rw [hwn] at hll
            have HWN := Lib.hid hwn
            obtain ⟨LO, hLO⟩ : ∃ LO, LO = layO o := ⟨_, rfl⟩
            rw [← hLO] at HLAY hll
            have HLO := Lib.hid hLO
            have HLL := Lib.hid hll
            clear hlay hll hwn hLO
            obtain ⟨z0, z1, z2, z3⟩ := cells4 c7
            go_wp2_with fail
            refine (HLAY.out _ (Ext.refl _)).mono ?_
            rintro e w8 ⟨vl, rfl, hol, hx8⟩
            have c8 := (Below.block hx8 (w.heap.size + 1) (Array.getElem?_eq_some_iff.1 c7).1).trans c7
            have k8 := (Below.block hx8 w.heap.size (Array.getElem?_eq_some_iff.1 k7).1).trans k7
            have HX8 := Lib.hid (HX7.out.trans hx8)
            have HO8 := Lib.hid (HO7.out.ext hx8)
            obtain ⟨gl, cl, hvl, hcl⟩ : ∃ gl cl, vl = .slice (some ⟨gl, 0, none⟩) (1 + bl) cl ∧ ∀ (i : Nat) (x : Int), LO[i]? = some x → w8.cell? ⟨gl, i, none⟩ = some (.int .u64 x) := by
              obtain ⟨q9, c9, hv9, _, _⟩ := hol.len
              rw [List.length_map, HLL.out] at hv9
              subst hv9
              obtain ⟨lo0, h1⟩ : ∃ x, LO[0]? = some x := ⟨_, List.getElem?_eq_getElem (by rw [HLL.out]; omega)⟩
              obtain ⟨g9, hq9, _⟩ := hol.cell (i := 0) (cs := wordC lo0) (by rw [List.getElem?_map, h1]; rfl) (f := 0) rfl
              subst hq9
              refine ⟨g9, c9, rfl, fun i x hx => ?_⟩
              obtain ⟨g8, hq8, _, hc8, _⟩ := hol.cell (i := i) (cs := wordC x) (by rw [List.getElem?_map, hx]; rfl) (f := 0) rfl
              obtain ⟨rfl, _⟩ := Addr.mk.inj (Option.some.inj hq8)
              rw [Nat.mul_one, Nat.add_zero] at hc8
              exact hc8
            subst hvl
            have HCL := Lib.hid hcl
            clear hx8 hol z0 z1 z2 z3 c7 k7 hcl
            go_wp2_with fail
            go_loopw [12] (fun i wr => ∃ k : Nat, k ≤ 1 + bl ∧ i = .int .i64 k ∧ Hid (LO.take k = (hd :: r).take k) ∧ Ext w8 wr) (fun i _ => 1 + bl - (Go.RowKit.intOf i).toNat)
            case atStart => exact ⟨0, Nat.zero_le _, rfl, Lib.hid rfl, Ext.refl _⟩
            case round =>
              obtain ⟨k, hk, rfl, HEQ, hxk⟩ := hrel
              have HXK := Lib.hid hxk
              have c9 := (Below.block hxk (w.heap.size + 1) (Array.getElem?_eq_some_iff.1 c8).1).trans c8
              have k9 := (Below.block hxk w.heap.size (Array.getElem?_eq_some_iff.1 k8).1).trans k8
              have HO9 := Lib.hid (HO8.out.ext hxk)
              clear hxk c8 k8
              by_cases hkl : k < 1 + bl
              · have i1 : (k : Int) < 1 + (bl : Int) := by omega
                obtain ⟨xa, hxa⟩ : ∃ x, LO[k]? = some x := ⟨_, List.getElem?_eq_getElem (by rw [HLL.out]; exact hkl)⟩
                obtain ⟨xb, hxb⟩ : ∃ x, (hd :: r)[k]? = some x := ⟨_, List.getElem?_eq_getElem (by rw [List.length_cons]; omega)⟩
                have p1 := HXK.out.cell (HCL.out k xa hxa)
                have p2 : wr.cell? ⟨ab, ao + (at_ + k), none⟩ = some (.int .u64 xb) := by
                  obtain ⟨qz, cz, hvz, _, _, hcz⟩ := (HW.out wr (HX8.out.trans HXK.out)).at
                  have hxs : S[at_ + k]? = some xb := by rw [← List.getElem?_drop, HSR.out]; exact hxb
                  obtain ⟨bz, oz, hqz, hfz⟩ := hcz (at_ + k) (wordC xb) (by rw [List.getElem?_map, hxs]; rfl)
                  obtain ⟨hq1, _, _⟩ := Value.slice.inj hvz
                  rw [hqz] at hq1
                  obtain ⟨rfl, rfl, _⟩ := Addr.mk.inj (Option.some.inj hq1)
                  have := hfz 0 _ rfl
                  rw [Nat.mul_one, Nat.add_zero] at this
                  exact this
                have i2 : (0 : Int) ≤ (at_ : Int) + (k : Int) := by omega
                have i3 : (at_ : Int) + (k : Int) < (S.length : Int) := by omega
                have i4 : IntKind.i64.wrap ((at_ : Int) + (k : Int)) = (at_ : Int) + (k : Int) := IntWalk.i64_in _ (by omega)
                have i5 : ((at_ : Int) + (k : Int)).toNat = at_ + k := by omega
                have HXA := Lib.hid hxa
                have HXB := Lib.hid hxb
                clear hxa hxb
                by_cases hab : xa = xb
                · subst hab
                  go_wp2_with fail
                  go_big_quiet (fail)
                  go_wp2
                  refine ⟨⟨k + 1, by omega, by go_num, ?_, HXK.out.trans (Ext.drewN _ _)⟩, by simp [Go.RowKit.intOf]; omega⟩
                  obtain ⟨h1, h2⟩ := List.getElem?_eq_some_iff.1 HXA.out
                  obtain ⟨h3, h4⟩ := List.getElem?_eq_some_iff.1 HXB.out
                  show _ = _
                  rw [List.take_succ_eq_append_getElem h1, List.take_succ_eq_append_getElem h3, HEQ.out, h2, h4]
                · have i6 : (xa == xb) = false := beq_false_of_ne hab
                  have i7 : (xa != xb) = true := by rw [bne, i6]; rfl
                  have hno : RR = none := by
                    rw [← HRR2.out, ← HLO.out, if_neg]
                    rintro ⟨_, h2⟩
                    apply hab
                    have h3 := HXA.out
                    rw [h2, List.getElem?_take_of_lt (by rw [HWN.out]; exact hkl), HXB.out] at h3
                    exact (Option.some.inj h3).symm
                  subst hno
                  clear hab
                  go_wp2_with fail
                  go_big_quiet (fail)
                  obtain ⟨y0, y1, y2, y3, y4⟩ := cells5 k9
                  have f0 := free_at k9 (i := 0)
                  have f1 := free_at k9 (i := 1)
                  have f2 := free_at k9 (i := 2)
                  have f3 := free_at k9 (i := 3)
                  have f4 := free_at k9 (i := 4)
                  go_wp2
                  refine post_fill5 (w := wr.drewN _) k9 fun W3 c1 hT hS3 => ?_
                  obtain ⟨y0, y1, y2, y3, y4⟩ := cells5 c1
                  refine bodyPost_ret (v := zeroRV) (by simp [results, Tryz.results60, go_sem, y0, y1, y2, y3, y4, zeroRV]; rfl) rfl ⟨rfl, ?_⟩
                  exact Turn.after ((HX8.out.trans HXK.out).trans (Ext.drewN _ _)) hT (by simp)
              · obtain rfl : k = 1 + bl := by omega
                have i1 : ¬ ((1 + bl : Nat) : Int) < 1 + (bl : Int) := by omega
                have hyes : RR = some o := by
                  rw [← HRR2.out, ← HLO.out, if_pos]
                  refine ⟨HMM.out, ?_⟩
                  rw [HWN.out, ← HEQ.out, List.take_of_length_le (by rw [HLL.out]; omega)]
                subst hyes
                obtain ⟨z0, z1, z2, z3⟩ := cells4 c9
                obtain ⟨y0, y1, y2, y3, y4⟩ := cells5 k9
                have f0 := free_at k9 (i := 0)
                have f1 := free_at k9 (i := 1)
                have f2 := free_at k9 (i := 2)
                have f3 := free_at k9 (i := 3)
                have f4 := free_at k9 (i := 4)
                go_wp2
                refine post_fill5 k9 fun W3 c1 hT hS3 => ?_
                obtain ⟨y0, y1, y2, y3, y4⟩ := cells5 c1
                refine bodyPost_ret (v := .agg #[.int .i64 2, .int .i64 o.tag, .slice none 0 0, .string s, .bool true]) (by simp [results, Tryz.results60, go_sem, y0, y1, y2, y3, y4]) rfl ?_
                refine ⟨none, 0, by rw [HF6.out, HS6.out, HK6.out], ?_, Turn.after (HX8.out.trans HXK.out) hT (by simp)⟩
                rw [HF6.out]
                exact HO9.out.turn hT (fun b hb hm => by rw [List.mem_singleton.1 hm] at hb; exact HO9.out.not_at k9 (by decide) hb)
    · have k2 : (kd == 2) = false := beq_false_of_ne h2
      obtain rfl : bl = sz := HB2.out.2 h2
      obtain ⟨hof1, hof2⟩ := HOF.out h2
      have HOF1 := Lib.hid hof1
      have HOF2 := Lib.hid hof2
      clear h2 hof1 hof2
      have hrd : (S.map wordC).drop (at_ + 1) = r.map wordC := by rw [← List.map_drop, ← List.drop_drop, HSR.out]; rfl
      obtain ⟨q', hcut, hrow⟩ := (HW.out W2 HX.out).cut E64 (lo := at_ + 1) (hi := at_ + 1 + bl) (by omega) (by omega)
      rw [hrd, show at_ + 1 + bl - (at_ + 1) = bl by omega] at hrow
      have hcut2 : ∀ W, (Instr.slice 22 (.slice (some ⟨ab, ao, none⟩) S.length c) (some (.int .i64 ((at_ : Int) + 1))) (some (.int .i64 ((at_ : Int) + 1 + (bl : Int)))) none).run Tryz.prog W = .ok (.slice q' bl (c - (at_ + 1))) W := by
        intro W
        have := hcut W
        rw [show at_ + 1 + bl - (at_ + 1) = bl by omega] at this
        exact_mod_cast this
      have HROW := Lib.hid hrow
      clear hrd hcut hrow
      go_upto_region 18 with fail
      go_wp2_with (refine wpList_append_rows E64 (by rfl) _ _ (by rfl) W2.heap.size (.slice (some ⟨W2.heap.size, 0, none⟩) 0 0) (.slice q' bl (c - (at_ + 1))) [] ((r.map wordC).take bl) (by rfl) (empty_own W2 _ 1 _ (Nat.le_refl _)) (by rfl) (HROW.out.ext (Ext.alloc _ _)) (by simp; unfold maxLen; omega) (by simp; omega) (by simp) ?_)
      intro v5 w5 ho5 hg5 _ _
      have hA := Ext.alloc W2 (.cells #[] 51)
      have hX5 : Ext W2 w5 := grown_ext hA hg5 (by intro b e; simp [Value.ownBlock] at e; omega) (by simp)
      have c5' := (Below.block hX5 (w.heap.size + 1) hlw).trans b2
      have k5 := (Below.block hX5 w.heap.size (by omega)).trans b1
      obtain ⟨q5, c5, hv5, _, _⟩ := ho5.len
      have hl5 : ((r.map wordC).take bl).length = bl := by rw [List.length_take, List.length_map]; omega
      rw [hl5] at hv5
      subst hv5
      have HO5 := Lib.hid (show OwnP w5 w.heap.size 51 (.slice q5 bl c5) 1 (o.fields.map wordC) by rw [HOF1.out, List.map_take]; exact ho5.mono (by omega))
      have HX5 := Lib.hid (HX.out.trans hX5)
      have HF6 : Hid (o.fields.length = bl) := by show _ = _; rw [HOF1.out, List.length_take]; omega
      have HS6 : Hid (o.text = ⟨#[]⟩) := HOF2.out
      subst hokd hotg
      clear ho5 hg5 hA hX5 hl5 b1 b2 z0 z1 z2 z3
      obtain ⟨z0, z1, z2, z3⟩ := cells4 c5'
      have f2 := free_at c5' (i := 2)
      go_upto_region 19 with fail
      refine wp_fill1 c5' fun W6 hb6 hT6 hS6 => ?_
      have c6 : W6.heap[w.heap.size + 1]? = some (.cells #[.int .i64 o.kind, .int .i64 o.tag, .slice q5 bl c5, .string ⟨#[]⟩] 55 (0, 0)) := hb6
      have k6 := (hT6.block w.heap.size (Array.getElem?_eq_some_iff.1 k5).1 (by simp)).trans k5
      have HX6 := Lib.hid (Turn.after HX5.out hT6 (by simp))
      have HO6 := Lib.hid (HO5.out.turn hT6 (fun b hb hm => by rw [List.mem_singleton.1 hm] at hb; exact HO5.out.not_at c5' (by decide) hb))
      clear hb6 hT6 hS6 c5' k5 z0 z1 z2 z3 f2
      have hmay := fun W => refmay_is o.kind o.tag bl c5 q5 ⟨#[]⟩ W
      have hm6 : mayK o.kind o.tag bl (⟨#[]⟩ : ByteArray).size = mayO o := by unfold mayO; rw [HF6.out, HS6.out]
      rw [hm6] at hmay
      generalize hmm : mayO o = mm at hmay
      have HMM := Lib.hid hmm
      have HMAY := Lib.hid hmay
      clear hm6 hmay hmm
      obtain ⟨z0, z1, z2, z3⟩ := cells4 c6
      go_wp2_with fail
      refine (HMAY.out _).mono ?_
      rintro e w7 ⟨rfl, hx7⟩
      have c7 := (Below.block hx7 (w.heap.size + 1) (Array.getElem?_eq_some_iff.1 c6).1).trans c6
      have k7 := (Below.block hx7 w.heap.size (Array.getElem?_eq_some_iff.1 k6).1).trans k6
      have HX7 := Lib.hid (HX6.out.trans hx7)
      have HO7 := Lib.hid (HO6.out.ext hx7)
      clear hx7 z0 z1 z2 z3 c6 k6
      cases mm
      · have hno : RR = none := by rw [← HRR2.out, if_neg (fun h => by rw [HMM.out] at h; cases h.1)]
        subst hno
        obtain ⟨y0, y1, y2, y3, y4⟩ := cells5 k7
        have f0 := free_at k7 (i := 0)
        have f1 := free_at k7 (i := 1)
        have f2 := free_at k7 (i := 2)
        have f3 := free_at k7 (i := 3)
        have f4 := free_at k7 (i := 4)
        go_wp2
        refine post_fill5 k7 fun W3 c1 hT hS3 => ?_
        obtain ⟨y0, y1, y2, y3, y4⟩ := cells5 c1
        refine bodyPost_ret (v := zeroRV) (by simp [results, Tryz.results60, go_sem, y0, y1, y2, y3, y4, zeroRV]; rfl) rfl ⟨rfl, ?_⟩
        exact Turn.after HX7.out hT (by simp)
      · have hlay : ∀ W, Ext w7 W → Calls Tryz.prog 36 #[.agg #[.int .i64 o.kind, .int .i64 o.tag, .slice q5 bl c5, .string ⟨#[]⟩]] W fun e w' => ∃ v, e = .returned v ∧ OwnP w' W.heap.size 51 v 1 ((layO o).map wordC) ∧ Ext W w' := fun W e => by
          have := lay_is o HMM.out c5 q5 W (by rw [HF6.out]; exact (HO7.out.ext e).p)
          rw [HF6.out, HS6.out] at this
          exact this
        have HLAY := Lib.hid hlay
        have hll : (layO o).length = wordsO o := by have := body_len HMM.out; unfold layO; rw [List.length_cons]; omega
        have hwn : wordsO o = 1 + bl := by
          have h1 := body_len HMM.out
          rw [← h1]
          unfold bodyO; rw [if_neg (by intro h; rw [h] at k2; simp at k2), HF6.out]
        rw [hwn] at hll
        have HWN := Lib.hid hwn
        obtain ⟨LO, hLO⟩ : ∃ LO, LO = layO o := ⟨_, rfl⟩
        rw [← hLO] at HLAY hll
        have HLO := Lib.hid hLO
        have HLL := Lib.hid hll
        clear hlay hll hwn hLO
        obtain ⟨z0, z1, z2, z3⟩ := cells4 c7
        go_wp2_with fail
        refine (HLAY.out _ (Ext.refl _)).mono ?_
        rintro e w8 ⟨vl, rfl, hol, hx8⟩
        have c8 := (Below.block hx8 (w.heap.size + 1) (Array.getElem?_eq_some_iff.1 c7).1).trans c7
        have k8 := (Below.block hx8 w.heap.size (Array.getElem?_eq_some_iff.1 k7).1).trans k7
        have HX8 := Lib.hid (HX7.out.trans hx8)
        have HO8 := Lib.hid (HO7.out.ext hx8)
        obtain ⟨gl, cl, hvl, hcl⟩ : ∃ gl cl, vl = .slice (some ⟨gl, 0, none⟩) (1 + bl) cl ∧ ∀ (i : Nat) (x : Int), LO[i]? = some x → w8.cell? ⟨gl, i, none⟩ = some (.int .u64 x) := by
          obtain ⟨q9, c9, hv9, _, _⟩ := hol.len
          rw [List.length_map, HLL.out] at hv9
          subst hv9
          obtain ⟨lo0, h1⟩ : ∃ x, LO[0]? = some x := ⟨_, List.getElem?_eq_getElem (by rw [HLL.out]; omega)⟩
          obtain ⟨g9, hq9, _⟩ := hol.cell (i := 0) (cs := wordC lo0) (by rw [List.getElem?_map, h1]; rfl) (f := 0) rfl
          subst hq9
          refine ⟨g9, c9, rfl, fun i x hx => ?_⟩
          obtain ⟨g8, hq8, _, hc8, _⟩ := hol.cell (i := i) (cs := wordC x) (by rw [List.getElem?_map, hx]; rfl) (f := 0) rfl
          obtain ⟨rfl, _⟩ := Addr.mk.inj (Option.some.inj hq8)
          rw [Nat.mul_one, Nat.add_zero] at hc8
          exact hc8
        subst hvl
        have HCL := Lib.hid hcl
        clear hx8 hol z0 z1 z2 z3 c7 k7 hcl
        go_wp2_with fail
        go_loopw [12] (fun i wr => ∃ k : Nat, k ≤ 1 + bl ∧ i = .int .i64 k ∧ Hid (LO.take k = (hd :: r).take k) ∧ Ext w8 wr) (fun i _ => 1 + bl - (Go.RowKit.intOf i).toNat)
        case atStart => exact ⟨0, Nat.zero_le _, rfl, Lib.hid rfl, Ext.refl _⟩
        case round =>
          obtain ⟨k, hk, rfl, HEQ, hxk⟩ := hrel
          have HXK := Lib.hid hxk
          have c9 := (Below.block hxk (w.heap.size + 1) (Array.getElem?_eq_some_iff.1 c8).1).trans c8
          have k9 := (Below.block hxk w.heap.size (Array.getElem?_eq_some_iff.1 k8).1).trans k8
          have HO9 := Lib.hid (HO8.out.ext hxk)
          clear hxk c8 k8
          by_cases hkl : k < 1 + bl
          · have i1 : (k : Int) < 1 + (bl : Int) := by omega
            obtain ⟨xa, hxa⟩ : ∃ x, LO[k]? = some x := ⟨_, List.getElem?_eq_getElem (by rw [HLL.out]; exact hkl)⟩
            obtain ⟨xb, hxb⟩ : ∃ x, (hd :: r)[k]? = some x := ⟨_, List.getElem?_eq_getElem (by rw [List.length_cons]; omega)⟩
            have p1 := HXK.out.cell (HCL.out k xa hxa)
            have p2 : wr.cell? ⟨ab, ao + (at_ + k), none⟩ = some (.int .u64 xb) := by
              obtain ⟨qz, cz, hvz, _, _, hcz⟩ := (HW.out wr (HX8.out.trans HXK.out)).at
              have hxs : S[at_ + k]? = some xb := by rw [← List.getElem?_drop, HSR.out]; exact hxb
              obtain ⟨bz, oz, hqz, hfz⟩ := hcz (at_ + k) (wordC xb) (by rw [List.getElem?_map, hxs]; rfl)
              obtain ⟨hq1, _, _⟩ := Value.slice.inj hvz
              rw [hqz] at hq1
              obtain ⟨rfl, rfl, _⟩ := Addr.mk.inj (Option.some.inj hq1)
              have := hfz 0 _ rfl
              rw [Nat.mul_one, Nat.add_zero] at this
              exact this
            have i2 : (0 : Int) ≤ (at_ : Int) + (k : Int) := by omega
            have i3 : (at_ : Int) + (k : Int) < (S.length : Int) := by omega
            have i4 : IntKind.i64.wrap ((at_ : Int) + (k : Int)) = (at_ : Int) + (k : Int) := IntWalk.i64_in _ (by omega)
            have i5 : ((at_ : Int) + (k : Int)).toNat = at_ + k := by omega
            have HXA := Lib.hid hxa
            have HXB := Lib.hid hxb
            clear hxa hxb
            by_cases hab : xa = xb
            · subst hab
              go_wp2_with fail
              go_big_quiet (fail)
              go_wp2
              refine ⟨⟨k + 1, by omega, by go_num, ?_, HXK.out.trans (Ext.drewN _ _)⟩, by simp [Go.RowKit.intOf]; omega⟩
              obtain ⟨h1, h2⟩ := List.getElem?_eq_some_iff.1 HXA.out
              obtain ⟨h3, h4⟩ := List.getElem?_eq_some_iff.1 HXB.out
              show _ = _
              rw [List.take_succ_eq_append_getElem h1, List.take_succ_eq_append_getElem h3, HEQ.out, h2, h4]
            · have i6 : (xa == xb) = false := beq_false_of_ne hab
              have i7 : (xa != xb) = true := by rw [bne, i6]; rfl
              have hno : RR = none := by
                rw [← HRR2.out, ← HLO.out, if_neg]
                rintro ⟨_, h2⟩
                apply hab
                have h3 := HXA.out
                rw [h2, List.getElem?_take_of_lt (by rw [HWN.out]; exact hkl), HXB.out] at h3
                exact (Option.some.inj h3).symm
              subst hno
              clear hab
              go_wp2_with fail
              go_big_quiet (fail)
              obtain ⟨y0, y1, y2, y3, y4⟩ := cells5 k9
              have f0 := free_at k9 (i := 0)
              have f1 := free_at k9 (i := 1)
              have f2 := free_at k9 (i := 2)
              have f3 := free_at k9 (i := 3)
              have f4 := free_at k9 (i := 4)
              go_wp2
              refine post_fill5 (w := wr.drewN _) k9 fun W3 c1 hT hS3 => ?_
              obtain ⟨y0, y1, y2, y3, y4⟩ := cells5 c1
              refine bodyPost_ret (v := zeroRV) (by simp [results, Tryz.results60, go_sem, y0, y1, y2, y3, y4, zeroRV]; rfl) rfl ⟨rfl, ?_⟩
              exact Turn.after ((HX8.out.trans HXK.out).trans (Ext.drewN _ _)) hT (by simp)
          · obtain rfl : k = 1 + bl := by omega
            have i1 : ¬ ((1 + bl : Nat) : Int) < 1 + (bl : Int) := by omega
            have hyes : RR = some o := by
              rw [← HRR2.out, ← HLO.out, if_pos]
              refine ⟨HMM.out, ?_⟩
              rw [HWN.out, ← HEQ.out, List.take_of_length_le (by rw [HLL.out]; omega)]
            subst hyes
            obtain ⟨z0, z1, z2, z3⟩ := cells4 c9
            obtain ⟨y0, y1, y2, y3, y4⟩ := cells5 k9
            have f0 := free_at k9 (i := 0)
            have f1 := free_at k9 (i := 1)
            have f2 := free_at k9 (i := 2)
            have f3 := free_at k9 (i := 3)
            have f4 := free_at k9 (i := 4)
            go_wp2
            refine post_fill5 k9 fun W3 c1 hT hS3 => ?_
            obtain ⟨y0, y1, y2, y3, y4⟩ := cells5 c1
            refine bodyPost_ret (v := .agg #[.int .i64 o.kind, .int .i64 o.tag, .slice q5 bl c5, .string ⟨#[]⟩, .bool true]) (by simp [results, Tryz.results60, go_sem, y0, y1, y2, y3, y4]) rfl ?_
            refine ⟨q5, c5, by rw [HF6.out, HS6.out], ?_, Turn.after (HX8.out.trans HXK.out) hT (by simp)⟩
            rw [HF6.out]
            exact HO9.out.turn hT (fun b hb hm => by rw [List.mem_singleton.1 hm] at hb; exact HO9.out.not_at k9 (by decide) hb)
  · have hno : RR = none := by rw [← hRR]; refine if_neg fun h => hc ⟨h.1, ?_⟩; rw [hbl, ← hkd]; exact h.2.1
    subst hno
    have HC : Hid (400 < sz ∨ (sz ≤ 400 ∧ r.length < bl)) := by show 400 < sz ∨ (sz ≤ 400 ∧ r.length < bl); omega
    clear hyc hcell hRR HRR hS hx0 hva hR h64 hr64 hw hc htg
    by_cases h2 : kd = 2
    · have hb2 : bl = (sz + 7) / 8 := by rw [hbl, h2]; rfl
      subst h2
      have k2 : ((sz : Int) + 7) / 8 = (bl : Int) := by omega
      have HB2 := Lib.hid hb2
      clear hbl hb2
      rcases HC.out with h4 | ⟨h4, h5⟩
      · have d2 : decide ((400 : Int) < (sz : Int)) = true := decide_eq_true (by omega)
        go_enter Tryz.func60, Tryz.ntmps60
        go_upto_region 1 with fail
        refine wp_alloc1 fun W hE hS b0 => ?_
        have hy1 := hE.cell hy0
        go_upto_region 5 with fail
        refine wp_alloc1 fun W2 hE2 hS2 b2 => ?_
        have b1 := (Below.block hE2 w.heap.size (by omega)).trans b0
        have HX := Lib.hid (hE.trans hE2)
        have hws : w.heap.size + 1 = W.heap.size := by omega
        rw [← hws] at b2
        clear hE hE2 b0 hy0 hy1 hws
        obtain ⟨y0, y1, y2, y3, y4⟩ := cells5 b1
        have f0 := free_at b1 (i := 0)
        have f1 := free_at b1 (i := 1)
        have f2 := free_at b1 (i := 2)
        have f3 := free_at b1 (i := 3)
        have f4 := free_at b1 (i := 4)
        obtain ⟨z0, z1, z2, z3⟩ := cells4 b2
        go_wp2
        refine post_fill5 b1 fun W3 c1 hT hS3 => ?_
        obtain ⟨y0, y1, y2, y3, y4⟩ := cells5 c1
        refine bodyPost_ret (v := zeroRV) (by simp [results, Tryz.results60, go_sem, y0, y1, y2, y3, y4, zeroRV]; rfl) rfl ⟨rfl, ?_⟩
        exact Turn.after HX.out hT (by simp)
      · have d2 : decide ((400 : Int) < (sz : Int)) = false := decide_eq_false (by omega)
        have d3 : (S.length : Int) - (at_ : Int) - 1 < (bl : Int) := by omega
        go_enter Tryz.func60, Tryz.ntmps60
        go_upto_region 1 with fail
        refine wp_alloc1 fun W hE hS b0 => ?_
        have hy1 := hE.cell hy0
        go_upto_region 5 with fail
        refine wp_alloc1 fun W2 hE2 hS2 b2 => ?_
        have b1 := (Below.block hE2 w.heap.size (by omega)).trans b0
        have HX := Lib.hid (hE.trans hE2)
        have hws : w.heap.size + 1 = W.heap.size := by omega
        rw [← hws] at b2
        clear hE hE2 b0 hy0 hy1 hws
        obtain ⟨y0, y1, y2, y3, y4⟩ := cells5 b1
        have f0 := free_at b1 (i := 0)
        have f1 := free_at b1 (i := 1)
        have f2 := free_at b1 (i := 2)
        have f3 := free_at b1 (i := 3)
        have f4 := free_at b1 (i := 4)
        obtain ⟨z0, z1, z2, z3⟩ := cells4 b2
        go_wp2
        refine post_fill5 b1 fun W3 c1 hT hS3 => ?_
        obtain ⟨y0, y1, y2, y3, y4⟩ := cells5 c1
        refine bodyPost_ret (v := zeroRV) (by simp [results, Tryz.results60, go_sem, y0, y1, y2, y3, y4, zeroRV]; rfl) rfl ⟨rfl, ?_⟩
        exact Turn.after HX.out hT (by simp)
    · have hb2 : bl = sz := by rw [hbl]; exact if_neg h2
      subst hb2
      have k3 : (kd == 2) = false := beq_false_of_ne h2
      clear hbl h2
      rcases HC.out with h4 | ⟨h4, h5⟩
      · have d2 : decide ((400 : Int) < (bl : Int)) = true := decide_eq_true (by omega)
        go_enter Tryz.func60, Tryz.ntmps60
        go_upto_region 1 with fail
        refine wp_alloc1 fun W hE hS b0 => ?_
        have hy1 := hE.cell hy0
        go_upto_region 5 with fail
        refine wp_alloc1 fun W2 hE2 hS2 b2 => ?_
        have b1 := (Below.block hE2 w.heap.size (by omega)).trans b0
        have HX := Lib.hid (hE.trans hE2)
        have hws : w.heap.size + 1 = W.heap.size := by omega
        rw [← hws] at b2
        clear hE hE2 b0 hy0 hy1 hws
        obtain ⟨y0, y1, y2, y3, y4⟩ := cells5 b1
        have f0 := free_at b1 (i := 0)
        have f1 := free_at b1 (i := 1)
        have f2 := free_at b1 (i := 2)
        have f3 := free_at b1 (i := 3)
        have f4 := free_at b1 (i := 4)
        obtain ⟨z0, z1, z2, z3⟩ := cells4 b2
        go_wp2
        refine post_fill5 b1 fun W3 c1 hT hS3 => ?_
        obtain ⟨y0, y1, y2, y3, y4⟩ := cells5 c1
        refine bodyPost_ret (v := zeroRV) (by simp [results, Tryz.results60, go_sem, y0, y1, y2, y3, y4, zeroRV]; rfl) rfl ⟨rfl, ?_⟩
        exact Turn.after HX.out hT (by simp)
      · have d2 : decide ((400 : Int) < (bl : Int)) = false := decide_eq_false (by omega)
        have d3 : (S.length : Int) - (at_ : Int) - 1 < (bl : Int) := by omega
        go_enter Tryz.func60, Tryz.ntmps60
        go_upto_region 1 with fail
        refine wp_alloc1 fun W hE hS b0 => ?_
        have hy1 := hE.cell hy0
        go_upto_region 5 with fail
        refine wp_alloc1 fun W2 hE2 hS2 b2 => ?_
        have b1 := (Below.block hE2 w.heap.size (by omega)).trans b0
        have HX := Lib.hid (hE.trans hE2)
        have hws : w.heap.size + 1 = W.heap.size := by omega
        rw [← hws] at b2
        clear hE hE2 b0 hy0 hy1 hws
        obtain ⟨y0, y1, y2, y3, y4⟩ := cells5 b1
        have f0 := free_at b1 (i := 0)
        have f1 := free_at b1 (i := 1)
        have f2 := free_at b1 (i := 2)
        have f3 := free_at b1 (i := 3)
        have f4 := free_at b1 (i := 4)
        obtain ⟨z0, z1, z2, z3⟩ := cells4 b2
        go_wp2
        refine post_fill5 b1 fun W3 c1 hT hS3 => ?_
        obtain ⟨y0, y1, y2, y3, y4⟩ := cells5 c1
        refine bodyPost_ret (v := zeroRV) (by simp [results, Tryz.results60, go_sem, y0, y1, y2, y3, y4, zeroRV]; rfl) rfl ⟨rfl, ?_⟩
        exact Turn.after HX.out hT (by simp)
end Go.Proofs.YtinakendlpomnaaGreat
/- A heap's semispace (the reference's). -/
namespace Go.Proofs.YtinakendlpomnaaGreat
open Go.RowKit Go.Maps Arena
set_option maxHeartbeats 4000000
set_option maxRecDepth 100000
def refSize (R : List (Nat × Nat)) (x : Int) : Int := if lenAt R x = 0 then -1 else lenAt R x
theorem size_is {w : World} {q gq B n : Nat} {ws : List Int} {vR : Value} {R : List (Nat × Nat)} {x : Int} (h : RefAt w q gq B n ws vR R) : Calls Tryz.prog 48 #[.pointer (some ⟨q, 0, none⟩), .int .i64 x] w fun e w' => e = .returned (.int .i64 (refSize R x)) ∧ w = w' := by
  unfold refSize
  by_cases h0 : lenAt R x = 0
  · rw [if_pos h0]; exact size_no h h0
  · rw [if_neg h0]
    obtain ⟨i, hi, rfl, hl⟩ := lenAt_some' h.good h0
    rw [hl]
    exact size_yes h (List.getElem_mem hi)
/-- the semispace's value -/
def semiV (gq : Nat) (R : List (Nat × Nat)) (h : Hp) : Value := if thereB R h = true then .slice (some ⟨gq, h.base.toNat + (if h.top = 0 then 0 else firstN h), none⟩) h.top.toNat h.top.toNat else .slice none 0 0
theorem semiV_no {gq : Nat} {R : List (Nat × Nat)} {h : Hp} (hn : ¬ (hpOK h ∧ (lenAt R h.base : Int) = 2 * h.half)) : semiV gq R h = .slice none 0 0 := by
  unfold semiV
  rw [if_neg (fun ht => hn (thereB_ok ht))]
theorem semi_yes {w : World} {q gq B n : Nat} {ws : List Int} {vR : Value} {R : List (Nat × Nat)} (H : RefAt w q gq B n ws vR R) (h : Hp) (sv : Int) (hsv : sv = refSize R h.base) (HS : Hid (∀ W, Ext w W → Calls Tryz.prog 48 #[.pointer (some ⟨q, 0, none⟩), .int .i64 h.base] W fun e w' => e = .returned (.int .i64 sv) ∧ W = w')) (hok : hpOK h) (h2 : sv = 2 * h.half) :
    Calls Tryz.prog 59 #[.pointer (some ⟨q, 0, none⟩), .agg #[.int .i64 h.base, .int .i64 h.half, .int .i64 h.space, .int .i64 h.top]] w fun e w' => e = .returned (semiV gq R h) ∧ Ext w w' := by
  have hla : (lenAt R h.base : Int) = 2 * h.half := by have := hok.1; rw [hsv] at h2; unfold refSize at h2; split at h2 <;> omega
  have hth : thereB R h = true := by unfold thereB; rw [decide_eq_true hok, decide_eq_true hla]; rfl
  have hsemi : semiV gq R h = .slice (some ⟨gq, h.base.toNat + (if h.top = 0 then 0 else firstN h), none⟩) h.top.toNat h.top.toNat := by unfold semiV; rw [if_pos hth]
  rw [hsemi]
  have hfi := firstN_is hok
  have hnl := H.least
  obtain ⟨h0, h1, h3, h4, h5, h6⟩ := hok
  obtain ⟨i, hi, hri, hlr⟩ := lenAt_some' H.good (x := h.base) (by omega)
  have hbr := H.good.2 R[i] (List.getElem_mem hi)
  have hWW : ∀ W, Ext w W → Calls Tryz.prog 32 #[.pointer (some ⟨q, 0, none⟩), .int .i64 h.base] W fun e w' => e = .returned (.slice (some ⟨gq, R[i].1, none⟩) R[i].2 (n - R[i].1)) ∧ W = w' := fun W e => by
    rw [← hri]
    exact refwords_yes (H.ext e) (List.getElem_mem hi)
  obtain ⟨f, hf⟩ : ∃ f, f = firstN h := ⟨_, rfl⟩
  rw [← hf] at hfi ⊢
  obtain ⟨tp, htp⟩ := Int.eq_ofNat_of_zero_le h5
  obtain ⟨rl, hrl⟩ : ∃ rl, rl = R[i].2 := ⟨_, rfl⟩
  obtain ⟨rb, hrb⟩ : ∃ rb, rb = R[i].1 := ⟨_, rfl⟩
  rw [← hrl, ← hrb] at hWW hbr
  rw [← hrb] at hri
  rw [← hrl] at hlr
  obtain ⟨hf1, hf2, hf3⟩ := hfi
  obtain ⟨hb1, hb2⟩ := hbr
  clear hrl hrb hf
  have hm : IntKind.i64.wrap (h.space * h.half) = (f : Int) := by rw [IntWalk.i64_in _ (by omega)]; omega
  have hm2 : IntKind.i64.wrap ((f : Int) + h.top) = (f : Int) + (tp : Int) := by rw [IntWalk.i64_in _ (by omega)]; omega
  have hbn : h.base.toNat = rb := by omega
  have hb3 : f + tp ≤ n - rb := by omega
  have hsl : ∀ W, (Instr.slice 22 (.slice (some ⟨gq, rb, none⟩) rl (n - rb)) (some (.int .i64 (f : Int))) (some (.int .i64 ((f : Int) + (tp : Int)))) (some (.int .i64 ((f : Int) + (tp : Int))))).run Tryz.prog W = .ok (.slice (some ⟨gq, rb + (if tp = 0 then 0 else f), none⟩) tp tp) W := by
    intro W
    rw [show (f : Int) + (tp : Int) = ((f + tp : Nat) : Int) by omega]
    obtain ⟨z, hinfo, _⟩ := E64.info
    obtain ⟨i0, hi0, hz0, hz1, hz2⟩ := info_parts hinfo
    have hel : Tryz.prog.elem 22 = 51 := by simp [Program.elem, E64.under]
    have hsz : (sizeOf (Tryz.prog.elem 22)).run Tryz.prog W = .ok 1 W := by rw [hel]; simp [sizeOf, typeInfo, hi0, hz1]
    rw [run_slice_lhm W 22 (some ⟨gq, rb, none⟩) rl (n - rb) (by rw [hel]; exact E64.under) .i64 .i64 .i64 f ((f + tp : Nat) : Int) ((f + tp : Nat) : Int) (by omega) (by omega) (by omega) (by omega), hsz]
    rw [Result.andThen_ok, Int.toNat_natCast, Int.toNat_natCast]
    unfold sliced
    by_cases ht0 : tp = 0
    · subst ht0
      simp
    · rw [if_neg (by omega), if_neg ht0, Option.map_some, Go.WideShapes.add_plain, Nat.mul_one, Nat.add_sub_cancel_left]
  have hti : (if h.top = 0 then 0 else f) = if tp = 0 then 0 else f := by
    by_cases ht0 : tp = 0
    · rw [if_pos ht0, if_pos (by omega)]
    · rw [if_neg ht0, if_neg (by omega)]
  have hpv : (.slice (some ⟨gq, h.base.toNat + (if h.top = 0 then 0 else f), none⟩) h.top.toNat h.top.toNat : Value) = .slice (some ⟨gq, rb + (if tp = 0 then 0 else f), none⟩) tp tp := by rw [hbn, hti, show h.top.toNat = tp by omega]
  rw [hpv]
  generalize rb + (if tp = 0 then 0 else f) = pl at hsl ⊢
  have b0 : decide (h.half < 8) = false := decide_eq_false (by omega)
  have b1 : decide (2000 < h.half) = false := decide_eq_false (by omega)
  have b2 : (sv != 2 * h.half) = false := by rw [h2]; simp
  have b3 : decide (h.space < 0) = false := decide_eq_false (by omega)
  have b4 : decide (1 < h.space) = false := decide_eq_false (by omega)
  have b5 : decide (h.top < 0) = false := decide_eq_false (by omega)
  have b6 : decide (h.half < h.top) = false := decide_eq_false (by omega)
  have HWW := Lib.hid hWW; have HSL := Lib.hid hsl; have HM := Lib.hid hm; have HM2 := Lib.hid hm2
  clear hsv hla hth hsemi hri hlr hb1 hb2 hf1 hf2 hf3 hWW htp hm hm2 hsl H hti hpv hbn hb3 hi hnl h2
  go_enter Tryz.func59, Tryz.ntmps59
  go_upto_region 1 with fail
  refine wp_alloc1 fun W hE _ c0 => ?_
  obtain ⟨x0, x1, x2, x3⟩ := cells4 c0
  have r0 := fun d os => cell_regrown x0 d os
  have r1 := fun d os => cell_regrown x1 d os
  have r2 := fun d os => cell_regrown x2 d os
  have r3 := fun d os => cell_regrown x3 d os
  have CS := Lib.hid (fun d os => quiet_same (HS.out (Go.Sort.grow (redrawn W d) os) (hE.trans (Ext.regrown W d os))))
  have HE := Lib.hid hE
  clear hE x0 x1 x2 x3
  refine wp_region_quiet_below (by kernel_rfl) (by kernel_rfl) ?_
  repeat (first | go_big_quiet_step (exact CS.out _ _) | quiet_step (exact CS.out _ _))
  refine wpQuiet_nil ?_
  intro _ hw'
  obtain ⟨⟨dq, osq⟩, hw''⟩ := hw'
  subst hw''
  clear r0 r1 r2 r3
  obtain ⟨W5, hW5, hx5⟩ : ∃ W5, W5 = Go.Sort.grow (redrawn W dq) osq ∧ Ext W W5 := ⟨_, rfl, Ext.regrown W dq osq⟩
  rw [← hW5]
  clear hW5
  have c5 := (Below.block hx5 w.heap.size (Array.getElem?_eq_some_iff.1 c0).1).trans c0
  have HE5 := Lib.hid (HE.out.trans hx5)
  clear hx5 c0
  obtain ⟨x0, x1, x2, x3⟩ := cells4 c5
  go_upto_region 3 with fail
  have r0 := fun d os => cell_regrown x0 d os
  have r1 := fun d os => cell_regrown x1 d os
  have r2 := fun d os => cell_regrown x2 d os
  have r3 := fun d os => cell_regrown x3 d os
  have CW := Lib.hid (fun d os => quiet_same (HWW.out (Go.Sort.grow (redrawn W5 d) os) (HE5.out.trans (Ext.regrown W5 d os))))
  clear b0 b1 b2 b3 b4 b5 b6
  have hm := HM.out; have hm2 := HM2.out; have hsl := HSL.out
  clear x0 x1 x2 x3
  refine wp_region_quiet_below (by kernel_rfl) (by kernel_rfl) ?_
  repeat (first | go_big_quiet_step (exact CW.out _ _) | quiet_step (exact CW.out _ _))
  refine wpQuiet_nil ?_
  intro _ hw'
  obtain ⟨⟨dq, osq⟩, hw''⟩ := hw'
  subst hw''
  have HXQ := Lib.hid (HE5.out.trans (Ext.regrown W5 dq osq))
  clear r0 r1 r2 r3 hm hm2 hsl
  go_wp2
  go_ret
  exact ⟨rfl, HXQ.out⟩
theorem semi_is {w : World} {q gq B n : Nat} {ws : List Int} {vR : Value} {R : List (Nat × Nat)} (H : RefAt w q gq B n ws vR R) (h : Hp) :
    Calls Tryz.prog 59 #[.pointer (some ⟨q, 0, none⟩), .agg #[.int .i64 h.base, .int .i64 h.half, .int .i64 h.space, .int .i64 h.top]] w fun e w' => e = .returned (semiV gq R h) ∧ Ext w w' := by
  have HS := Lib.hid (fun W (e : Ext w W) => size_is (x := h.base) (H.ext e))
  obtain ⟨sv, hsv⟩ : ∃ sv, sv = refSize R h.base := ⟨_, rfl⟩
  rw [← hsv] at HS
  by_cases h0 : 8 ≤ h.half
  · by_cases h1 : h.half ≤ 2000
    · by_cases h2 : sv = 2 * h.half
      · by_cases h3 : 0 ≤ h.space
        · by_cases h4 : h.space ≤ 1
          · by_cases h5 : 0 ≤ h.top
            · by_cases h6 : h.top ≤ h.half
              · have b0 : decide (h.half < 8) = false := decide_eq_false (by omega)
                have b1 : decide (2000 < h.half) = false := decide_eq_false (by omega)
                have b2 : (sv != 2 * h.half) = false := by rw [h2]; simp
                have b3 : decide (h.space < 0) = false := decide_eq_false (by omega)
                have b4 : decide (1 < h.space) = false := decide_eq_false (by omega)
                have b5 : decide (h.top < 0) = false := decide_eq_false (by omega)
                have b6 : decide (h.half < h.top) = false := decide_eq_false (by omega)
                exact semi_yes H h sv hsv HS ⟨h0, h1, h3, h4, h5, h6⟩ h2
              · rw [semiV_no (fun hh => by have := hh.1; have := hh.2; unfold hpOK at *; omega)]
                have b0 : decide (h.half < 8) = false := decide_eq_false (by omega)
                have b1 : decide (2000 < h.half) = false := decide_eq_false (by omega)
                have b2 : (sv != 2 * h.half) = false := by rw [h2]; simp
                have b3 : decide (h.space < 0) = false := decide_eq_false (by omega)
                have b4 : decide (1 < h.space) = false := decide_eq_false (by omega)
                have b5 : decide (h.top < 0) = false := decide_eq_false (by omega)
                have b6 : decide (h.half < h.top) = true := decide_eq_true (by omega)
                clear hsv
                go_enter Tryz.func59, Tryz.ntmps59
                go_upto_region 1 with fail
                refine wp_alloc1 fun W hE _ c0 => ?_
                obtain ⟨x0, x1, x2, x3⟩ := cells4 c0
                have r0 := fun d os => cell_regrown x0 d os
                have r1 := fun d os => cell_regrown x1 d os
                have r2 := fun d os => cell_regrown x2 d os
                have r3 := fun d os => cell_regrown x3 d os
                have CS := Lib.hid (fun d os => quiet_same (HS.out (Go.Sort.grow (redrawn W d) os) (hE.trans (Ext.regrown W d os))))
                have HE := Lib.hid hE
                clear hE x0 x1 x2 x3
                refine wp_region_quiet_below (by kernel_rfl) (by kernel_rfl) ?_
                repeat (first | go_big_quiet_step (exact CS.out _ _) | quiet_step (exact CS.out _ _))
                refine wpQuiet_nil ?_
                intro _ hw'
                obtain ⟨⟨dq, osq⟩, hw''⟩ := hw'
                subst hw''
                have HXQ := Lib.hid (HE.out.trans (Ext.regrown W dq osq))
                clear r0 r1 r2 r3
                go_wp2
                go_ret
                exact ⟨rfl, HXQ.out⟩
            · rw [semiV_no (fun hh => by have := hh.1; have := hh.2; unfold hpOK at *; omega)]
              have b0 : decide (h.half < 8) = false := decide_eq_false (by omega)
              have b1 : decide (2000 < h.half) = false := decide_eq_false (by omega)
              have b2 : (sv != 2 * h.half) = false := by rw [h2]; simp
              have b3 : decide (h.space < 0) = false := decide_eq_false (by omega)
              have b4 : decide (1 < h.space) = false := decide_eq_false (by omega)
              have b5 : decide (h.top < 0) = true := decide_eq_true (by omega)
              clear hsv
              go_enter Tryz.func59, Tryz.ntmps59
              go_upto_region 1 with fail
              refine wp_alloc1 fun W hE _ c0 => ?_
              obtain ⟨x0, x1, x2, x3⟩ := cells4 c0
              have r0 := fun d os => cell_regrown x0 d os
              have r1 := fun d os => cell_regrown x1 d os
              have r2 := fun d os => cell_regrown x2 d os
              have r3 := fun d os => cell_regrown x3 d os
              have CS := Lib.hid (fun d os => quiet_same (HS.out (Go.Sort.grow (redrawn W d) os) (hE.trans (Ext.regrown W d os))))
              have HE := Lib.hid hE
              clear hE x0 x1 x2 x3
              refine wp_region_quiet_below (by kernel_rfl) (by kernel_rfl) ?_
              repeat (first | go_big_quiet_step (exact CS.out _ _) | quiet_step (exact CS.out _ _))
              refine wpQuiet_nil ?_
              intro _ hw'
              obtain ⟨⟨dq, osq⟩, hw''⟩ := hw'
              subst hw''
              have HXQ := Lib.hid (HE.out.trans (Ext.regrown W dq osq))
              clear r0 r1 r2 r3
              go_wp2
              go_ret
              exact ⟨rfl, HXQ.out⟩
          · rw [semiV_no (fun hh => by have := hh.1; have := hh.2; unfold hpOK at *; omega)]
            have b0 : decide (h.half < 8) = false := decide_eq_false (by omega)
            have b1 : decide (2000 < h.half) = false := decide_eq_false (by omega)
            have b2 : (sv != 2 * h.half) = false := by rw [h2]; simp
            have b3 : decide (h.space < 0) = false := decide_eq_false (by omega)
            have b4 : decide (1 < h.space) = true := decide_eq_true (by omega)
            clear hsv
            go_enter Tryz.func59, Tryz.ntmps59
            go_upto_region 1 with fail
            refine wp_alloc1 fun W hE _ c0 => ?_
            obtain ⟨x0, x1, x2, x3⟩ := cells4 c0
            have r0 := fun d os => cell_regrown x0 d os
            have r1 := fun d os => cell_regrown x1 d os
            have r2 := fun d os => cell_regrown x2 d os
            have r3 := fun d os => cell_regrown x3 d os
            have CS := Lib.hid (fun d os => quiet_same (HS.out (Go.Sort.grow (redrawn W d) os) (hE.trans (Ext.regrown W d os))))
            have HE := Lib.hid hE
            clear hE x0 x1 x2 x3
            refine wp_region_quiet_below (by kernel_rfl) (by kernel_rfl) ?_
            repeat (first | go_big_quiet_step (exact CS.out _ _) | quiet_step (exact CS.out _ _))
            refine wpQuiet_nil ?_
            intro _ hw'
            obtain ⟨⟨dq, osq⟩, hw''⟩ := hw'
            subst hw''
            have HXQ := Lib.hid (HE.out.trans (Ext.regrown W dq osq))
            clear r0 r1 r2 r3
            go_wp2
            go_ret
            exact ⟨rfl, HXQ.out⟩
        · rw [semiV_no (fun hh => by have := hh.1; have := hh.2; unfold hpOK at *; omega)]
          have b0 : decide (h.half < 8) = false := decide_eq_false (by omega)
          have b1 : decide (2000 < h.half) = false := decide_eq_false (by omega)
          have b2 : (sv != 2 * h.half) = false := by rw [h2]; simp
          have b3 : decide (h.space < 0) = true := decide_eq_true (by omega)
          clear hsv
          go_enter Tryz.func59, Tryz.ntmps59
          go_upto_region 1 with fail
          refine wp_alloc1 fun W hE _ c0 => ?_
          obtain ⟨x0, x1, x2, x3⟩ := cells4 c0
          have r0 := fun d os => cell_regrown x0 d os
          have r1 := fun d os => cell_regrown x1 d os
          have r2 := fun d os => cell_regrown x2 d os
          have r3 := fun d os => cell_regrown x3 d os
          have CS := Lib.hid (fun d os => quiet_same (HS.out (Go.Sort.grow (redrawn W d) os) (hE.trans (Ext.regrown W d os))))
          have HE := Lib.hid hE
          clear hE x0 x1 x2 x3
          refine wp_region_quiet_below (by kernel_rfl) (by kernel_rfl) ?_
          repeat (first | go_big_quiet_step (exact CS.out _ _) | quiet_step (exact CS.out _ _))
          refine wpQuiet_nil ?_
          intro _ hw'
          obtain ⟨⟨dq, osq⟩, hw''⟩ := hw'
          subst hw''
          have HXQ := Lib.hid (HE.out.trans (Ext.regrown W dq osq))
          clear r0 r1 r2 r3
          go_wp2
          go_ret
          exact ⟨rfl, HXQ.out⟩
      · rw [semiV_no (fun hh => h2 (by have := hh.1; have := hh.2; unfold hpOK at *; rw [hsv]; unfold refSize; rw [if_neg (by omega)]; omega))]
        have b0 : decide (h.half < 8) = false := decide_eq_false (by omega)
        have b1 : decide (2000 < h.half) = false := decide_eq_false (by omega)
        have b2 : (sv != 2 * h.half) = true := by simpa using h2
        clear hsv
        go_enter Tryz.func59, Tryz.ntmps59
        go_upto_region 1 with fail
        refine wp_alloc1 fun W hE _ c0 => ?_
        obtain ⟨x0, x1, x2, x3⟩ := cells4 c0
        have r0 := fun d os => cell_regrown x0 d os
        have r1 := fun d os => cell_regrown x1 d os
        have r2 := fun d os => cell_regrown x2 d os
        have r3 := fun d os => cell_regrown x3 d os
        have CS := Lib.hid (fun d os => quiet_same (HS.out (Go.Sort.grow (redrawn W d) os) (hE.trans (Ext.regrown W d os))))
        have HE := Lib.hid hE
        clear hE x0 x1 x2 x3
        refine wp_region_quiet_below (by kernel_rfl) (by kernel_rfl) ?_
        repeat (first | go_big_quiet_step (exact CS.out _ _) | quiet_step (exact CS.out _ _))
        refine wpQuiet_nil ?_
        intro _ hw'
        obtain ⟨⟨dq, osq⟩, hw''⟩ := hw'
        subst hw''
        have HXQ := Lib.hid (HE.out.trans (Ext.regrown W dq osq))
        clear r0 r1 r2 r3
        go_wp2
        go_ret
        exact ⟨rfl, HXQ.out⟩
    · rw [semiV_no (fun hh => by have := hh.1; have := hh.2; unfold hpOK at *; omega)]
      have b0 : decide (h.half < 8) = false := decide_eq_false (by omega)
      have b1 : decide (2000 < h.half) = true := decide_eq_true (by omega)
      clear hsv
      go_enter Tryz.func59, Tryz.ntmps59
      go_upto_region 1 with fail
      refine wp_alloc1 fun W hE _ c0 => ?_
      obtain ⟨x0, x1, x2, x3⟩ := cells4 c0
      have r0 := fun d os => cell_regrown x0 d os
      have r1 := fun d os => cell_regrown x1 d os
      have r2 := fun d os => cell_regrown x2 d os
      have r3 := fun d os => cell_regrown x3 d os
      have CS := Lib.hid (fun d os => quiet_same (HS.out (Go.Sort.grow (redrawn W d) os) (hE.trans (Ext.regrown W d os))))
      have HE := Lib.hid hE
      clear hE x0 x1 x2 x3
      refine wp_region_quiet_below (by kernel_rfl) (by kernel_rfl) ?_
      repeat (first | go_big_quiet_step (exact CS.out _ _) | quiet_step (exact CS.out _ _))
      refine wpQuiet_nil ?_
      intro _ hw'
      obtain ⟨⟨dq, osq⟩, hw''⟩ := hw'
      subst hw''
      have HXQ := Lib.hid (HE.out.trans (Ext.regrown W dq osq))
      clear r0 r1 r2 r3
      go_wp2
      go_ret
      exact ⟨rfl, HXQ.out⟩
  · rw [semiV_no (fun hh => by have := hh.1; have := hh.2; unfold hpOK at *; omega)]
    have b0 : decide (h.half < 8) = true := decide_eq_true (by omega)
    clear hsv
    go_enter Tryz.func59, Tryz.ntmps59
    go_upto_region 1 with fail
    refine wp_alloc1 fun W hE _ c0 => ?_
    obtain ⟨x0, x1, x2, x3⟩ := cells4 c0
    have r0 := fun d os => cell_regrown x0 d os
    have r1 := fun d os => cell_regrown x1 d os
    have r2 := fun d os => cell_regrown x2 d os
    have r3 := fun d os => cell_regrown x3 d os
    have CS := Lib.hid (fun d os => quiet_same (HS.out (Go.Sort.grow (redrawn W d) os) (hE.trans (Ext.regrown W d os))))
    have HE := Lib.hid hE
    clear hE x0 x1 x2 x3
    refine wp_region_quiet_below (by kernel_rfl) (by kernel_rfl) ?_
    repeat (first | go_big_quiet_step (exact CS.out _ _) | quiet_step (exact CS.out _ _))
    refine wpQuiet_nil ?_
    intro _ hw'
    obtain ⟨⟨dq, osq⟩, hw''⟩ := hw'
    subst hw''
    have HXQ := Lib.hid (HE.out.trans (Ext.regrown W dq osq))
    clear r0 r1 r2 r3
    go_wp2
    go_ret
    exact ⟨rfl, HXQ.out⟩
end Go.Proofs.YtinakendlpomnaaGreat
/- All objects of a heap (the reference's): the pieces. -/
namespace Go.Proofs.YtinakendlpomnaaGreat
open Go.RowKit Go.Maps Arena
set_option maxHeartbeats 4000000
set_option maxRecDepth 100000
theorem semi_rows {w : World} {q gq B n : Nat} {ws : List Int} {vR : Value} {R : List (Nat × Nat)} (H : RefAt w q gq B n ws vR R) (h : Hp) (ht : thereB R h = true) :
    RowsP w (.slice (some ⟨gq, h.base.toNat + (if h.top = 0 then 0 else firstN h), none⟩) (semi ws R h).length h.top.toNat) 1 ((semi ws R h).map wordC) := by
  have hl := semi_len H.good H.len ht
  by_cases h0 : h.top = 0
  · have hn : semi ws R h = [] := List.eq_nil_of_length_eq_zero (by rw [hl, h0]; rfl)
    rw [hn]
    exact ⟨(fun _ h => (by cases h)), Or.inl ⟨.inr ⟨_, _, rfl, by rw [h0]; unfold maxLen; omega⟩, rfl⟩⟩
  · rw [if_neg h0]
    have hok := (thereB_ok ht).1
    have hla := (thereB_ok ht).2
    have hfi := firstN_is hok
    obtain ⟨a1, a2, a3, a4, a5, a6⟩ := hok
    obtain ⟨i, hi, hri, hlr⟩ := lenAt_some' H.good (x := h.base) (by omega)
    have hbr := H.good.2 R[i] (List.getElem_mem hi)
    have hn := H.least
    refine ⟨wordC_rows _, .inr ⟨gq, h.base.toNat + firstN h, h.top.toNat, by rw [List.length_map], by rw [List.length_map, hl]; exact Nat.le_refl _, by unfold maxLen; omega, fun j u hu => ?_⟩⟩
    rw [wordC_flat, List.getElem?_map] at hu
    obtain ⟨x, hx, rfl⟩ := Option.map_eq_some_iff.1 hu
    have hjl := (List.getElem?_eq_some_iff.1 hx).1
    rw [hl] at hjl
    rw [Nat.add_assoc, (H.word (i := h.base.toNat + (firstN h + j)) (by omega)).1]
    have := semi_at H.good H.len ht hx
    unfold getW at this
    rw [if_pos (by unfold within; rw [decide_eq_true]; exact ⟨by omega, by omega⟩)] at this
    rw [show (h.base + ((firstN h + j : Nat) : Int)).toNat = h.base.toNat + (firstN h + j) by omega] at this
    rw [this]
theorem semiV_yes {gq : Nat} {ws : List Int} {R : List (Nat × Nat)} {h : Hp} {n : Nat} (hg : Arena.Good n R) (hl : ws.length = n) (ht : thereB R h = true) : semiV gq R h = .slice (some ⟨gq, h.base.toNat + (if h.top = 0 then 0 else firstN h), none⟩) (semi ws R h).length h.top.toNat := by
  unfold semiV
  rw [if_pos ht, semi_len hg hl ht]
/-- which words begin an object -/
def begC (L : List (Nat × Ob)) (i : Nat) : List Value := [.bool (L.any fun x => x.1 == i)]
def begs (n : Nat) (L : List (Nat × Ob)) : List (List Value) := (List.range (n + 1)).map (begC L)
theorem begs_len (n : Nat) (L : List (Nat × Ob)) : (begs n L).length = n + 1 := by unfold begs; rw [List.length_map, List.length_range]
theorem begs_at {n : Nat} {L : List (Nat × Ob)} {i : Nat} (h : i ≤ n) : (begs n L)[i]? = some (begC L i) := by
  unfold begs
  rw [List.getElem?_map, List.getElem?_range (by omega)]
  rfl
theorem begs_nil (n : Nat) : begs n [] = List.replicate (n + 1) [.bool false] := by
  unfold begs
  rw [List.eq_replicate_iff]
  refine ⟨by simp, fun b hb => ?_⟩
  obtain ⟨i, _, rfl⟩ := List.mem_map.1 hb
  rfl
theorem begs_set {n p : Nat} {L : List (Nat × Ob)} {o : Ob} (hp : p ≤ n) : begs n (L ++ [(p, o)]) = (begs n L).set p ((begC L p).set 0 (.bool true)) := by
  apply List.ext_getElem?
  intro i
  by_cases hi : i ≤ n
  · rw [begs_at hi]
    by_cases he : p = i
    · subst he
      rw [List.getElem?_set_self (by rw [begs_len]; omega)]
      simp [begC]
    · rw [List.getElem?_set_ne he, begs_at hi]
      simp [begC, he]
  · rw [List.getElem?_eq_none (by rw [begs_len]; omega), List.getElem?_eq_none (by rw [List.length_set, begs_len]; omega)]
def zeroPV : Value := .agg #[.slice none 0 0, .bool false]
/-- what the reference's 'All' tells -/
def RAllSaid (r : Option (List (Nat × Ob))) (first : Nat) (w : World) (e : Ending) (w' : World) : Prop := match r with
  | none => e = .returned zeroPV ∧ Ext w w'
  | some L => ∃ q c, e = .returned (.agg #[.slice q L.length c, .bool true]) ∧ OwnP w' w.heap.size 3 (.slice q L.length c) 1 (L.map (plC first)) ∧ Ext w w'
theorem post_fill2 {P : Program} {f : Func} {Q : Ending → World → Prop} {x : Exit} {a : Act} {w : World} {b : Nat} {x0 x1 y0 y1 : Value} {T : TypeId} (h0 : w.heap[b]? = some (.cells #[x0, x1] T (0, 0)))
    (h : ∀ W : World, W.heap[b]? = some (.cells #[y0, y1] T (0, 0)) → Turn [b] w W → W.heap.size = w.heap.size → bodyPost P f Q x a W) : bodyPost P f Q x a ((w.setCell ⟨b, 0, none⟩ y0).setCell ⟨b, 1, none⟩ y1) :=
  h _ (fill2 h0 _ _).1 (fill2 h0 _ _).2.1 (fill2 h0 _ _).2.2
theorem EBool : ElemT Tryz.prog 120 4 1 1 := ⟨Tryz.underlying120, ⟨.bool false, by kernel_rfl, rfl⟩, by decide⟩
theorem mk_bools (k : Nat) (hk : k ≤ 1000000) (W : World) : (Instr.makeSlice 120 (.int .i64 k) (.int .i64 k)).run Tryz.prog W = .ok (.slice (some ⟨W.heap.size, 0, none⟩) k k) (W.alloc (.cells (madeCells #[.bool false] k) 4)) := by
  obtain ⟨i0, hi, hz0, hz1, hz2⟩ := info_parts (show (Tryz.prog.info? 4).map (fun i => (i.zero, i.size, i.bytes)) = some (some (.bool false), 1, 1) by kernel_rfl)
  have h := run_makeSlice (P := Tryz.prog) (w := W) 120 4 i0 (.bool false) Tryz.underlying120 hi hz0 .i64 .i64 (k : Int) (k : Int) (by omega) (by omega) (by rw [hz1]; omega) (by rw [hz2]; omega) (by omega)
  rw [hz1, Nat.mul_one] at h
  exact h
/-- At, at any place of a row -/
theorem refat_is {c : Nat} {q : Option Addr} {S : List Int} (at_ : Nat) (w : World) (hR : RowsP w (.slice q S.length c) 1 (S.map wordC)) (h64 : ∀ x ∈ S, W64 x) (hSn : S.length ≤ 100000) :
    Calls Tryz.prog 60 #[.slice q S.length c, .int .i64 at_] w (AtSaid (readS (S.drop at_)) w) := by
  cases hd : S.drop at_ with
  | nil =>
    have hl : S.length ≤ at_ := by have := congrArg List.length hd; rw [List.length_drop] at this; simp at this; omega
    exact at_out (.inr (by omega)) w
  | cons a b => exact at_in at_ a b hd w hR h64 hSn
theorem AtSaid.open {r : Option Ob} {w : World} {e : Ending} {w' : World} (h : AtSaid r w e w') : ∃ (kd tg : Int) (q : Option Addr) (l c : Nat) (s : ByteArray), e = .returned (.agg #[.int .i64 kd, .int .i64 tg, .slice q l c, .string s, .bool r.isSome]) ∧ Ext w w' ∧ (r = none → (.agg #[.int .i64 kd, .int .i64 tg, .slice q l c, .string s] : Value) = zeroOV) ∧
    ∀ o, r = some o → ObV w' w.heap.size (.agg #[.int .i64 kd, .int .i64 tg, .slice q l c, .string s]) o := by
  cases r with
  | none => exact ⟨0, 0, none, 0, 0, ByteArray.empty, h.1, h.2, fun _ => rfl, fun o h => by cases h⟩
  | some o =>
    obtain ⟨q, c, h1, h2, h3⟩ := h
    exact ⟨_, _, q, _, c, _, h1, h3, (fun h => by cases h), fun o' e => by obtain rfl := Option.some.inj e; exact ⟨q, c, rfl, h2⟩⟩
theorem refwords_is (o : Ob) (c : Nat) (q : Option Addr) (W : World) : Calls Tryz.prog 61 #[.agg #[.int .i64 o.kind, .int .i64 o.tag, .slice q o.fields.length c, .string o.text]] W fun e w' => e = .returned (.int .i64 ((if mayO o = true then wordsO o else 0 : Nat) : Int)) ∧ Ext W w' := by
  by_cases hm : mayO o = true
  · rw [if_pos hm]
    exact rwords_yes o.kind o.tag o.fields.length c q o.text W hm
  · rw [if_neg hm]
    exact rwords_no o.kind o.tag o.fields.length c q o.text W (by cases e : mayO o with | true => exact absurd e hm | false => exact e)
end Go.Proofs.YtinakendlpomnaaGreat
/- All objects of a heap (the reference's), where there is no such heap. -/
namespace Go.Proofs.YtinakendlpomnaaGreat
open Go.RowKit Go.Maps Arena
set_option maxHeartbeats 4000000
set_option maxRecDepth 100000
theorem rall_no {w : World} {q gq B n : Nat} {ws : List Int} {vR : Value} {R : List (Nat × Nat)} (H : RefAt w q gq B n ws vR R) (h : Hp) (ht : thereB R h = false) :
    Calls Tryz.prog 37 #[.pointer (some ⟨q, 0, none⟩), .agg #[.int .i64 h.base, .int .i64 h.half, .int .i64 h.space, .int .i64 h.top]] w (RAllSaid none 0 w) := by
  have HS := Lib.hid (fun W (e : Ext w W) => size_is (x := h.base) (H.ext e))
  have HSM := Lib.hid (fun W (e : Ext w W) => semi_is (H.ext e) h)
  have hsn : semiV gq R h = .slice none 0 0 := by unfold semiV; rw [ht]; rfl
  rw [hsn] at HSM
  obtain ⟨sv, hsv⟩ : ∃ sv, sv = refSize R h.base := ⟨_, rfl⟩
  rw [← hsv] at HS
  clear hsn H
  by_cases h0 : h.top = 0
  · by_cases h1 : 8 ≤ h.half
    · by_cases h2 : h.half ≤ 2000
      · by_cases h3 : sv = 2 * h.half
        · by_cases h4 : 0 ≤ h.space
          · by_cases h5 : h.space ≤ 1
            · exact absurd (show thereB R h = true by unfold thereB; rw [decide_eq_true (show hpOK h from ⟨h1, h2, h4, h5, by omega, by omega⟩), decide_eq_true (by rw [hsv] at h3; unfold refSize at h3; split at h3 <;> omega)]; rfl) (by rw [ht]; simp)
            · have b0 : (h.top != 0) = false := by rw [h0]; simp
              have b1 : decide (h.half < 8) = false := decide_eq_false (by omega)
              have b2 : decide (2000 < h.half) = false := decide_eq_false (by omega)
              have b3 : (sv != 2 * h.half) = false := by rw [h3]; simp
              have b4 : decide (h.space < 0) = false := decide_eq_false (by omega)
              have b5 : decide (1 < h.space) = true := decide_eq_true (by omega)
              clear hsv ht h0 h3
              go_enter Tryz.func37, Tryz.ntmps37
              go_upto_region 1 with fail
              refine wp_alloc2 fun W hE hS c0 c1 => ?_
              obtain ⟨x0, x1, x2, x3⟩ := cells4 c0
              go_wp2_with fail
              refine (HSM.out W hE).mono ?_
              rintro e w1 ⟨rfl, hx1⟩
              have d0 := (Below.block hx1 w.heap.size (by omega)).trans c0
              have d1 := (Below.block hx1 (w.heap.size + 1) (by omega)).trans c1
              have HE := Lib.hid (hE.trans hx1)
              clear hE hS c0 c1 hx1 x0 x1 x2 x3
              go_upto_region 2 with fail
              obtain ⟨x0, x1, x2, x3⟩ := cells4 d0
              have r0 := fun d os => cell_regrown x0 d os
              have r1 := fun d os => cell_regrown x1 d os
              have r2 := fun d os => cell_regrown x2 d os
              have r3 := fun d os => cell_regrown x3 d os
              have hen : ∀ W, (binOp .eql 22 (.slice none 0 0) (.slice none 0 0)).run Tryz.prog W = .ok (.bool true) W := fun W => by rw [run_eql_nil_slice W 22 51 none 0 0 0 0 Tryz.underlying22]; rfl
              have CS := Lib.hid (fun d os => quiet_same (HS.out (Go.Sort.grow (redrawn w1 d) os) (HE.out.trans (Ext.regrown w1 d os))))
              clear x0 x1 x2 x3
              refine wp_region_quiet_below (by kernel_rfl) (by kernel_rfl) ?_
              repeat (first | go_big_quiet_step (exact CS.out _ _) | quiet_step (exact CS.out _ _))
              refine wpQuiet_nil ?_
              intro _ hw'
              obtain ⟨⟨dq, osq⟩, hw''⟩ := hw'
              subst hw''
              obtain ⟨W5, hW5, hx5⟩ : ∃ W5, W5 = Go.Sort.grow (redrawn w1 dq) osq ∧ Ext w1 W5 := ⟨_, rfl, Ext.regrown w1 dq osq⟩
              rw [← hW5]
              clear hW5 r0 r1 r2 r3 hen
              have e1 := (Below.block hx5 (w.heap.size + 1) (Array.getElem?_eq_some_iff.1 d1).1).trans d1
              have HX5 := Lib.hid (HE.out.trans hx5)
              clear hx5 d0 d1
              obtain ⟨y0, y1⟩ := cells2 e1
              have f0 := free_at e1 (i := 0)
              have f1 := free_at e1 (i := 1)
              go_wp2
              refine post_fill2 e1 fun W6 k6 hT hS6 => ?_
              obtain ⟨y0, y1⟩ := cells2 k6
              refine bodyPost_ret (v := zeroPV) (by simp [results, Tryz.results37, go_sem, y0, y1, zeroPV]) rfl ⟨rfl, ?_⟩
              exact Turn.after HX5.out hT (by simp)
          · have b0 : (h.top != 0) = false := by rw [h0]; simp
            have b1 : decide (h.half < 8) = false := decide_eq_false (by omega)
            have b2 : decide (2000 < h.half) = false := decide_eq_false (by omega)
            have b3 : (sv != 2 * h.half) = false := by rw [h3]; simp
            have b4 : decide (h.space < 0) = true := decide_eq_true (by omega)
            clear hsv ht h0 h3
            go_enter Tryz.func37, Tryz.ntmps37
            go_upto_region 1 with fail
            refine wp_alloc2 fun W hE hS c0 c1 => ?_
            obtain ⟨x0, x1, x2, x3⟩ := cells4 c0
            go_wp2_with fail
            refine (HSM.out W hE).mono ?_
            rintro e w1 ⟨rfl, hx1⟩
            have d0 := (Below.block hx1 w.heap.size (by omega)).trans c0
            have d1 := (Below.block hx1 (w.heap.size + 1) (by omega)).trans c1
            have HE := Lib.hid (hE.trans hx1)
            clear hE hS c0 c1 hx1 x0 x1 x2 x3
            go_upto_region 2 with fail
            obtain ⟨x0, x1, x2, x3⟩ := cells4 d0
            have r0 := fun d os => cell_regrown x0 d os
            have r1 := fun d os => cell_regrown x1 d os
            have r2 := fun d os => cell_regrown x2 d os
            have r3 := fun d os => cell_regrown x3 d os
            have hen : ∀ W, (binOp .eql 22 (.slice none 0 0) (.slice none 0 0)).run Tryz.prog W = .ok (.bool true) W := fun W => by rw [run_eql_nil_slice W 22 51 none 0 0 0 0 Tryz.underlying22]; rfl
            have CS := Lib.hid (fun d os => quiet_same (HS.out (Go.Sort.grow (redrawn w1 d) os) (HE.out.trans (Ext.regrown w1 d os))))
            clear x0 x1 x2 x3
            refine wp_region_quiet_below (by kernel_rfl) (by kernel_rfl) ?_
            repeat (first | go_big_quiet_step (exact CS.out _ _) | quiet_step (exact CS.out _ _))
            refine wpQuiet_nil ?_
            intro _ hw'
            obtain ⟨⟨dq, osq⟩, hw''⟩ := hw'
            subst hw''
            obtain ⟨W5, hW5, hx5⟩ : ∃ W5, W5 = Go.Sort.grow (redrawn w1 dq) osq ∧ Ext w1 W5 := ⟨_, rfl, Ext.regrown w1 dq osq⟩
            rw [← hW5]
            clear hW5 r0 r1 r2 r3 hen
            have e1 := (Below.block hx5 (w.heap.size + 1) (Array.getElem?_eq_some_iff.1 d1).1).trans d1
            have HX5 := Lib.hid (HE.out.trans hx5)
            clear hx5 d0 d1
            obtain ⟨y0, y1⟩ := cells2 e1
            have f0 := free_at e1 (i := 0)
            have f1 := free_at e1 (i := 1)
            go_wp2
            refine post_fill2 e1 fun W6 k6 hT hS6 => ?_
            obtain ⟨y0, y1⟩ := cells2 k6
            refine bodyPost_ret (v := zeroPV) (by simp [results, Tryz.results37, go_sem, y0, y1, zeroPV]) rfl ⟨rfl, ?_⟩
            exact Turn.after HX5.out hT (by simp)
        · have b0 : (h.top != 0) = false := by rw [h0]; simp
          have b1 : decide (h.half < 8) = false := decide_eq_false (by omega)
          have b2 : decide (2000 < h.half) = false := decide_eq_false (by omega)
          have b3 : (sv != 2 * h.half) = true := by simpa using h3
          clear hsv ht h0 h3
          go_enter Tryz.func37, Tryz.ntmps37
          go_upto_region 1 with fail
          refine wp_alloc2 fun W hE hS c0 c1 => ?_
          obtain ⟨x0, x1, x2, x3⟩ := cells4 c0
          go_wp2_with fail
          refine (HSM.out W hE).mono ?_
          rintro e w1 ⟨rfl, hx1⟩
          have d0 := (Below.block hx1 w.heap.size (by omega)).trans c0
          have d1 := (Below.block hx1 (w.heap.size + 1) (by omega)).trans c1
          have HE := Lib.hid (hE.trans hx1)
          clear hE hS c0 c1 hx1 x0 x1 x2 x3
          go_upto_region 2 with fail
          obtain ⟨x0, x1, x2, x3⟩ := cells4 d0
          have r0 := fun d os => cell_regrown x0 d os
          have r1 := fun d os => cell_regrown x1 d os
          have r2 := fun d os => cell_regrown x2 d os
          have r3 := fun d os => cell_regrown x3 d os
          have hen : ∀ W, (binOp .eql 22 (.slice none 0 0) (.slice none 0 0)).run Tryz.prog W = .ok (.bool true) W := fun W => by rw [run_eql_nil_slice W 22 51 none 0 0 0 0 Tryz.underlying22]; rfl
          have CS := Lib.hid (fun d os => quiet_same (HS.out (Go.Sort.grow (redrawn w1 d) os) (HE.out.trans (Ext.regrown w1 d os))))
          clear x0 x1 x2 x3
          refine wp_region_quiet_below (by kernel_rfl) (by kernel_rfl) ?_
          repeat (first | go_big_quiet_step (exact CS.out _ _) | quiet_step (exact CS.out _ _))
          refine wpQuiet_nil ?_
          intro _ hw'
          obtain ⟨⟨dq, osq⟩, hw''⟩ := hw'
          subst hw''
          obtain ⟨W5, hW5, hx5⟩ : ∃ W5, W5 = Go.Sort.grow (redrawn w1 dq) osq ∧ Ext w1 W5 := ⟨_, rfl, Ext.regrown w1 dq osq⟩
          rw [← hW5]
          clear hW5 r0 r1 r2 r3 hen
          have e1 := (Below.block hx5 (w.heap.size + 1) (Array.getElem?_eq_some_iff.1 d1).1).trans d1
          have HX5 := Lib.hid (HE.out.trans hx5)
          clear hx5 d0 d1
          obtain ⟨y0, y1⟩ := cells2 e1
          have f0 := free_at e1 (i := 0)
          have f1 := free_at e1 (i := 1)
          go_wp2
          refine post_fill2 e1 fun W6 k6 hT hS6 => ?_
          obtain ⟨y0, y1⟩ := cells2 k6
          refine bodyPost_ret (v := zeroPV) (by simp [results, Tryz.results37, go_sem, y0, y1, zeroPV]) rfl ⟨rfl, ?_⟩
          exact Turn.after HX5.out hT (by simp)
      · have b0 : (h.top != 0) = false := by rw [h0]; simp
        have b1 : decide (h.half < 8) = false := decide_eq_false (by omega)
        have b2 : decide (2000 < h.half) = true := decide_eq_true (by omega)
        clear hsv ht h0
        go_enter Tryz.func37, Tryz.ntmps37
        go_upto_region 1 with fail
        refine wp_alloc2 fun W hE hS c0 c1 => ?_
        obtain ⟨x0, x1, x2, x3⟩ := cells4 c0
        go_wp2_with fail
        refine (HSM.out W hE).mono ?_
        rintro e w1 ⟨rfl, hx1⟩
        have d0 := (Below.block hx1 w.heap.size (by omega)).trans c0
        have d1 := (Below.block hx1 (w.heap.size + 1) (by omega)).trans c1
        have HE := Lib.hid (hE.trans hx1)
        clear hE hS c0 c1 hx1 x0 x1 x2 x3
        go_upto_region 2 with fail
        obtain ⟨x0, x1, x2, x3⟩ := cells4 d0
        have r0 := fun d os => cell_regrown x0 d os
        have r1 := fun d os => cell_regrown x1 d os
        have r2 := fun d os => cell_regrown x2 d os
        have r3 := fun d os => cell_regrown x3 d os
        have hen : ∀ W, (binOp .eql 22 (.slice none 0 0) (.slice none 0 0)).run Tryz.prog W = .ok (.bool true) W := fun W => by rw [run_eql_nil_slice W 22 51 none 0 0 0 0 Tryz.underlying22]; rfl
        have CS := Lib.hid (fun d os => quiet_same (HS.out (Go.Sort.grow (redrawn w1 d) os) (HE.out.trans (Ext.regrown w1 d os))))
        clear x0 x1 x2 x3
        refine wp_region_quiet_below (by kernel_rfl) (by kernel_rfl) ?_
        repeat (first | go_big_quiet_step (exact CS.out _ _) | quiet_step (exact CS.out _ _))
        refine wpQuiet_nil ?_
        intro _ hw'
        obtain ⟨⟨dq, osq⟩, hw''⟩ := hw'
        subst hw''
        obtain ⟨W5, hW5, hx5⟩ : ∃ W5, W5 = Go.Sort.grow (redrawn w1 dq) osq ∧ Ext w1 W5 := ⟨_, rfl, Ext.regrown w1 dq osq⟩
        rw [← hW5]
        clear hW5 r0 r1 r2 r3 hen
        have e1 := (Below.block hx5 (w.heap.size + 1) (Array.getElem?_eq_some_iff.1 d1).1).trans d1
        have HX5 := Lib.hid (HE.out.trans hx5)
        clear hx5 d0 d1
        obtain ⟨y0, y1⟩ := cells2 e1
        have f0 := free_at e1 (i := 0)
        have f1 := free_at e1 (i := 1)
        go_wp2
        refine post_fill2 e1 fun W6 k6 hT hS6 => ?_
        obtain ⟨y0, y1⟩ := cells2 k6
        refine bodyPost_ret (v := zeroPV) (by simp [results, Tryz.results37, go_sem, y0, y1, zeroPV]) rfl ⟨rfl, ?_⟩
        exact Turn.after HX5.out hT (by simp)
    · have b0 : (h.top != 0) = false := by rw [h0]; simp
      have b1 : decide (h.half < 8) = true := decide_eq_true (by omega)
      clear hsv ht h0
      go_enter Tryz.func37, Tryz.ntmps37
      go_upto_region 1 with fail
      refine wp_alloc2 fun W hE hS c0 c1 => ?_
      obtain ⟨x0, x1, x2, x3⟩ := cells4 c0
      go_wp2_with fail
      refine (HSM.out W hE).mono ?_
      rintro e w1 ⟨rfl, hx1⟩
      have d0 := (Below.block hx1 w.heap.size (by omega)).trans c0
      have d1 := (Below.block hx1 (w.heap.size + 1) (by omega)).trans c1
      have HE := Lib.hid (hE.trans hx1)
      clear hE hS c0 c1 hx1 x0 x1 x2 x3
      go_upto_region 2 with fail
      obtain ⟨x0, x1, x2, x3⟩ := cells4 d0
      have r0 := fun d os => cell_regrown x0 d os
      have r1 := fun d os => cell_regrown x1 d os
      have r2 := fun d os => cell_regrown x2 d os
      have r3 := fun d os => cell_regrown x3 d os
      have hen : ∀ W, (binOp .eql 22 (.slice none 0 0) (.slice none 0 0)).run Tryz.prog W = .ok (.bool true) W := fun W => by rw [run_eql_nil_slice W 22 51 none 0 0 0 0 Tryz.underlying22]; rfl
      have CS := Lib.hid (fun d os => quiet_same (HS.out (Go.Sort.grow (redrawn w1 d) os) (HE.out.trans (Ext.regrown w1 d os))))
      clear x0 x1 x2 x3
      refine wp_region_quiet_below (by kernel_rfl) (by kernel_rfl) ?_
      repeat (first | go_big_quiet_step (exact CS.out _ _) | quiet_step (exact CS.out _ _))
      refine wpQuiet_nil ?_
      intro _ hw'
      obtain ⟨⟨dq, osq⟩, hw''⟩ := hw'
      subst hw''
      obtain ⟨W5, hW5, hx5⟩ : ∃ W5, W5 = Go.Sort.grow (redrawn w1 dq) osq ∧ Ext w1 W5 := ⟨_, rfl, Ext.regrown w1 dq osq⟩
      rw [← hW5]
      clear hW5 r0 r1 r2 r3 hen
      have e1 := (Below.block hx5 (w.heap.size + 1) (Array.getElem?_eq_some_iff.1 d1).1).trans d1
      have HX5 := Lib.hid (HE.out.trans hx5)
      clear hx5 d0 d1
      obtain ⟨y0, y1⟩ := cells2 e1
      have f0 := free_at e1 (i := 0)
      have f1 := free_at e1 (i := 1)
      go_wp2
      refine post_fill2 e1 fun W6 k6 hT hS6 => ?_
      obtain ⟨y0, y1⟩ := cells2 k6
      refine bodyPost_ret (v := zeroPV) (by simp [results, Tryz.results37, go_sem, y0, y1, zeroPV]) rfl ⟨rfl, ?_⟩
      exact Turn.after HX5.out hT (by simp)
  · have b0 : (h.top != 0) = true := by simpa using h0
    clear hsv ht h0
    go_enter Tryz.func37, Tryz.ntmps37
    go_upto_region 1 with fail
    refine wp_alloc2 fun W hE hS c0 c1 => ?_
    obtain ⟨x0, x1, x2, x3⟩ := cells4 c0
    go_wp2_with fail
    refine (HSM.out W hE).mono ?_
    rintro e w1 ⟨rfl, hx1⟩
    have d0 := (Below.block hx1 w.heap.size (by omega)).trans c0
    have d1 := (Below.block hx1 (w.heap.size + 1) (by omega)).trans c1
    have HE := Lib.hid (hE.trans hx1)
    clear hE hS c0 c1 hx1 x0 x1 x2 x3
    go_upto_region 2 with fail
    obtain ⟨x0, x1, x2, x3⟩ := cells4 d0
    have r0 := fun d os => cell_regrown x0 d os
    have r1 := fun d os => cell_regrown x1 d os
    have r2 := fun d os => cell_regrown x2 d os
    have r3 := fun d os => cell_regrown x3 d os
    have hen : ∀ W, (binOp .eql 22 (.slice none 0 0) (.slice none 0 0)).run Tryz.prog W = .ok (.bool true) W := fun W => by rw [run_eql_nil_slice W 22 51 none 0 0 0 0 Tryz.underlying22]; rfl
    have CS := Lib.hid (fun d os => quiet_same (HS.out (Go.Sort.grow (redrawn w1 d) os) (HE.out.trans (Ext.regrown w1 d os))))
    clear x0 x1 x2 x3
    refine wp_region_quiet_below (by kernel_rfl) (by kernel_rfl) ?_
    repeat (first | go_big_quiet_step (exact CS.out _ _) | quiet_step (exact CS.out _ _))
    refine wpQuiet_nil ?_
    intro _ hw'
    obtain ⟨⟨dq, osq⟩, hw''⟩ := hw'
    subst hw''
    obtain ⟨W5, hW5, hx5⟩ : ∃ W5, W5 = Go.Sort.grow (redrawn w1 dq) osq ∧ Ext w1 W5 := ⟨_, rfl, Ext.regrown w1 dq osq⟩
    rw [← hW5]
    clear hW5 r0 r1 r2 r3 hen
    have e1 := (Below.block hx5 (w.heap.size + 1) (Array.getElem?_eq_some_iff.1 d1).1).trans d1
    have HX5 := Lib.hid (HE.out.trans hx5)
    clear hx5 d0 d1
    obtain ⟨y0, y1⟩ := cells2 e1
    have f0 := free_at e1 (i := 0)
    have f1 := free_at e1 (i := 1)
    go_wp2
    refine post_fill2 e1 fun W6 k6 hT hS6 => ?_
    obtain ⟨y0, y1⟩ := cells2 k6
    refine bodyPost_ret (v := zeroPV) (by simp [results, Tryz.results37, go_sem, y0, y1, zeroPV]) rfl ⟨rfl, ?_⟩
    exact Turn.after HX5.out hT (by simp)
end Go.Proofs.YtinakendlpomnaaGreat
/- All objects of a heap (the reference's), where there is such a heap. -/
namespace Go.Proofs.YtinakendlpomnaaGreat
open Go.RowKit Go.Maps Arena
set_option maxHeartbeats 4000000
set_option maxRecDepth 100000
theorem objs_reads {S : List Int} {L : List (Nat × Ob)} (h : objs S 0 = some L) : ∀ x ∈ L, readS (S.drop x.1) = some x.2 := by
  have := objs_ind (P := fun S a L => ∀ x ∈ L, ∃ k, x.1 = a + k ∧ readS (S.drop k) = some x.2) (fun a x hx => by cases hx)
    (fun S a o L hS hr ih x hx => by
      rcases List.mem_cons.1 hx with rfl | hx
      · exact ⟨0, rfl, hr⟩
      · obtain ⟨k, h1, h2⟩ := ih x hx
        exact ⟨wordsO o + k, by omega, by rw [← List.drop_drop]; exact h2⟩) S.length (Nat.le_refl _) h
  intro x hx
  obtain ⟨k, h1, h2⟩ := this x hx
  rw [h1, Nat.zero_add]
  exact h2
/-- the first k places moved, the others not yet -/
def mixC (first : Nat) (L : List (Nat × Ob)) (k : Nat) : List (List Value) := (L.take k).map (plC first) ++ (L.drop k).map (plC 0)
theorem mixC_zero (first : Nat) (L : List (Nat × Ob)) : mixC first L 0 = L.map (plC 0) := by simp [mixC]
theorem mixC_all (first : Nat) (L : List (Nat × Ob)) : mixC first L L.length = L.map (plC first) := by simp [mixC]
theorem mixC_at {first : Nat} {L : List (Nat × Ob)} {k : Nat} {x : Nat × Ob} (h : L[k]? = some x) : (mixC first L k)[k]? = some [.int .i64 (x.1 : Int)] := by
  obtain ⟨h1, h2⟩ := List.getElem?_eq_some_iff.1 h
  have hl : ((L.take k).map (plC first)).length = k := by rw [List.length_map, List.length_take]; omega
  unfold mixC
  rw [List.getElem?_append_right (by omega), hl, Nat.sub_self, List.getElem?_map, List.getElem?_drop, Nat.add_zero, h]
  simp [plC]
theorem mixC_step {first : Nat} {L : List (Nat × Ob)} {k : Nat} {x : Nat × Ob} (h : L[k]? = some x) : mixC first L (k + 1) = (mixC first L k).set k ([.int .i64 (x.1 : Int)].set 0 (.int .i64 ((x.1 : Int) + (first : Int)))) := by
  obtain ⟨h1, h2⟩ := List.getElem?_eq_some_iff.1 h
  have hl : ((L.take k).map (plC first)).length = k := by rw [List.length_map, List.length_take]; omega
  unfold mixC
  rw [List.set_append_right _ _ (by omega), hl, Nat.sub_self, List.take_succ_eq_append_getElem h1, h2, List.map_append, List.append_assoc, List.drop_eq_getElem_cons h1, h2]
  simp [plC, Int.add_comm]
theorem rall_yes {w : World} {q gq B n : Nat} {ws : List Int} {vR : Value} {R : List (Nat × Nat)} (H : RefAt w q gq B n ws vR R) (h : Hp) (hW : ∀ x ∈ ws, W64 x) (ht : thereB R h = true) :
    Calls Tryz.prog 37 #[.pointer (some ⟨q, 0, none⟩), .agg #[.int .i64 h.base, .int .i64 h.half, .int .i64 h.space, .int .i64 h.top]] w (RAllSaid (allS (firstN h) (semi ws R h)) (firstN h) w) := by
  have hsv := semiV_yes (gq := gq) H.good H.len ht
  have HSM := Lib.hid (fun W (e : Ext w W) => semi_is (H.ext e) h)
  rw [hsv] at HSM
  have HROW := Lib.hid (fun W (e : Ext w W) => semi_rows (H.ext e) h ht)
  have hS64 : ∀ x ∈ semi ws R h, W64 x := fun x hx => hW x (semi_mem hx)
  have hsl := semi_len (h := h) H.good H.len ht
  have hok := (thereB_ok ht).1
  have hfi := firstN_is hok
  obtain ⟨hf1, hf2, hf3⟩ := hfi
  obtain ⟨a1, a2, a3, a4, a5, a6⟩ := hok
  have hst : (semi ws R h).length ≤ 2000 := by omega
  generalize h.base.toNat + (if h.top = 0 then 0 else firstN h) = sp at HSM HROW
  generalize h.top.toNat = st at HSM HROW hsl
  generalize firstN h = first at *
  generalize semi ws R h = S at *
  have HS64 := Lib.hid hS64
  have HF1 := Lib.hid hf1
  have hen : ∀ W, (binOp .eql 22 (.slice (some ⟨gq, sp, none⟩) S.length st) (.slice none 0 0)).run Tryz.prog W = .ok (.bool false) W := fun W => by rw [Lib.run_eql_slice_nil W 22 51 (some ⟨gq, sp, none⟩) S.length st 0 0 Tryz.underlying22]; rfl
  have hmk : ∀ W, (Instr.makeSlice 120 (.int .i64 ((S.length : Int) + 1)) (.int .i64 ((S.length : Int) + 1))).run Tryz.prog W = .ok (.slice (some ⟨W.heap.size, 0, none⟩) (S.length + 1) (S.length + 1)) (W.alloc (.cells (madeCells #[.bool false] (S.length + 1)) 4)) := fun W => by
    have := mk_bools (S.length + 1) (by omega) W
    exact_mod_cast this
  clear hsv hS64 hsl hf1 hf3 H hW ht
  go_enter Tryz.func37, Tryz.ntmps37
  go_upto_region 1 with fail
  refine wp_alloc2 fun W hE hS c0 c1 => ?_
  obtain ⟨x0, x1, x2, x3⟩ := cells4 c0
  go_wp2_with fail
  refine (HSM.out W hE).mono ?_
  rintro e w1 ⟨rfl, hx1⟩
  have d0 := (Below.block hx1 w.heap.size (by omega)).trans c0
  have d1 := (Below.block hx1 (w.heap.size + 1) (by omega)).trans c1
  have HE := Lib.hid (hE.trans hx1)
  clear hE hS c0 c1 hx1 x0 x1 x2 x3
  go_upto_region 2 with fail
  obtain ⟨x0, x1, x2, x3⟩ := cells4 d0
  go_quiet (fail)
  obtain ⟨W2, hW2, hx2⟩ : ∃ W2, W2 = w1.drewN nq ∧ Ext w1 W2 := ⟨_, rfl, Ext.drewN _ _⟩
  rw [← hW2]
  have e0 := (Below.block hx2 w.heap.size (Array.getElem?_eq_some_iff.1 d0).1).trans d0
  have e1 := (Below.block hx2 (w.heap.size + 1) (Array.getElem?_eq_some_iff.1 d1).1).trans d1
  have HE2 := Lib.hid (HE.out.trans hx2)
  clear hW2 hx2 d0 d1 x0 x1 x2 x3 hen
  go_upto_region 5 with fail
  refine wp_alloc1 fun W3 hE3 hS3 b3 => ?_
  have d0 := (Below.block hE3 w.heap.size (Array.getElem?_eq_some_iff.1 e0).1).trans e0
  have d1 := (Below.block hE3 (w.heap.size + 1) (Array.getElem?_eq_some_iff.1 e1).1).trans e1
  have HE3 := Lib.hid (HE2.out.trans hE3)
  have hpb : w.heap.size + 1 < W2.heap.size := (Array.getElem?_eq_some_iff.1 e1).1
  have hpb3 : W2.heap.size < W3.heap.size := by omega
  generalize W2.heap.size = pb at *
  clear hE3 hS3 e0 e1
  go_upto_region 6 with fail
  have hbg := made_own W3 4 (.bool false) (S.length + 1) W3.heap.size rfl (Nat.le_refl _) (by unfold maxLen; omega)
  rw [← begs_nil S.length] at hbg
  have hx4 := Ext.alloc W3 (.cells (madeCells #[.bool false] (S.length + 1)) 4)
  have hs4 : W3.heap.size < (W3.alloc (.cells (madeCells #[.bool false] (S.length + 1)) 4)).heap.size := by simp
  generalize W3.alloc (.cells (madeCells #[.bool false] (S.length + 1)) 4) = W4 at *
  have e0 := (Below.block hx4 w.heap.size (by omega)).trans d0
  have e1 := (Below.block hx4 (w.heap.size + 1) (by omega)).trans d1
  have e3 := (Below.block hx4 pb (by omega)).trans b3
  have HE4 := Lib.hid (HE3.out.trans hx4)
  obtain ⟨bg, hbge⟩ : ∃ bg, bg = W3.heap.size := ⟨_, rfl⟩
  rw [← hbge] at hbg hs4 hpb3 ⊢
  have HBG := Lib.hid hbg
  clear hbg hx4 d0 d1 b3 hbge hmk
  go_wp2_with fail
  go_loopw [8] (fun i wr => ∃ (pp : Nat) (L : List (Nat × Ob)) (qv : Option Addr) (cv : Nat), pp ≤ S.length ∧ i = .int .i64 pp ∧ Hid (objs S 0 = (objs (S.drop pp) pp).map (L ++ ·)) ∧ Hid (∀ x ∈ L, x.1 < pp) ∧ L.length ≤ pp ∧
    wr.heap[pb]? = some (.cells #[.slice qv L.length cv, .bool true] 86 (0, 0)) ∧ OwnP wr (bg + 1) 3 (.slice qv L.length cv) 1 (L.map (plC 0)) ∧ OwnP wr bg 4 (.slice (some ⟨bg, 0, none⟩) (S.length + 1) (S.length + 1)) 1 (begs S.length L) ∧
    wr.heap[w.heap.size]? = some (.cells #[.int .i64 h.base, .int .i64 h.half, .int .i64 h.space, .int .i64 h.top] 24 (0, 0)) ∧ wr.heap[w.heap.size + 1]? = some (.cells #[.slice none 0 0, .bool false] 86 (0, 0)) ∧ Ext w wr ∧ bg < wr.heap.size) (fun i _ => S.length - (Go.RowKit.intOf i).toNat)
  case atStart => exact ⟨0, [], none, 0, Nat.zero_le _, rfl, Lib.hid (by rw [List.drop_zero]; cases objs S 0 <;> rfl), Lib.hid (fun x hx => (by cases hx)), Nat.le_refl _, e3, OwnP.nil _ _ _ _, HBG.out, e0, e1, HE4.out, hs4⟩
  case round =>
    obtain ⟨pp, L, qv, cv, hpp, rfl, HOB, HLT, hLl, k3, hov, hob, k0, k1, hx, hbs⟩ := hrel
    have HX := Lib.hid hx; have HOV := Lib.hid hov; have HOBG := Lib.hid hob
    clear hx hov hob e0 e1 e3 HE4 HBG hs4
    by_cases hlt : pp < S.length
    · have i1 : (pp : Int) < (S.length : Int) := by omega
      have HAT := Lib.hid (refat_is pp wr (HROW.out wr HX.out) HS64.out (by omega))
      go_wp2_with fail
      refine HAT.out.mono ?_
      intro e w5 h5
      generalize hrd : readS (S.drop pp) = rd at h5
      have HRD := Lib.hid hrd
      have hne : S.drop pp ≠ [] := by intro e; have := congrArg List.length e; rw [List.length_drop] at this; simp at this; omega
      have hoc := objs_cons (a := pp) hne
      rw [hrd] at hoc
      have HOC := Lib.hid hoc
      clear hoc hne hrd
      cases rd with
      | none =>
        obtain ⟨he, hx5⟩ := h5
        unfold zeroRV at he
        subst he
        have m1 := (Below.block hx5 (w.heap.size + 1) (Array.getElem?_eq_some_iff.1 k1).1).trans k1
        have HX5 := Lib.hid (HX.out.trans hx5)
        have hall : allS first S = none := by unfold allS; rw [HOB.out, HOC.out]; rfl
        have HALL := Lib.hid hall
        clear hx5 hall k0 k1 k3
        go_upto_region 9 with fail
        refine wp_alloc1 fun W6 hE6 hS6 b6 => ?_
        have m2 := (Below.block hE6 (w.heap.size + 1) (Array.getElem?_eq_some_iff.1 m1).1).trans m1
        have HX6 := Lib.hid (HX5.out.trans hE6)
        clear hE6 hS6 m1
        obtain ⟨z0, z1, z2, z3, z4⟩ := cells5 b6
        obtain ⟨y0, y1⟩ := cells2 m2
        have f0 := free_at m2 (i := 0)
        have f1 := free_at m2 (i := 1)
        go_wp2
        refine post_fill2 m2 fun W7 k7 hT hS7 => ?_
        obtain ⟨y0, y1⟩ := cells2 k7
        refine bodyPost_ret (v := zeroPV) (by simp [results, Tryz.results37, go_sem, y0, y1, zeroPV]) rfl ?_
        rw [HALL.out]
        exact ⟨rfl, Turn.after HX6.out hT (by simp)⟩
      | some o =>
        obtain ⟨q5, c5, rfl, ho5, hx5⟩ := h5
        have m0 := (Below.block hx5 w.heap.size (Array.getElem?_eq_some_iff.1 k0).1).trans k0
        have m1 := (Below.block hx5 (w.heap.size + 1) (Array.getElem?_eq_some_iff.1 k1).1).trans k1
        have m3 := (Below.block hx5 pb (Array.getElem?_eq_some_iff.1 k3).1).trans k3
        have HX5 := Lib.hid (HX.out.trans hx5)
        have HOV5 := Lib.hid (HOV.out.ext hx5)
        have HOB5 := Lib.hid (HOBG.out.ext hx5)
        have hbs5 : bg < w5.heap.size := by have := Ext.size hx5; omega
        clear hx5 k0 k1 k3 ho5 hbs
        go_upto_region 9 with fail
        refine wp_alloc1 fun W6 hE6 hS6 b6 => ?_
        have k0 := (Below.block hE6 w.heap.size (Array.getElem?_eq_some_iff.1 m0).1).trans m0
        have k1 := (Below.block hE6 (w.heap.size + 1) (Array.getElem?_eq_some_iff.1 m1).1).trans m1
        have k3 := (Below.block hE6 pb (Array.getElem?_eq_some_iff.1 m3).1).trans m3
        have HX6 := Lib.hid (HX5.out.trans hE6)
        have HOV6 := Lib.hid (HOV5.out.ext hE6)
        have HOB6 := Lib.hid (HOB5.out.ext hE6)
        have hbs6 : bg < W6.heap.size := by have := Ext.size hE6; omega
        generalize w5.heap.size = rb at *
        clear hE6 hS6 m0 m1 m3
        obtain ⟨z0, z1, z2, z3, z4⟩ := cells5 b6
        obtain ⟨g', eg, _, u0, v0⟩ := HOB6.out.cell (begs_at hpp) (f := 0) (u := .bool (L.any fun x => x.1 == pp)) rfl
        obtain ⟨rfl, _⟩ := Addr.mk.inj (Option.some.inj eg)
        rw [Nat.mul_one, Nat.add_zero] at u0 v0
        have hst := HOB6.out.store (f := 0) (begs_at hpp) (by omega) (u := .bool true) rfl
        rw [← begs_set (o := o) hpp, Nat.mul_one, Nat.add_zero] at hst
        have HST := Lib.hid hst
        clear hst eg
        go_upto_region 12 with fail
        refine wp_gen (fun W => OwnP W bg 4 (.slice (some ⟨bg, 0, none⟩) (S.length + 1) (S.length + 1)) 1 (begs S.length (L ++ [(pp, o)])) ∧ Turn [bg] W6 W ∧ W.heap.size = W6.heap.size) ⟨HST.out, (Turn.refl _ _).setCell (.inl (by simp)) _, by simp⟩ fun W7 hF7 => ?_
        obtain ⟨hob7, hT7, hS7⟩ := hF7
        have hrbg : bg < rb := hbs5
        have m0 := (hT7.block w.heap.size (Array.getElem?_eq_some_iff.1 k0).1 (by simp; omega)).trans k0
        have m1 := (hT7.block (w.heap.size + 1) (Array.getElem?_eq_some_iff.1 k1).1 (by simp; omega)).trans k1
        have m3 := (hT7.block pb (Array.getElem?_eq_some_iff.1 k3).1 (by simp; omega)).trans k3
        have m6 := (hT7.block rb (Array.getElem?_eq_some_iff.1 b6).1 (by simp; omega)).trans b6
        have HX7 := Lib.hid (Turn.after HX6.out hT7 (by simp; omega))
        have HOV7 := Lib.hid (HOV6.out.turn hT7 (fun b hb hm => by have := (HOV6.out.own b hb).1; rw [List.mem_singleton.1 hm] at this; omega))
        have HOB7 := Lib.hid hob7
        have hbs7 : bg < W7.heap.size := by omega
        have hrs7 : rb < W7.heap.size := (Array.getElem?_eq_some_iff.1 m6).1
        clear hob7 hT7 hS7 k0 k1 k3 b6 z0 z1 z2 z3 z4 u0 v0 HST
        obtain ⟨z0, z1⟩ := cells2 m3
        have f0 := free_at m3 (i := 0)
        go_wp2_with (refine wpList_append_rows EInt (by rfl) _ _ (by rfl) (bg + 1) (.slice qv L.length cv) (.slice (some ⟨W7.heap.size, 0, none⟩) 1 1) (L.map (plC 0)) [[.int .i64 (pp : Int)]] (by rfl) (HOV7.out.ext (Ext.alloc _ _)) (by rfl) (rows_of_block (cs := #[.int .i64 (pp : Int)]) (heap_alloc_new _ _) rfl (by intro u hu; simp at hu; subst hu; rfl)) (by simp; unfold maxLen; omega) (by simp; omega) (by simp; omega) ?_)
        intro v8 W8 ho8 hg8 _ _
        have hA := Ext.alloc W7 (.cells #[.int .i64 (pp : Int)] 3)
        have hB8 : Below (bg + 1) W7 W8 := Below.grown (Below.alloc (Below.refl _ _) (by omega) _) hg8 (by simp; omega) (fun b hb => (HOV7.out.own b hb).1)
        have hovA := HOV7.out.ext hA
        have n0 := (Below.block hB8 w.heap.size (by omega)).trans m0
        have n1 := (Below.block hB8 (w.heap.size + 1) (by omega)).trans m1
        have n3 := (Below.block hB8 pb (by omega)).trans m3
        have n6 := grown_block hg8 ((Below.block hA rb hrs7).trans m6) (hovA.not_at ((Below.block hA rb hrs7).trans m6) (by decide))
        have HX8 := Lib.hid (HX7.out.go hB8 (by omega))
        have hob8 : OwnP W8 bg 4 (.slice (some ⟨bg, 0, none⟩) (S.length + 1) (S.length + 1)) 1 (begs S.length (L ++ [(pp, o)])) := HOB7.out.stays (fun b hb hl => by
          obtain rfl : bg = b := by simpa [Value.ownBlock] using hb
          exact Below.block hB8 bg (by omega))
        have HOB8 := Lib.hid hob8
        obtain ⟨q8, c8, hv8, _, _⟩ := ho8.len
        have hl8 : (L.map (plC 0) ++ [[.int .i64 (pp : Int)]] : List (List Value)).length = L.length + 1 := by simp
        rw [hl8] at hv8
        subst hv8
        have ho8' : OwnP W8 (bg + 1) 3 (.slice q8 (L.length + 1) c8) 1 ((L ++ [(pp, o)]).map (plC 0)) := by
          rw [List.map_append]
          have e : [[Value.int .i64 (pp : Int)]] = [((pp, o) : Nat × Ob)].map (plC 0) := by simp [plC]
          rw [← e]
          exact ho8
        have HO8 := Lib.hid ho8'
        have hbs8 : bg < W8.heap.size := by have := Below.size hB8; omega
        clear hA hB8 hovA m0 m1 m3 m6 hob8 ho8 ho8' hg8 hl8 z0 z1 f0
        obtain ⟨z0, z1⟩ := cells2 n3
        have f0 := free_at n3 (i := 0)
        go_upto_region 13 with fail
        refine wp_fill1 n3 fun W9 hb9 hT9 hS9 => ?_
        have k3 : W9.heap[pb]? = some (.cells #[.slice q8 (L.length + 1) c8, .bool true] 86 (0, 0)) := hb9
        have k0 := (hT9.block w.heap.size (Array.getElem?_eq_some_iff.1 n0).1 (by simp; omega)).trans n0
        have k1 := (hT9.block (w.heap.size + 1) (Array.getElem?_eq_some_iff.1 n1).1 (by simp; omega)).trans n1
        have k6 := (hT9.block rb (Array.getElem?_eq_some_iff.1 n6).1 (by simp; omega)).trans n6
        have HX9 := Lib.hid (Turn.after HX8.out hT9 (by simp; omega))
        have HO9 := Lib.hid (HO8.out.turn hT9 (fun b hb hm => by have := (HO8.out.own b hb).1; rw [List.mem_singleton.1 hm] at this; omega))
        have HOB9 := Lib.hid (HOB8.out.turn hT9 (fun b hb hm => by have := (HOB8.out.own b hb).1; rw [List.mem_singleton.1 hm] at this; omega))
        have hbs9 : bg < W9.heap.size := by omega
        have HWD := Lib.hid (fun W => refwords_is o c5 q5 W)
        obtain ⟨hw1, hw2, hmo⟩ := readS_words HRD.out
        rw [hmo, if_pos rfl] at HWD
        rw [List.length_drop] at hw1
        have hoc2 : objs S 0 = (objs (S.drop (pp + wordsO o)) (pp + wordsO o)).map ((L ++ [(pp, o)]) ++ ·) := by
          have h9 := HOC.out
          rw [HOB.out, h9, List.drop_drop, Option.map_map]
          congr 1
          funext y
          simp
        have hlt2 : ∀ x ∈ L ++ [(pp, o)], x.1 < pp + wordsO o := by
          intro x hx
          rcases List.mem_append.1 hx with hx | hx
          · have := HLT.out x hx; omega
          · rw [List.mem_singleton.1 hx]; dsimp only; omega
        have HOC2 := Lib.hid hoc2; have HLT2 := Lib.hid hlt2
        generalize wordsO o = wo at *
        clear hb9 hT9 hS9 n0 n1 n3 n6 hoc2 hlt2 z0 z1 f0 HOB HOC
        obtain ⟨z0, z1, z2, z3, z4⟩ := cells5 k6
        go_wp2_with fail
        refine (HWD.out _).mono ?_
        rintro e w10 ⟨rfl, hx10⟩
        have j0 := (Below.block hx10 w.heap.size (Array.getElem?_eq_some_iff.1 k0).1).trans k0
        have j1 := (Below.block hx10 (w.heap.size + 1) (Array.getElem?_eq_some_iff.1 k1).1).trans k1
        have j3 := (Below.block hx10 pb (Array.getElem?_eq_some_iff.1 k3).1).trans k3
        have HX10 := Lib.hid (HX9.out.trans hx10)
        have HO10 := Lib.hid (HO9.out.ext hx10)
        have HOB10 := Lib.hid (HOB9.out.ext hx10)
        have hbs10 : bg < w10.heap.size := by have := Ext.size hx10; omega
        clear hx10 k0 k1 k3 k6 z0 z1 z2 z3 z4
        go_wp2
        exact ⟨⟨pp + wo, L ++ [(pp, o)], q8, c8, by omega, by go_num, HOC2.out, HLT2.out, by simp; omega, by rw [List.length_append]; exact j3, by rw [List.length_append]; exact HO10.out, HOB10.out, j0, j1, HX10.out, hbs10⟩, by simp [Go.RowKit.intOf]; omega⟩
    · obtain rfl : pp = S.length := by omega
      have hobj : objs S 0 = some L := by rw [HOB.out, List.drop_length, objs_nil]; simp
      have i1 : ¬ (S.length : Int) < (S.length : Int) := by omega
      have HOBJ := Lib.hid hobj
      have HRDS := Lib.hid (objs_reads hobj)
      have HFM := Lib.hid (objs_fields hobj)
      have hm : IntKind.i64.wrap (h.space * h.half) = (first : Int) := by rw [← HF1.out, IntWalk.i64_in _ (by omega)]
      have hfl1 : ∀ (a b : Int) (q : Option Addr) (l c : Nat) (s : ByteArray) (t : Bool) (W : World), (Instr.field 122 (.agg #[.int .i64 a, .int .i64 b, .slice q l c, .string s, .bool t]) 0).run Tryz.prog W = .ok (.agg #[.int .i64 a, .int .i64 b, .slice q l c, .string s]) W := fun _ _ _ _ _ _ _ _ => by kernel_rfl
      have hfl2 : ∀ (a b : Int) (q : Option Addr) (l c : Nat) (s : ByteArray) (W : World), (Instr.field 55 (.agg #[.int .i64 a, .int .i64 b, .slice q l c, .string s]) 2).run Tryz.prog W = .ok (.slice q l c) W := fun _ _ _ _ _ _ _ => by kernel_rfl
      have HM := Lib.hid hm
      clear hobj HOB hm
      obtain ⟨z0, z1⟩ := cells2 k3
      generalize wr = w3 at *
      go_wp2_with fail
      go_loopw [10] (fun i wr => ∃ j : Nat, j ≤ L.length ∧ i = .int .i64 j ∧ Hid ((L.take j).all (fun x => x.2.fields.all (fieldOK (L.map (·.1)) first)) = true) ∧ Ext w3 wr) (fun i _ => L.length - (Go.RowKit.intOf i).toNat)
      case atStart => exact ⟨0, Nat.zero_le _, rfl, Lib.hid rfl, Ext.refl _⟩
      case round =>
        obtain ⟨j, hj, rfl, HAL, hxj⟩ := hrel
        have HXJ := Lib.hid hxj
        have l0 := (Below.block hxj w.heap.size (Array.getElem?_eq_some_iff.1 k0).1).trans k0
        have l1 := (Below.block hxj (w.heap.size + 1) (Array.getElem?_eq_some_iff.1 k1).1).trans k1
        have l3 := (Below.block hxj pb (Array.getElem?_eq_some_iff.1 k3).1).trans k3
        have HOVJ := Lib.hid (HOV.out.ext hxj)
        have HOBJ2 := Lib.hid (HOBG.out.ext hxj)
        clear hxj k0 k1 k3 z0 z1
        obtain ⟨z0, z1⟩ := cells2 l3
        by_cases hjl : j < L.length
        · obtain ⟨⟨a, o⟩, hxo⟩ : ∃ x, L[j]? = some x := ⟨_, List.getElem?_eq_getElem hjl⟩
          have hmem := List.mem_of_getElem? hxo
          have hrd := HRDS.out _ hmem
          dsimp only at hrd
          have hfS := (HFM.out _ hmem).2
          dsimp only at hfS
          have hfl : o.fields.length ≤ 400 := by have := (HFM.out _ hmem).1; unfold mayO at this; exact (mayK_bounds this).2.2.2.2.1
          obtain ⟨g2, eg2, _, hcl, _⟩ := HOVJ.out.cell (i := j) (cs := plC 0 (a, o)) (by rw [List.getElem?_map, hxo]; rfl) (f := 0) rfl
          subst eg2
          rw [Nat.mul_one, Nat.add_zero] at hcl
          have hcl2 : wr.cell? ⟨g2, j, none⟩ = some (.int .i64 (a : Int)) := by rw [hcl]; simp
          have i2 : (j : Int) < (L.length : Int) := by omega
          have HAT := Lib.hid (refat_is a wr (HROW.out wr (HX.out.trans HXJ.out)) HS64.out (by omega))
          rw [hrd] at HAT
          have HXO := Lib.hid hxo; have HFS := Lib.hid hfS
          clear hmem hrd hfS hcl hxo
          go_wp2_with fail
          refine HAT.out.mono ?_
          intro e w5 h5
          obtain ⟨q5, c5, rfl, ho5, hx5⟩ := h5
          have m0 := (Below.block hx5 w.heap.size (Array.getElem?_eq_some_iff.1 l0).1).trans l0
          have m1 := (Below.block hx5 (w.heap.size + 1) (Array.getElem?_eq_some_iff.1 l1).1).trans l1
          have HX5 := Lib.hid (HXJ.out.trans hx5)
          have HOB5 := Lib.hid (HOBJ2.out.ext hx5)
          have HO5 := Lib.hid ho5
          clear hx5 l0 l1 l3 z0 z1 ho5 hcl2
          go_wp2_with fail
          go_loopw [12] (fun i wr => ∃ t : Nat, t ≤ o.fields.length ∧ i = .int .i64 t ∧ Hid ((o.fields.take t).all (fieldOK (L.map (·.1)) first) = true) ∧ Ext w5 wr) (fun i _ => o.fields.length - (Go.RowKit.intOf i).toNat)
          case atStart => exact ⟨0, Nat.zero_le _, rfl, Lib.hid rfl, Ext.refl _⟩
          case round =>
            obtain ⟨t, htl, rfl, HFA, hxt⟩ := hrel
            have HXT := Lib.hid hxt
            have n0 := (Below.block hxt w.heap.size (Array.getElem?_eq_some_iff.1 m0).1).trans m0
            have n1 := (Below.block hxt (w.heap.size + 1) (Array.getElem?_eq_some_iff.1 m1).1).trans m1
            have HO6 := Lib.hid (HO5.out.ext hxt)
            have HOB6 := Lib.hid (HOB5.out.ext hxt)
            clear hxt m0 m1 hfl1 hfl2
            by_cases ht : t < o.fields.length
            · obtain ⟨y, hy⟩ : ∃ y, o.fields[t]? = some y := ⟨_, List.getElem?_eq_getElem ht⟩
              have hy6 := HS64.out y (HFS.out y (List.mem_of_getElem? hy))
              obtain ⟨g3, eg3, _, hyc, _⟩ := HO6.out.cell (i := t) (cs := wordC y) (by rw [List.getElem?_map, hy]; rfl) (f := 0) rfl
              subst eg3
              rw [Nat.mul_one, Nat.add_zero] at hyc
              have HI := Lib.hid (fun W => refIsInt_is hy6 W)
              have HA := Lib.hid (fun W => refAt_is hy6 W)
              have HY := Lib.hid hy
              have i3 : (t : Int) < (o.fields.length : Int) := by omega
              have hok1 : Hid (fieldOK (L.map (·.1)) first y = true → (o.fields.take (t + 1)).all (fieldOK (L.map (·.1)) first) = true) := by
                intro hf
                obtain ⟨h1, h2⟩ := List.getElem?_eq_some_iff.1 hy
                rw [List.take_succ_eq_append_getElem h1, List.all_append, HFA.out, h2]
                simp [hf]
              have hno1 : Hid (fieldOK (L.map (·.1)) first y = false → allS first S = none) := by
                intro hf
                unfold allS
                rw [HOBJ.out]
                dsimp only
                refine if_neg fun h => ?_
                unfold fieldsOK at h
                have h1 := List.all_eq_true.1 h _ (List.mem_of_getElem? HXO.out)
                have h2 := List.all_eq_true.1 h1 y (List.mem_of_getElem? hy)
                rw [hf] at h2
                cases h2
              obtain ⟨hy61, hy62⟩ := hy6
              clear hy
              cases hi : isIntW y with
              | true =>
                rw [hi] at HI
                have HST := Lib.hid (hok1.out (by unfold fieldOK; rw [hi]; rfl))
                clear hi
                go_wp2_with fail
                refine (HI.out _).mono ?_
                rintro e w7 ⟨rfl, rfl⟩
                go_wp2
                exact ⟨⟨t + 1, by omega, by go_num, HST.out, HXT.out⟩, by simp [Go.RowKit.intOf]; omega⟩
              | false =>
                rw [hi] at HI HA
                obtain ⟨av, hav⟩ : ∃ av : Int, av = if false = true ∨ 4294967296 ≤ y / 2 then -1 else y / 2 := ⟨_, rfl⟩
                have hav1 : -1 ≤ av ∧ av ≤ 9223372036854775808 := by rw [hav]; split <;> omega
                rw [← hav] at HA
                have hsub : IntKind.i64.wrap (av - (first : Int)) = av - (first : Int) := by
                  have : av ≤ 4294967296 := by rw [hav]; split <;> rename_i hh <;> simp at hh <;> omega
                  exact IntWalk.i64_in _ (by omega)
                have hm := HM.out
                have HAV := Lib.hid hav
                obtain ⟨hav1, hav2⟩ := hav1
                have HI2 := Lib.hid hi
                clear hav hi
                go_wp2_with fail
                refine (HI.out _).mono ?_
                rintro e w7 ⟨rfl, rfl⟩
                go_upto_region 22 with fail
                obtain ⟨x0, x1, x2, x3⟩ := cells4 n0
                have r0 := fun d os => cell_regrown x1 d os
                have r1 := fun d os => cell_regrown x2 d os
                have r2 := fun d os => cell_regrown hyc d os
                have CA := Lib.hid (fun d os => quiet_same (HA.out (Go.Sort.grow (redrawn wr d) os)))
                clear x0 x1 x2 x3
                refine wp_region_quiet_below (by kernel_rfl) (by kernel_rfl) ?_
                repeat (first | go_big_quiet_step (exact CA.out _ _) | quiet_step (exact CA.out _ _))
                refine wpQuiet_nil ?_
                intro _ hw'
                obtain ⟨⟨dq, osq⟩, hw''⟩ := hw'
                subst hw''
                obtain ⟨W8, hW8, hx8⟩ : ∃ W8, W8 = Go.Sort.grow (redrawn wr dq) osq ∧ Ext wr W8 := ⟨_, rfl, Ext.regrown wr dq osq⟩
                rw [← hW8]
                clear hW8 r0 r1 r2
                have u1 := (Below.block hx8 (w.heap.size + 1) (Array.getElem?_eq_some_iff.1 n1).1).trans n1
                have HX8 := Lib.hid ((((HX.out.trans HX5.out)).trans HXT.out).trans hx8)
                have HXJ8 := Lib.hid ((HXT.out).trans hx8)
                have HOB8 := Lib.hid (HOB6.out.ext hx8)
                have HPL := Lib.hid (objs_fit HOBJ.out)
                clear hx8 n0 n1 hm hsub hyc
                by_cases c1 : av - (first : Int) < 0
                · have b1 : decide (av - (first : Int) < 0) = true := decide_eq_true c1
                  have hno : allS first S = none := hno1.out (by
                    unfold fieldOK
                    rw [HI2.out]
                    simp only [Bool.false_or, Bool.and_eq_false_iff, decide_eq_false_iff_not]
                    by_cases hb : 4294967296 ≤ y / 2
                    · left; omega
                    · right
                      have hv : av = y / 2 := by rw [HAV.out, if_neg (by simp; omega)]
                      refine List.any_eq_false.2 fun z hz => ?_
                      simp
                      omega)
                  have HNO := Lib.hid hno
                  clear hno
                  obtain ⟨y0, y1⟩ := cells2 u1
                  have f0 := free_at u1 (i := 0)
                  have f1 := free_at u1 (i := 1)
                  go_wp2
                  refine post_fill2 u1 fun W9 k9 hT hS9 => ?_
                  obtain ⟨y0, y1⟩ := cells2 k9
                  refine bodyPost_ret (v := zeroPV) (by simp [results, Tryz.results37, go_sem, y0, y1, zeroPV]) rfl ?_
                  rw [HNO.out]
                  exact ⟨rfl, Turn.after HX8.out hT (by simp)⟩
                · have b1 : decide (av - (first : Int) < 0) = false := decide_eq_false c1
                  have hv : av = y / 2 ∧ y / 2 < 4294967296 := by
                    have h0 := HAV.out
                    by_cases hb : 4294967296 ≤ y / 2
                    · rw [if_pos (.inr hb)] at h0; omega
                    · rw [if_neg (by simp; omega)] at h0; exact ⟨h0, by omega⟩
                  obtain ⟨hv1, hv2⟩ := hv
                  obtain ⟨ii, hii⟩ := Int.eq_ofNat_of_zero_le (show 0 ≤ av - (first : Int) by omega)
                  have hfo : fieldOK (L.map (·.1)) first y = L.any fun x => x.1 == ii := by
                    unfold fieldOK
                    rw [HI2.out, decide_eq_true hv2, List.any_map]
                    simp only [Bool.false_or, Bool.true_and]
                    congr 1
                    funext x
                    simp only [Function.comp_apply]
                    rw [Bool.eq_iff_iff]
                    simp
                    omega
                  by_cases c2 : (S.length : Int) ≤ av - (first : Int)
                  · have b2 : decide ((S.length : Int) ≤ av - (first : Int)) = true := decide_eq_true c2
                    have hno : allS first S = none := hno1.out (by
                      rw [hfo]
                      refine List.any_eq_false.2 fun z hz => ?_
                      have h1 := HPL.out z hz
                      have h2 : 1 ≤ wordsO z.2 := by unfold wordsO; omega
                      simp
                      omega)
                    have HNO := Lib.hid hno
                    have HII := Lib.hid hii
                    clear hno hfo hii hv1
                    obtain ⟨y0, y1⟩ := cells2 u1
                    have f0 := free_at u1 (i := 0)
                    have f1 := free_at u1 (i := 1)
                    go_wp2
                    refine post_fill2 u1 fun W9 k9 hT hS9 => ?_
                    obtain ⟨y0, y1⟩ := cells2 k9
                    refine bodyPost_ret (v := zeroPV) (by simp [results, Tryz.results37, go_sem, y0, y1, zeroPV]) rfl ?_
                    rw [HNO.out]
                    exact ⟨rfl, Turn.after HX8.out hT (by simp)⟩
                  · have b2 : decide ((S.length : Int) ≤ av - (first : Int)) = false := decide_eq_false c2
                    have hil : ii ≤ S.length := by omega
                    obtain ⟨g4, eg4, _, hbc, _⟩ := HOB8.out.cell (begs_at hil) (f := 0) (u := .bool (L.any fun x => x.1 == ii)) rfl
                    obtain ⟨rfl, _⟩ := Addr.mk.inj (Option.some.inj eg4)
                    rw [Nat.mul_one, Nat.add_zero] at hbc
                    have j1 : (0 : Int) ≤ av - (first : Int) := by omega
                    have j2 : av - (first : Int) < (S.length : Int) + 1 := by omega
                    have j3 : (av - (first : Int)).toNat = ii := by omega
                    generalize (L.any fun x => x.1 == ii) = bb at hfo hbc
                    have HII := Lib.hid hii
                    have HFO := Lib.hid hfo
                    clear hii hv1 hfo eg4
                    cases bb with
                    | false =>
                      have HNO := Lib.hid (hno1.out HFO.out)
                      obtain ⟨y0, y1⟩ := cells2 u1
                      have f0 := free_at u1 (i := 0)
                      have f1 := free_at u1 (i := 1)
                      go_wp2
                      refine post_fill2 u1 fun W9 k9 hT hS9 => ?_
                      obtain ⟨y0, y1⟩ := cells2 k9
                      refine bodyPost_ret (v := zeroPV) (by simp [results, Tryz.results37, go_sem, y0, y1, zeroPV]) rfl ?_
                      rw [HNO.out]
                      exact ⟨rfl, Turn.after HX8.out hT (by simp)⟩
                    | true =>
                      have HST := Lib.hid (hok1.out HFO.out)
                      go_wp2
                      exact ⟨⟨t + 1, by omega, by go_num, HST.out, HXJ8.out⟩, by simp [Go.RowKit.intOf]; omega⟩
            · obtain rfl : t = o.fields.length := by omega
              have i3 : ¬ (o.fields.length : Int) < (o.fields.length : Int) := by omega
              have hst : (L.take (j + 1)).all (fun x => x.2.fields.all (fieldOK (L.map (·.1)) first)) = true := by
                obtain ⟨h1, h2⟩ := List.getElem?_eq_some_iff.1 HXO.out
                have h3 := HFA.out
                rw [List.take_length] at h3
                rw [List.take_succ_eq_append_getElem h1, List.all_append, HAL.out, h2]
                simp only [List.all_cons, List.all_nil, h3, Bool.and_true]
              have HST := Lib.hid hst
              clear hst
              go_wp2
              exact ⟨⟨j + 1, by omega, by go_num, HST.out, HX5.out.trans HXT.out⟩, by simp [Go.RowKit.intOf]; omega⟩
        · obtain rfl : j = L.length := by omega
          have i2 : ¬ (L.length : Int) < (L.length : Int) := by omega
          have hal := HAL.out
          rw [List.take_length] at hal
          have hall : allS first S = some L := by
            unfold allS
            rw [HOBJ.out]
            dsimp only
            exact if_pos hal
          have HALL := Lib.hid hall
          have hpls : ∀ x ∈ L, x.1 < 4000 := fun x hx => by have := HLT.out x hx; omega
          have HPLS := Lib.hid hpls
          have hm0 : OwnP wr (bg + 1) 3 (.slice qv L.length cv) 1 (mixC first L 0) := by
            rw [mixC_zero]; exact HOVJ.out
          have HM0 := Lib.hid hm0
          have HXK := Lib.hid (HX.out.trans HXJ.out)
          have hbsk : bg < wr.heap.size := by have := HXJ.out.size; omega
          have hwk : w.heap.size ≤ bg := by omega
          clear hal hall hpls hm0 hfl1 hfl2 HAL HXJ
          generalize wr = wk at *
          go_wp2_with fail
          clear z0 z1
          go_loopw [14] (fun i wr => ∃ k : Nat, k ≤ L.length ∧ i = .int .i64 k ∧ OwnP wr (bg + 1) 3 (.slice qv L.length cv) 1 (mixC first L k) ∧ Below (bg + 1) wk wr) (fun i _ => L.length - (Go.RowKit.intOf i).toNat)
          case atStart => exact ⟨0, Nat.zero_le _, rfl, HM0.out, Below.refl _ _⟩
          case round =>
            obtain ⟨k, hk, rfl, hown, hb⟩ := hrel
            have HOW := Lib.hid hown
            have HB := Lib.hid hb
            have m0 := (Below.block hb w.heap.size (by omega)).trans l0
            have m1 := (Below.block hb (w.heap.size + 1) (by omega)).trans l1
            have m3 := (Below.block hb pb (by omega)).trans l3
            obtain ⟨z0, z1⟩ := cells2 m3
            by_cases hkl : k < L.length
            · obtain ⟨x, hx⟩ : ∃ x, L[k]? = some x := ⟨_, List.getElem?_eq_getElem hkl⟩
              have hxp := HPLS.out x (List.mem_of_getElem? hx)
              have hrow : (mixC first L k)[k]? = some [.int .i64 (x.1 : Int)] := mixC_at hx
              obtain ⟨g5, eg5, hgb, y0, f0⟩ := hown.cell hrow (f := 0) rfl
              subst eg5
              rw [Nat.mul_one, Nat.add_zero] at y0 f0
              have hst := hown.store (f := 0) hrow (by omega) (u := .int .i64 ((x.1 : Int) + (first : Int))) rfl
              have HST := Lib.hid (show OwnP (wr.setCell ⟨g5, k, none⟩ (.int .i64 ((x.1 : Int) + (first : Int)))) (bg + 1) 3 (.slice (some ⟨g5, 0, none⟩) L.length cv) 1 (mixC first L (k + 1)) by
                rw [mixC_step hx]
                rw [Nat.mul_one, Nat.add_zero] at hst
                exact hst)
              have HB9 := Lib.hid (show Below (bg + 1) wk (wr.setCell ⟨g5, k, none⟩ (.int .i64 ((x.1 : Int) + (first : Int)))) from Below.setCell hb hgb _)
              obtain ⟨x0, x1, x2, x3⟩ := cells4 m0
              have i3 : (k : Int) < (L.length : Int) := by omega
              have hm := HM.out
              have hadd : IntKind.i64.wrap ((x.1 : Int) + (first : Int)) = (x.1 : Int) + (first : Int) := IntWalk.i64_in _ (by omega)
              clear hx hown hb hrow hst m0 m1 m3 l0 l1 l3 z1 x0 x3 hgb
              go_upto_region 28 with fail
              refine wp_region_noPanic ?_
              refine wp_region_last 12 (S := (fun w' => w'.cell? ⟨pb, 0, none⟩ = some (.slice (some ⟨g5, 0, none⟩) L.length cv) ∧ w'.cell? ⟨g5, k, none⟩ = some (.int .i64 (x.1 : Int)) ∧ w'.frozen? ⟨g5, k, none⟩ = false ∧ w'.cell? ⟨w.heap.size, 1, none⟩ = some (.int .i64 h.half) ∧ w'.cell? ⟨w.heap.size, 2, none⟩ = some (.int .i64 h.space))) (by kernel_rfl) (by kernel_rfl) _ rfl ?_ (fun hHeld => ?_)
              · (exact ⟨(Ext.drew _).cell z0, (Ext.drew _).cell y0, ((Ext.drew _).frozen y0).trans f0, (Ext.drew _).cell x1, (Ext.drew _).cell x2⟩)
              simp only [List.take_succ_cons, List.take_zero]
              refine wpAnyH_take (i := 0) (v := ?v1) rfl (by kernel_rfl) (by kernel_rfl) (by kernel_rfl) (fun _ _ _ h => h) (Or.inl ⟨by rfl, ?y1⟩) (by assumption) ?r1
              case y1 => intro w hSw; (try dsimp only at hSw); go_simp; (try with_reducible rfl)
              (try simp only [Act.put, List.setIfInBounds_toArray, List.set_cons_zero, List.set_cons_succ, List.getElem_toArray, List.getElem_cons_zero, List.getElem_cons_succ])
              refine wpAnyH_take (i := 1) (v := ?v2) rfl (by kernel_rfl) (by kernel_rfl) (by kernel_rfl) (fun _ _ _ h => h) (Or.inl ⟨by rfl, ?y2⟩) (by assumption) ?r2
              case y2 => intro w hSw; (try dsimp only at hSw); go_simp; (try with_reducible rfl)
              (try simp only [Act.put, List.setIfInBounds_toArray, List.set_cons_zero, List.set_cons_succ, List.getElem_toArray, List.getElem_cons_zero, List.getElem_cons_succ])
              refine wpAnyH_take (i := 2) (v := ?v3) rfl (by kernel_rfl) (by kernel_rfl) (by kernel_rfl) (fun _ _ _ h => h) (Or.inl ⟨by rfl, ?y3⟩) (by assumption) ?r3
              case y3 => intro w hSw; (try dsimp only at hSw); go_simp; (try with_reducible rfl)
              (try simp only [Act.put, List.setIfInBounds_toArray, List.set_cons_zero, List.set_cons_succ, List.getElem_toArray, List.getElem_cons_zero, List.getElem_cons_succ])
              refine wpAnyH_take (i := 3) (v := ?v4) rfl (by kernel_rfl) (by kernel_rfl) (by kernel_rfl) (fun _ _ _ h => h) (Or.inl ⟨by rfl, ?y4⟩) (by assumption) ?r4
              case y4 => intro w hSw; (try dsimp only at hSw); go_simp; (try with_reducible rfl)
              (try simp only [Act.put, List.setIfInBounds_toArray, List.set_cons_zero, List.set_cons_succ, List.getElem_toArray, List.getElem_cons_zero, List.getElem_cons_succ])
              refine wpAnyH_take (i := 4) (v := ?v5) rfl (by kernel_rfl) (by kernel_rfl) (by kernel_rfl) (fun _ _ _ h => h) (Or.inl ⟨by rfl, ?y5⟩) (by assumption) ?r5
              case y5 => intro w hSw; (try dsimp only at hSw); go_simp; (try with_reducible rfl)
              (try simp only [Act.put, List.setIfInBounds_toArray, List.set_cons_zero, List.set_cons_succ, List.getElem_toArray, List.getElem_cons_zero, List.getElem_cons_succ])
              refine wpAnyH_take (i := 5) (v := ?v6) rfl (by kernel_rfl) (by kernel_rfl) (by kernel_rfl) (fun _ _ _ h => h) (Or.inl ⟨by rfl, ?y6⟩) (by assumption) ?r6
              case y6 => intro w hSw; (try dsimp only at hSw); go_simp; (try with_reducible rfl)
              (try simp only [Act.put, List.setIfInBounds_toArray, List.set_cons_zero, List.set_cons_succ, List.getElem_toArray, List.getElem_cons_zero, List.getElem_cons_succ])
              refine wpAnyH_take (i := 6) (v := ?v7) rfl (by kernel_rfl) (by kernel_rfl) (by kernel_rfl) (fun _ _ _ h => h) (Or.inl ⟨by rfl, ?y7⟩) (by assumption) ?r7
              case y7 => intro w hSw; (try dsimp only at hSw); go_simp; (try with_reducible rfl)
              (try simp only [Act.put, List.setIfInBounds_toArray, List.set_cons_zero, List.set_cons_succ, List.getElem_toArray, List.getElem_cons_zero, List.getElem_cons_succ])
              refine wpAnyH_take (i := 7) (v := ?v8) rfl (by kernel_rfl) (by kernel_rfl) (by kernel_rfl) (fun _ _ _ h => h) (Or.inl ⟨by rfl, ?y8⟩) (by assumption) ?r8
              case y8 => intro w hSw; (try dsimp only at hSw); go_simp; (try with_reducible rfl)
              (try simp only [Act.put, List.setIfInBounds_toArray, List.set_cons_zero, List.set_cons_succ, List.getElem_toArray, List.getElem_cons_zero, List.getElem_cons_succ])
              refine wpAnyH_take (i := 8) (v := ?v9) rfl (by kernel_rfl) (by kernel_rfl) (by kernel_rfl) (fun _ _ _ h => h) (Or.inl ⟨by rfl, ?y9⟩) (by assumption) ?r9
              case y9 => intro w hSw; (try dsimp only at hSw); go_simp; (try with_reducible rfl)
              (try simp only [Act.put, List.setIfInBounds_toArray, List.set_cons_zero, List.set_cons_succ, List.getElem_toArray, List.getElem_cons_zero, List.getElem_cons_succ])
              refine wpAnyH_take (i := 9) (v := ?v10) rfl (by kernel_rfl) (by kernel_rfl) (by kernel_rfl) (fun _ _ _ h => h) (Or.inl ⟨by rfl, ?y10⟩) (by assumption) ?r10
              case y10 => intro w hSw; (try dsimp only at hSw); go_simp; (try with_reducible rfl)
              (try simp only [Act.put, List.setIfInBounds_toArray, List.set_cons_zero, List.set_cons_succ, List.getElem_toArray, List.getElem_cons_zero, List.getElem_cons_succ])
              refine wpAnyH_take (i := 10) (v := ?v11) rfl (by kernel_rfl) (by kernel_rfl) (by kernel_rfl) (fun _ _ _ h => h) (Or.inl ⟨by rfl, ?y11⟩) (by assumption) ?r11
              case y11 => intro w hSw; (try dsimp only at hSw); go_simp; (try with_reducible rfl)
              (try simp only [Act.put, List.setIfInBounds_toArray, List.set_cons_zero, List.set_cons_succ, List.getElem_toArray, List.getElem_cons_zero, List.getElem_cons_succ])
              refine wpAnyH_take (i := 11) (v := ?v12) rfl (by kernel_rfl) (by kernel_rfl) (by kernel_rfl) (fun _ _ _ h => h) (Or.inl ⟨by rfl, ?y12⟩) (by assumption) ?r12
              case y12 => intro w hSw; (try dsimp only at hSw); go_simp; (try with_reducible rfl)
              (try simp only [Act.put, List.setIfInBounds_toArray, List.set_cons_zero, List.set_cons_succ, List.getElem_toArray, List.getElem_cons_zero, List.getElem_cons_succ])
              refine wpAnyH_done (by kernel_rfl) ?_ _
              show wpList _ _ _ _ _ _
              go_wp2
              refine NoPanic.normal ?_
              go_wp2
              exact ⟨⟨k + 1, by omega, by go_num, HST.out.ext (Ext.drew _), Below.drew HB9.out⟩, by simp [Go.RowKit.intOf]; omega⟩
            · obtain rfl : k = L.length := by omega
              have i3 : ¬ (L.length : Int) < (L.length : Int) := by omega
              have hown := HOW.out
              rw [mixC_all] at hown
              have HOE := Lib.hid hown
              clear hown HOW
              obtain ⟨y0, y1⟩ := cells2 m1
              have f0 := free_at m1 (i := 0)
              have f1 := free_at m1 (i := 1)
              go_wp2
              refine post_fill2 m1 fun W9 k9 hT hS9 => ?_
              obtain ⟨y0, y1⟩ := cells2 k9
              refine bodyPost_ret (v := .agg #[.slice qv L.length cv, .bool true]) (by simp [results, Tryz.results37, go_sem, y0, y1]) rfl ?_
              rw [HALL.out]
              refine ⟨qv, cv, rfl, (HOE.out.turn hT (fun b hb hm => by have := (HOE.out.own b hb).1; rw [List.mem_singleton.1 hm] at this; omega)).mono (by omega), ?_⟩
              exact Turn.after (HXK.out.go HB.out (by omega)) hT (by simp)
end Go.Proofs.YtinakendlpomnaaGreat
/- A heap's functions (the reference's): All, Is. -/
namespace Go.Proofs.YtinakendlpomnaaGreat
open Go.RowKit Go.Maps Arena
set_option maxHeartbeats 4000000
set_option maxRecDepth 100000
theorem rall_is {w : World} {q gq B n : Nat} {ws : List Int} {vR : Value} {R : List (Nat × Nat)} (H : RefAt w q gq B n ws vR R) (h : Hp) (hW : ∀ x ∈ ws, W64 x) :
    Calls Tryz.prog 37 #[.pointer (some ⟨q, 0, none⟩), .agg #[.int .i64 h.base, .int .i64 h.half, .int .i64 h.space, .int .i64 h.top]] w (RAllSaid (allH ws R h) (firstN h) w) := by
  unfold allH
  cases ht : thereB R h with
  | false => exact rall_no H h ht
  | true => rw [if_pos rfl]; exact rall_yes H h hW ht
theorem RAllSaid.open {r : Option (List (Nat × Ob))} {first : Nat} {w : World} {e : Ending} {w' : World} (h : RAllSaid r first w e w') : ∃ (q : Option Addr) (l c : Nat), e = .returned (.agg #[.slice q l c, .bool r.isSome]) ∧ Ext w w' ∧ (r = none → q = none ∧ l = 0 ∧ c = 0) ∧
    ∀ L, r = some L → l = L.length ∧ OwnP w' w.heap.size 3 (.slice q L.length c) 1 (L.map (plC first)) := by
  cases r with
  | none => exact ⟨none, 0, 0, h.1, h.2, fun _ => ⟨rfl, rfl, rfl⟩, fun L h => by cases h⟩
  | some L =>
    obtain ⟨q, c, h1, h2, h3⟩ := h
    exact ⟨q, L.length, c, h1, h3, (fun h => by cases h), fun L' e => by obtain rfl := Option.some.inj e; exact ⟨rfl, h2⟩⟩
theorem ris_is {q : Option Addr} {c first : Nat} {L : List (Nat × Ob)} {ok : Bool} {x : Int} (hx : W64 x) (w : World) (hR : RowsP w (.slice q L.length c) 1 (L.map (plC first))) (hl : L.length ≤ 100000) :
    Calls Tryz.prog 38 #[.agg #[.slice q L.length c, .bool ok], .int .u64 x] w fun e w' => e = .returned (.bool (fieldOK (L.map (·.1)) first x)) ∧ Ext w w' := by
  have HI := Lib.hid (fun W => refIsInt_is hx W)
  have HA := Lib.hid (fun W => refAt_is hx W)
  cases hi : isIntW x with
  | true =>
    have hr : fieldOK (L.map (·.1)) first x = true := by unfold fieldOK; rw [hi]; rfl
    rw [hr]
    rw [hi] at HI
    clear hi hr HA hR
    go_enter Tryz.func38, Tryz.ntmps38
    go_wp2_with fail
    refine (HI.out _).mono ?_
    rintro e w1 ⟨rfl, rfl⟩
    go_wp2
    go_ret
    exact ⟨rfl, Ext.alloc _ _⟩
  | false =>
    rw [hi] at HI HA
    obtain ⟨av, hav⟩ : ∃ av : Int, av = if false = true ∨ 4294967296 ≤ x / 2 then -1 else x / 2 := ⟨_, rfl⟩
    rw [← hav] at HA
    have hfo : fieldOK (L.map (·.1)) first x = L.any fun y => decide (((first + y.1 : Nat) : Int) = av) := by
      unfold fieldOK
      rw [hi, List.any_map]
      by_cases hb : 4294967296 ≤ x / 2
      · rw [if_pos (.inr hb)] at hav
        rw [decide_eq_false (by omega), hav]
        simp only [Bool.false_or, Bool.false_and]
        symm
        refine List.any_eq_false.2 fun z _ => ?_
        simp
        omega
      · rw [if_neg (by simp; omega)] at hav
        rw [decide_eq_true (by omega), hav]
        rfl
    rw [hfo]
    obtain ⟨rs, hrs⟩ : ∃ rs, rs = L.any fun y => decide (((first + y.1 : Nat) : Int) = av) := ⟨_, rfl⟩
    rw [← hrs]
    have HRS := Lib.hid hrs
    clear hrs
    have HR := Lib.hid (fun W (e : Ext w W) => hR.ext e)
    have ha2 : -1 ≤ av ∧ av ≤ 4294967296 := by have := hx.1; have := hx.2; rw [hav]; split <;> rename_i hh <;> simp at hh <;> omega
    obtain ⟨ha3, ha4⟩ := ha2
    clear hav hfo hi hR hx
    go_enter Tryz.func38, Tryz.ntmps38
    go_wp2_with fail
    refine at_alloc1 fun W hE hS b0 => ?_
    obtain ⟨z0, z1⟩ := cells2 b0
    refine (HI.out _).mono ?_
    rintro e w1 ⟨rfl, rfl⟩
    go_wp2_with fail
    refine (HA.out _).mono ?_
    rintro e w1 ⟨rfl, rfl⟩
    go_wp2_with fail
    have HE := Lib.hid hE
    clear hS b0 hE
    go_loop [6] (fun i => ∃ k : Nat, k ≤ L.length ∧ i = .int .i64 k ∧ Hid ((L.take k).any (fun y => decide (((first + y.1 : Nat) : Int) = av)) = false)) (fun i => L.length - (Go.RowKit.intOf i).toNat)
    case atStart => exact ⟨0, Nat.zero_le _, rfl, Lib.hid rfl⟩
    case round =>
      obtain ⟨k, hk, rfl, HNO⟩ := hrel
      by_cases hkl : k < L.length
      · obtain ⟨y, hy⟩ : ∃ y, L[k]? = some y := ⟨_, List.getElem?_eq_getElem hkl⟩
        obtain ⟨q2, c2, hv2, _, _, hcell⟩ := (HR.out W HE.out).at
        obtain ⟨gb, go, hq, hc⟩ := hcell k (plC first y) (by rw [List.getElem?_map, hy]; rfl)
        obtain ⟨hq1, -, -⟩ := Value.slice.inj hv2
        rw [hq] at hq1
        subst hq1
        have hc0 := hc 0 _ rfl
        rw [Nat.mul_one, Nat.add_zero] at hc0
        obtain ⟨pv, hpv⟩ : ∃ pv : Int, pv = ((first + y.1 : Nat) : Int) := ⟨_, rfl⟩
        rw [← hpv] at hc0
        have i1 : (k : Int) < (L.length : Int) := by omega
        have HY := Lib.hid hy; have HPV := Lib.hid hpv
        clear hy hcell hc hv2 hpv
        by_cases he : pv = av
        · have e1 : (pv == av) = true := by simp [he]
          have hyes : (L.any fun y => decide (((first + y.1 : Nat) : Int) = av)) = true := List.any_eq_true.2 ⟨y, List.mem_of_getElem? HY.out, by rw [← HPV.out, he]; simp⟩
          have HYES := Lib.hid hyes
          clear he hyes
          go_wp2
          go_ret
          rw [HRS.out, HYES.out]
          exact ⟨rfl, HE.out⟩
        · have e1 : (pv == av) = false := beq_false_of_ne he
          have hst : (L.take (k + 1)).any (fun y => decide (((first + y.1 : Nat) : Int) = av)) = false := by
            obtain ⟨h1, h2⟩ := List.getElem?_eq_some_iff.1 HY.out
            rw [List.take_succ_eq_append_getElem h1, List.any_append, HNO.out, h2]
            simp only [List.any_cons, List.any_nil, Bool.or_false, Bool.false_or]
            rw [← HPV.out]
            exact decide_eq_false he
          have HST := Lib.hid hst
          clear he hst
          go_wp2
          go_round
          case rel => exact ⟨k + 1, by omega, by go_num, HST.out⟩
          case measure => simp [Go.RowKit.intOf]; omega
      · obtain rfl : k = L.length := by omega
        have i1 : ¬ (L.length : Int) < (L.length : Int) := by omega
        have hno := HNO.out
        rw [List.take_length] at hno
        have HN2 := Lib.hid hno
        clear hno
        go_wp2
        go_ret
        rw [HRS.out, HN2.out]
        exact ⟨rfl, HE.out⟩
end Go.Proofs.YtinakendlpomnaaGreat
