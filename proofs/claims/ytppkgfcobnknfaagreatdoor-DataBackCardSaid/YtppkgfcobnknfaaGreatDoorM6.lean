/- Proved here: the contracts and laws of ObjY, ObjZ, ObjZA, ObjZB, ObjZC, ObjZD, ObjZE, ObjZF, ObjZG, ObjZH, ObjZI, ObjRA of this claim, each beneath its own remark; conditions: those that each theorem names. -/
import Derived.Test.YtppkgfcobnknfaaGreatDoorM5
import Derived.Test.YtppkgfcobnknfaaGreatDoorM2
import Derived.IntWalk
/- What stands at a place of words (the reference's): plain; laying out; no object there. -/
namespace Go.Proofs.YtppkgfcobnknfaaGreatDoor
open Go.RowKit Go.Maps Arena
set_option maxHeartbeats 4000000
set_option maxRecDepth 100000
/-- what is read at a place, whether it may be or not -/
def rawO (hd : Int) (r : List Int) : Ob := if hd % 256 = 2 then ⟨2, hd / 256 % 16777216, [], ⟨((bytesOf (r.take (((hd / 4294967296).toNat + 7) / 8))).take (hd / 4294967296).toNat).toArray⟩⟩ else ⟨hd % 256, hd / 256 % 16777216, r.take (hd / 4294967296).toNat, ByteArray.empty⟩
theorem head_back {hd : Int} {sz : Nat} (hw : W64 hd) (hsz : hd / 4294967296 = sz) : hd % 256 + 256 * (hd / 256 % 16777216) + 4294967296 * (sz : Int) = hd := by
  obtain ⟨h0, h1⟩ := hw
  omega
theorem readS_ref {hd : Int} {r : List Int} {sz : Nat} (hw : W64 hd) (hr : ∀ x ∈ r, W64 x) (hsz : hd / 4294967296 = sz) :
    readS (hd :: r) = if sz ≤ 400 ∧ bodyK (hd % 256) sz sz ≤ r.length ∧ mayO (rawO hd r) = true ∧ layO (rawO hd r) = (hd :: r).take (wordsO (rawO hd r)) then some (rawO hd r) else none := by
  have hsn : (hd / 4294967296).toNat = sz := by omega
  by_cases h2 : hd % 256 = 2
  · rw [readS_text h2 rfl hsz]
    have hro : rawO hd r = ⟨2, hd / 256 % 16777216, [], ⟨((bytesOf (r.take ((sz + 7) / 8))).take sz).toArray⟩⟩ := by unfold rawO; rw [if_pos h2, hsn]
    rw [hro, h2]
    have hb : bodyK 2 sz sz = (sz + 7) / 8 := rfl
    rw [hb]
    by_cases hs : sz ≤ 400 ∧ (sz + 7) / 8 ≤ r.length
    · obtain ⟨hs1, hs2⟩ := hs
      have htl : (r.take ((sz + 7) / 8)).length = (sz + 7) / 8 := by rw [List.length_take]; omega
      have hl : ((bytesOf (r.take ((sz + 7) / 8))).take sz).length = sz := by rw [List.length_take, bytesOf_len, htl]; omega
      have hsize : (ByteArray.mk ((bytesOf (r.take ((sz + 7) / 8))).take sz).toArray).size = sz := by rw [ByteArray.size, List.size_toArray, hl]
      have hm : mayO ⟨2, hd / 256 % 16777216, [], ⟨((bytesOf (r.take ((sz + 7) / 8))).take sz).toArray⟩⟩ = mayK 2 (hd / 256 % 16777216) 0 sz := by
        unfold mayO
        dsimp only
        rw [hsize]
        rfl
      have hwo : wordsO ⟨2, hd / 256 % 16777216, [], ⟨((bytesOf (r.take ((sz + 7) / 8))).take sz).toArray⟩⟩ = (sz + 7) / 8 + 1 := by
        unfold wordsO bodyK
        dsimp only
        rw [if_pos rfl, hsize]
        omega
      have hlay : layO ⟨2, hd / 256 % 16777216, [], ⟨((bytesOf (r.take ((sz + 7) / 8))).take sz).toArray⟩⟩ = hd :: pieces ((bytesOf (r.take ((sz + 7) / 8))).take sz) := by
        unfold layO headO bodyO headK sizeK
        dsimp only
        rw [if_pos rfl, if_pos rfl, hsize]
        congr 1
        have := head_back hw hsz
        rw [h2] at this
        exact this
      rw [hm, hwo, hlay, List.take_succ_cons]
      have hpb := pieces_back (r.take ((sz + 7) / 8)) sz (fun x hx => hr x (List.mem_of_mem_take hx)) htl.symm
      have hiff : (hd :: pieces ((bytesOf (r.take ((sz + 7) / 8))).take sz) = hd :: r.take ((sz + 7) / 8)) ↔ ((bytesOf (r.take ((sz + 7) / 8))).drop sz).all (· == 0) = true := by
        rw [← hpb]
        constructor
        · intro h; exact (List.cons.inj h).2
        · intro h; rw [h]
      by_cases hm2 : mayK 2 (hd / 256 % 16777216) 0 sz = true
      · by_cases hz : ((bytesOf (r.take ((sz + 7) / 8))).drop sz).all (· == 0) = true
        · rw [if_pos ⟨hs1, hs2, hz, hm2⟩, if_pos ⟨hs1, hs2, hm2, hiff.2 hz⟩]
        · rw [if_neg (fun h => hz h.2.2.1), if_neg (fun h => hz (hiff.1 h.2.2.2))]
      · rw [if_neg (fun h => hm2 h.2.2.2), if_neg (fun h => hm2 h.2.2.1)]
    · rw [if_neg (fun h => hs ⟨h.1, h.2.1⟩), if_neg (fun h => hs ⟨h.1, h.2.1⟩)]
  · have hb : bodyK (hd % 256) sz sz = sz := if_neg h2
    have hro : rawO hd r = ⟨hd % 256, hd / 256 % 16777216, r.take sz, ByteArray.empty⟩ := by unfold rawO; rw [if_neg h2, hsn]
    rw [hb, hro]
    by_cases hk : 1 ≤ hd % 256 ∧ hd % 256 ≤ 4
    · rw [readS_row rfl rfl hsz hk.1 hk.2 h2]
      by_cases hs : sz ≤ 400 ∧ sz ≤ r.length
      · obtain ⟨hs1, hs2⟩ := hs
        have hl : (r.take sz).length = sz := by rw [List.length_take]; omega
        have hm : mayO ⟨hd % 256, hd / 256 % 16777216, r.take sz, ByteArray.empty⟩ = mayK (hd % 256) (hd / 256 % 16777216) sz 0 := by
          unfold mayO; dsimp only; rw [hl]; rfl
        have hlay : layO ⟨hd % 256, hd / 256 % 16777216, r.take sz, ByteArray.empty⟩ = (hd :: r).take (wordsO ⟨hd % 256, hd / 256 % 16777216, r.take sz, ByteArray.empty⟩) := by
          unfold layO headO bodyO headK sizeK wordsO bodyK
          dsimp only
          rw [if_neg h2, if_neg h2, if_neg h2, hl, Nat.add_comm 1 sz, List.take_succ_cons]
          congr 1
          exact head_back hw hsz
        by_cases hm2 : mayK (hd % 256) (hd / 256 % 16777216) sz 0 = true
        · rw [if_pos ⟨hs1, hs2, hm2⟩, if_pos ⟨hs1, hs2, by rw [hm]; exact hm2, hlay⟩]
        · rw [if_neg (fun h => hm2 h.2.2), if_neg (fun h => hm2 (by rw [← hm]; exact h.2.2.1))]
      · rw [if_neg (fun h => hs ⟨h.1, h.2.1⟩), if_neg (fun h => hs ⟨h.1, h.2.1⟩)]
    · rw [readS_no rfl (by omega), if_neg]
      intro h
      have := mayK_bounds (show mayK (hd % 256) (hd / 256 % 16777216) (r.take sz).length 0 = true from h.2.2.1)
      omega
end Go.Proofs.YtppkgfcobnknfaaGreatDoor
/- What stands at a place of words (the reference's 'At'). -/
namespace Go.Proofs.YtppkgfcobnknfaaGreatDoor
open Go.RowKit Go.Maps Arena
set_option maxHeartbeats 4000000
set_option maxRecDepth 100000
def zeroRV : Value := .agg #[.int .i64 0, .int .i64 0, .slice none 0 0, .string ByteArray.empty, .bool false]
/-- what the reference's 'At' tells -/
def AtSaid (r : Option Ob) (w : World) (e : Ending) (w' : World) : Prop := match r with
  | none => e = .returned zeroRV ∧ Ext w w'
  | some o => ∃ q c, e = .returned (.agg #[.int .i64 o.kind, .int .i64 o.tag, .slice q o.fields.length c, .string o.text, .bool true]) ∧ OwnP w' w.heap.size 42 (.slice q o.fields.length c) 1 (o.fields.map wordC) ∧ Ext w w'
theorem post_fill5 {P : Program} {f : Func} {Q : Ending → World → Prop} {x : Exit} {a : Act} {w : World} {b : Nat} {x0 x1 x2 x3 x4 y0 y1 y2 y3 y4 : Value} {T : TypeId} (h0 : w.heap[b]? = some (.cells #[x0, x1, x2, x3, x4] T (0, 0)))
    (h : ∀ W : World, W.heap[b]? = some (.cells #[y0, y1, y2, y3, y4] T (0, 0)) → Turn [b] w W → W.heap.size = w.heap.size → bodyPost P f Q x a W) : bodyPost P f Q x a (((((w.setCell ⟨b, 0, none⟩ y0).setCell ⟨b, 1, none⟩ y1).setCell ⟨b, 2, none⟩ y2).setCell ⟨b, 3, none⟩ y3).setCell ⟨b, 4, none⟩ y4) :=
  h _ (fill5 h0 _ _ _ _ _).1 (fill5 h0 _ _ _ _ _).2.1 (fill5 h0 _ _ _ _ _).2.2
/-- a slot holds a number, the world is as it was -/
def NumSame (v : Value) (n : Nat) (w w' : World) : Prop := v = .int .i64 n ∧ w = w'
theorem fill_step {BL : List UInt8} {n k : Nat} {c : UInt8} (hl : BL.length = n) (hk : k < n) (hc : BL[k]? = some c) : (BL.take (k + 1) ++ List.replicate (n - (k + 1)) 0).map byteC = ((BL.take k ++ List.replicate (n - k) 0).map byteC).set k (byteC c) := by
  rw [← List.map_set]
  congr 1
  apply List.ext_getElem?
  intro i
  obtain ⟨h1, h2⟩ := List.getElem?_eq_some_iff.1 hc
  have e1 : (BL.take (k + 1)).length = k + 1 := by rw [List.length_take]; omega
  have e2 : (BL.take k).length = k := by rw [List.length_take]; omega
  rcases Nat.lt_trichotomy i k with h | h | h
  · rw [List.getElem?_append_left (by omega), List.getElem?_set_ne (by omega), List.getElem?_append_left (by omega), List.getElem?_take_of_lt (by omega), List.getElem?_take_of_lt h]
  · subst h
    rw [List.getElem?_append_left (by omega), List.getElem?_take_of_lt (by omega), hc, List.getElem?_set_self (by rw [List.length_append, e2, List.length_replicate]; omega)]
  · rw [List.getElem?_set_ne (by omega), List.getElem?_append_right (by omega), List.getElem?_append_right (by omega), e1, e2, List.getElem?_replicate, List.getElem?_replicate]
    by_cases hi : i < n
    · rw [if_pos (by omega), if_pos (by omega)]
    · rw [if_neg (by omega), if_neg (by omega)]
theorem bytesOf_at : ∀ {W : List Int} {k : Nat} {x : Int}, W[k / 8]? = some x → (bytesOf W)[k]? = some (byteAt x (k % 8)) := by
  intro W
  induction W with
  | nil => intro k x h; simp at h
  | cons y W ih =>
    intro k x h
    rw [bytesOf_cons]
    by_cases hk : k < 8
    · rw [show k / 8 = 0 by omega] at h
      obtain rfl : y = x := by simpa using h
      rw [List.getElem?_append_left (by rw [bytes8_len]; exact hk)]
      simp [bytes8, byteAt, hk, Nat.mod_eq_of_lt hk]
    · rw [List.getElem?_append_right (by rw [bytes8_len]; omega), bytes8_len]
      have h2 : W[(k - 8) / 8]? = some x := by
        rw [show k / 8 = (k - 8) / 8 + 1 by omega] at h
        simpa using h
      rw [ih h2, show (k - 8) % 8 = k % 8 by omega]
end Go.Proofs.YtppkgfcobnknfaaGreatDoor
/- A heap's semispace (the reference's). -/
namespace Go.Proofs.YtppkgfcobnknfaaGreatDoor
open Go.RowKit Go.Maps Arena
set_option maxHeartbeats 4000000
set_option maxRecDepth 100000
def refSize (R : List (Nat × Nat)) (x : Int) : Int := if lenAt R x = 0 then -1 else lenAt R x
theorem size_is {w : World} {q gq B n : Nat} {ws : List Int} {vR : Value} {R : List (Nat × Nat)} {x : Int} (h : RefAt w q gq B n ws vR R) : Calls Tryz.prog 55 #[.pointer (some ⟨q, 0, none⟩), .int .i64 x] w fun e w' => e = .returned (.int .i64 (refSize R x)) ∧ w = w' := by
  unfold refSize
  by_cases h0 : lenAt R x = 0
  · rw [if_pos h0]; exact size_no h h0
  · rw [if_neg h0]
    obtain ⟨i, hi, rfl, hl⟩ := lenAt_some' h.good h0
    rw [hl]
    exact size_yes h (List.getElem_mem hi)
/-- the semispace's value -/
def semiV (gq : Nat) (R : List (Nat × Nat)) (h : Hp) : Value := if thereB R h = true then .slice (some ⟨gq, h.base.toNat + (if h.top = 0 then 0 else firstN h), none⟩) h.top.toNat h.top.toNat else .slice none 0 0
theorem semiV_no {gq : Nat} {R : List (Nat × Nat)} {h : Hp} (hn : ¬ (hpOK h ∧ (lenAt R h.base : Int) = 2 * h.half)) : semiV gq R h = .slice none 0 0 := by
  unfold semiV
  rw [if_neg (fun ht => hn (thereB_ok ht))]
end Go.Proofs.YtppkgfcobnknfaaGreatDoor
/- All objects of a heap (the reference's): the pieces. -/
namespace Go.Proofs.YtppkgfcobnknfaaGreatDoor
open Go.RowKit Go.Maps Arena
set_option maxHeartbeats 4000000
set_option maxRecDepth 100000
theorem semi_rows {w : World} {q gq B n : Nat} {ws : List Int} {vR : Value} {R : List (Nat × Nat)} (H : RefAt w q gq B n ws vR R) (h : Hp) (ht : thereB R h = true) :
    RowsP w (.slice (some ⟨gq, h.base.toNat + (if h.top = 0 then 0 else firstN h), none⟩) (semi ws R h).length h.top.toNat) 1 ((semi ws R h).map wordC) := by
  have hl := semi_len H.good H.len ht
  by_cases h0 : h.top = 0
  · have hn : semi ws R h = [] := List.eq_nil_of_length_eq_zero (by rw [hl, h0]; rfl)
    rw [hn]
    exact ⟨(fun _ h => (by cases h)), Or.inl ⟨.inr ⟨_, _, rfl, by rw [h0]; unfold maxLen; omega⟩, rfl⟩⟩
  · rw [if_neg h0]
    have hok := (thereB_ok ht).1
    have hla := (thereB_ok ht).2
    have hfi := firstN_is hok
    obtain ⟨a1, a2, a3, a4, a5, a6⟩ := hok
    obtain ⟨i, hi, hri, hlr⟩ := lenAt_some' H.good (x := h.base) (by omega)
    have hbr := H.good.2 R[i] (List.getElem_mem hi)
    have hn := H.least
    refine ⟨wordC_rows _, .inr ⟨gq, h.base.toNat + firstN h, h.top.toNat, by rw [List.length_map], by rw [List.length_map, hl]; exact Nat.le_refl _, by unfold maxLen; omega, fun j u hu => ?_⟩⟩
    rw [wordC_flat, List.getElem?_map] at hu
    obtain ⟨x, hx, rfl⟩ := Option.map_eq_some_iff.1 hu
    have hjl := (List.getElem?_eq_some_iff.1 hx).1
    rw [hl] at hjl
    rw [Nat.add_assoc, (H.word (i := h.base.toNat + (firstN h + j)) (by omega)).1]
    have := semi_at H.good H.len ht hx
    unfold getW at this
    rw [if_pos (by unfold within; rw [decide_eq_true]; exact ⟨by omega, by omega⟩)] at this
    rw [show (h.base + ((firstN h + j : Nat) : Int)).toNat = h.base.toNat + (firstN h + j) by omega] at this
    rw [this]
theorem semiV_yes {gq : Nat} {ws : List Int} {R : List (Nat × Nat)} {h : Hp} {n : Nat} (hg : Arena.Good n R) (hl : ws.length = n) (ht : thereB R h = true) : semiV gq R h = .slice (some ⟨gq, h.base.toNat + (if h.top = 0 then 0 else firstN h), none⟩) (semi ws R h).length h.top.toNat := by
  unfold semiV
  rw [if_pos ht, semi_len hg hl ht]
/-- which words begin an object -/
def begC (L : List (Nat × Ob)) (i : Nat) : List Value := [.bool (L.any fun x => x.1 == i)]
def begs (n : Nat) (L : List (Nat × Ob)) : List (List Value) := (List.range (n + 1)).map (begC L)
theorem begs_len (n : Nat) (L : List (Nat × Ob)) : (begs n L).length = n + 1 := by unfold begs; rw [List.length_map, List.length_range]
theorem begs_at {n : Nat} {L : List (Nat × Ob)} {i : Nat} (h : i ≤ n) : (begs n L)[i]? = some (begC L i) := by
  unfold begs
  rw [List.getElem?_map, List.getElem?_range (by omega)]
  rfl
theorem begs_nil (n : Nat) : begs n [] = List.replicate (n + 1) [.bool false] := by
  unfold begs
  rw [List.eq_replicate_iff]
  refine ⟨by simp, fun b hb => ?_⟩
  obtain ⟨i, _, rfl⟩ := List.mem_map.1 hb
  rfl
theorem begs_set {n p : Nat} {L : List (Nat × Ob)} {o : Ob} (hp : p ≤ n) : begs n (L ++ [(p, o)]) = (begs n L).set p ((begC L p).set 0 (.bool true)) := by
  apply List.ext_getElem?
  intro i
  by_cases hi : i ≤ n
  · rw [begs_at hi]
    by_cases he : p = i
    · subst he
      rw [List.getElem?_set_self (by rw [begs_len]; omega)]
      simp [begC]
    · rw [List.getElem?_set_ne he, begs_at hi]
      simp [begC, he]
  · rw [List.getElem?_eq_none (by rw [begs_len]; omega), List.getElem?_eq_none (by rw [List.length_set, begs_len]; omega)]
def zeroPV : Value := .agg #[.slice none 0 0, .bool false]
/-- what the reference's 'All' tells -/
def RAllSaid (r : Option (List (Nat × Ob))) (first : Nat) (w : World) (e : Ending) (w' : World) : Prop := match r with
  | none => e = .returned zeroPV ∧ Ext w w'
  | some L => ∃ q c, e = .returned (.agg #[.slice q L.length c, .bool true]) ∧ OwnP w' w.heap.size 3 (.slice q L.length c) 1 (L.map (plC first)) ∧ Ext w w'
theorem post_fill2 {P : Program} {f : Func} {Q : Ending → World → Prop} {x : Exit} {a : Act} {w : World} {b : Nat} {x0 x1 y0 y1 : Value} {T : TypeId} (h0 : w.heap[b]? = some (.cells #[x0, x1] T (0, 0)))
    (h : ∀ W : World, W.heap[b]? = some (.cells #[y0, y1] T (0, 0)) → Turn [b] w W → W.heap.size = w.heap.size → bodyPost P f Q x a W) : bodyPost P f Q x a ((w.setCell ⟨b, 0, none⟩ y0).setCell ⟨b, 1, none⟩ y1) :=
  h _ (fill2 h0 _ _).1 (fill2 h0 _ _).2.1 (fill2 h0 _ _).2.2
theorem AtSaid.open {r : Option Ob} {w : World} {e : Ending} {w' : World} (h : AtSaid r w e w') : ∃ (kd tg : Int) (q : Option Addr) (l c : Nat) (s : ByteArray), e = .returned (.agg #[.int .i64 kd, .int .i64 tg, .slice q l c, .string s, .bool r.isSome]) ∧ Ext w w' ∧ (r = none → (.agg #[.int .i64 kd, .int .i64 tg, .slice q l c, .string s] : Value) = zeroOV) ∧
    ∀ o, r = some o → ObV w' w.heap.size (.agg #[.int .i64 kd, .int .i64 tg, .slice q l c, .string s]) o := by
  cases r with
  | none => exact ⟨0, 0, none, 0, 0, ByteArray.empty, h.1, h.2, fun _ => rfl, fun o h => by cases h⟩
  | some o =>
    obtain ⟨q, c, h1, h2, h3⟩ := h
    exact ⟨_, _, q, _, c, _, h1, h3, (fun h => by cases h), fun o' e => by obtain rfl := Option.some.inj e; exact ⟨q, c, rfl, h2⟩⟩
theorem refwords_is (o : Ob) (c : Nat) (q : Option Addr) (W : World) : Calls Tryz.prog 39 #[.agg #[.int .i64 o.kind, .int .i64 o.tag, .slice q o.fields.length c, .string o.text]] W fun e w' => e = .returned (.int .i64 ((if mayO o = true then wordsO o else 0 : Nat) : Int)) ∧ Ext W w' := by
  by_cases hm : mayO o = true
  · rw [if_pos hm]
    exact rwords_yes o.kind o.tag o.fields.length c q o.text W hm
  · rw [if_neg hm]
    exact rwords_no o.kind o.tag o.fields.length c q o.text W (by cases e : mayO o with | true => exact absurd e hm | false => exact e)
end Go.Proofs.YtppkgfcobnknfaaGreatDoor
/- All objects of a heap (the reference's), where there is no such heap. -/
namespace Go.Proofs.YtppkgfcobnknfaaGreatDoor
open Go.RowKit Go.Maps Arena
set_option maxHeartbeats 4000000
set_option maxRecDepth 100000
end Go.Proofs.YtppkgfcobnknfaaGreatDoor
/- All objects of a heap (the reference's), where there is such a heap. -/
namespace Go.Proofs.YtppkgfcobnknfaaGreatDoor
open Go.RowKit Go.Maps Arena
set_option maxHeartbeats 4000000
set_option maxRecDepth 100000
theorem objs_reads {S : List Int} {L : List (Nat × Ob)} (h : objs S 0 = some L) : ∀ x ∈ L, readS (S.drop x.1) = some x.2 := by
  have := objs_ind (P := fun S a L => ∀ x ∈ L, ∃ k, x.1 = a + k ∧ readS (S.drop k) = some x.2) (fun a x hx => by cases hx)
    (fun S a o L hS hr ih x hx => by
      rcases List.mem_cons.1 hx with rfl | hx
      · exact ⟨0, rfl, hr⟩
      · obtain ⟨k, h1, h2⟩ := ih x hx
        exact ⟨wordsO o + k, by omega, by rw [← List.drop_drop]; exact h2⟩) S.length (Nat.le_refl _) h
  intro x hx
  obtain ⟨k, h1, h2⟩ := this x hx
  rw [h1, Nat.zero_add]
  exact h2
/-- the first k places moved, the others not yet -/
def mixC (first : Nat) (L : List (Nat × Ob)) (k : Nat) : List (List Value) := (L.take k).map (plC first) ++ (L.drop k).map (plC 0)
theorem mixC_zero (first : Nat) (L : List (Nat × Ob)) : mixC first L 0 = L.map (plC 0) := by simp [mixC]
theorem mixC_all (first : Nat) (L : List (Nat × Ob)) : mixC first L L.length = L.map (plC first) := by simp [mixC]
theorem mixC_at {first : Nat} {L : List (Nat × Ob)} {k : Nat} {x : Nat × Ob} (h : L[k]? = some x) : (mixC first L k)[k]? = some [.int .i64 (x.1 : Int)] := by
  obtain ⟨h1, h2⟩ := List.getElem?_eq_some_iff.1 h
  have hl : ((L.take k).map (plC first)).length = k := by rw [List.length_map, List.length_take]; omega
  unfold mixC
  rw [List.getElem?_append_right (by omega), hl, Nat.sub_self, List.getElem?_map, List.getElem?_drop, Nat.add_zero, h]
  simp [plC]
theorem mixC_step {first : Nat} {L : List (Nat × Ob)} {k : Nat} {x : Nat × Ob} (h : L[k]? = some x) : mixC first L (k + 1) = (mixC first L k).set k ([.int .i64 (x.1 : Int)].set 0 (.int .i64 ((x.1 : Int) + (first : Int)))) := by
  obtain ⟨h1, h2⟩ := List.getElem?_eq_some_iff.1 h
  have hl : ((L.take k).map (plC first)).length = k := by rw [List.length_map, List.length_take]; omega
  unfold mixC
  rw [List.set_append_right _ _ (by omega), hl, Nat.sub_self, List.take_succ_eq_append_getElem h1, h2, List.map_append, List.append_assoc, List.drop_eq_getElem_cons h1, h2]
  simp [plC, Int.add_comm]
end Go.Proofs.YtppkgfcobnknfaaGreatDoor
/- A heap's functions (the reference's): All, Is. -/
namespace Go.Proofs.YtppkgfcobnknfaaGreatDoor
open Go.RowKit Go.Maps Arena
set_option maxHeartbeats 4000000
set_option maxRecDepth 100000
theorem RAllSaid.open {r : Option (List (Nat × Ob))} {first : Nat} {w : World} {e : Ending} {w' : World} (h : RAllSaid r first w e w') : ∃ (q : Option Addr) (l c : Nat), e = .returned (.agg #[.slice q l c, .bool r.isSome]) ∧ Ext w w' ∧ (r = none → q = none ∧ l = 0 ∧ c = 0) ∧
    ∀ L, r = some L → l = L.length ∧ OwnP w' w.heap.size 3 (.slice q L.length c) 1 (L.map (plC first)) := by
  cases r with
  | none => exact ⟨none, 0, 0, h.1, h.2, fun _ => ⟨rfl, rfl, rfl⟩, fun L h => by cases h⟩
  | some L =>
    obtain ⟨q, c, h1, h2, h3⟩ := h
    exact ⟨q, L.length, c, h1, h3, (fun h => by cases h), fun L' e => by obtain rfl := Option.some.inj e; exact ⟨rfl, h2⟩⟩
end Go.Proofs.YtppkgfcobnknfaaGreatDoor
/- A heap's functions (the reference's): Get. -/
namespace Go.Proofs.YtppkgfcobnknfaaGreatDoor
open Go.RowKit Go.Maps Arena
set_option maxHeartbeats 4000000
set_option maxRecDepth 100000
theorem getL_field {first : Nat} {L : List (Nat × Ob)} {x : Int} (hi : isIntW x = false) : (getL first L x).isSome = fieldOK (L.map (·.1)) first x := by
  unfold getL fieldOK
  rw [hi, List.any_map]
  by_cases hb : 4294967296 ≤ x / 2
  · rw [if_pos (.inr hb), decide_eq_false (by omega)]; rfl
  · rw [if_neg (by simp; omega), decide_eq_true (by omega), Bool.eq_iff_iff, List.find?_isSome]
    simp
theorem places_len {L : List (Nat × Ob)} (h : L.Pairwise (fun x y => x.1 < y.1)) {n : Nat} (hn : ∀ z ∈ L, z.1 < n) : L.length ≤ n := by
  have key : ∀ (L : List (Nat × Ob)) (b : Nat), L.Pairwise (fun x y => x.1 < y.1) → (∀ z ∈ L, b ≤ z.1 ∧ z.1 < n) → L.length + b ≤ n ∨ L = [] := by
    intro L
    induction L with
    | nil => intro b _ _; exact .inr rfl
    | cons a L ih =>
      intro b hp hb
      obtain ⟨h1, h2⟩ := List.pairwise_cons.1 hp
      have ha := hb a (.head _)
      rcases ih (a.1 + 1) h2 (fun z hz => ⟨h1 z hz, (hb z (.tail _ hz)).2⟩) with h3 | h3
      · left; rw [List.length_cons]; omega
      · subst h3; left; simp; omega
  rcases key L 0 h (fun z hz => ⟨Nat.zero_le _, hn z hz⟩) with h1 | h1
  · omega
  · subst h1; simp
theorem allH_len {n : Nat} {ws : List Int} {R : List (Nat × Nat)} {h : Hp} (hg : Arena.Good n R) (hl : ws.length = n) {L : List (Nat × Ob)} (hL : allH ws R h = some L) : L.length ≤ 2000 := by
  obtain ⟨ht, hS⟩ := allH_there hL
  have hobj := (allS_some hS).1
  have h2 := objs_fit hobj
  have h3 := semi_len hg hl ht
  have hok := (thereB_ok ht).1
  obtain ⟨_, a2, _, _, a5, a6⟩ := hok
  have h5 : ∀ z ∈ L, z.1 < (semi ws R h).length := by
    intro z hz
    have := h2 z hz
    have h6 : 1 ≤ wordsO z.2 := by unfold wordsO; omega
    omega
  have h4 := places_len (objs_places hobj) h5
  omega
end Go.Proofs.YtppkgfcobnknfaaGreatDoor
/- A heap's functions (the reference's): Get, where there is an object. -/
namespace Go.Proofs.YtppkgfcobnknfaaGreatDoor
open Go.RowKit Go.Maps Arena
set_option maxHeartbeats 4000000
set_option maxRecDepth 100000
theorem words_rows {w : World} {q gq B n : Nat} {ws : List Int} {vR : Value} {R : List (Nat × Nat)} (H : RefAt w q gq B n ws vR R) {i : Nat} (hi : i < R.length) {m : Nat} (hm : m ≤ R[i].2) :
    RowsP w (.slice (some ⟨gq, R[i].1, none⟩) m (n - R[i].1)) 1 (((wordsAt ws R R[i].1).take m).map wordC) := by
  have hbr := H.good.2 R[i] (List.getElem_mem hi)
  have hn := H.least
  have hlr := lenAt_mem H.good (List.getElem_mem hi)
  have hwl := wordsAt_len H.good H.len (R[i].1 : Int)
  have hl : ((wordsAt ws R R[i].1).take m).length = m := by rw [List.length_take, hwl, hlr]; omega
  refine ⟨wordC_rows _, .inr ⟨gq, R[i].1, n - R[i].1, by rw [List.length_map, hl], by rw [List.length_map, hl]; omega, by unfold maxLen; omega, fun j u hu => ?_⟩⟩
  rw [wordC_flat, List.getElem?_map] at hu
  obtain ⟨x, hx, rfl⟩ := Option.map_eq_some_iff.1 hu
  have hjl := (List.getElem?_eq_some_iff.1 hx).1
  rw [hl] at hjl
  rw [List.getElem?_take_of_lt hjl] at hx
  unfold wordsAt at hx
  rw [hlr, List.getElem?_take_of_lt (by omega), List.getElem?_drop] at hx
  rw [(H.word (i := R[i].1 + j) (by omega)).1, List.getD_eq_getElem?_getD]
  have e : ((R[i].1 : Nat) : Int).toNat = R[i].1 := Int.toNat_natCast _
  rw [e] at hx
  rw [hx]
  rfl
end Go.Proofs.YtppkgfcobnknfaaGreatDoor
/- A heap's functions (the reference's): Set. -/
namespace Go.Proofs.YtppkgfcobnknfaaGreatDoor
open Go.RowKit Go.Maps Arena
set_option maxHeartbeats 4000000
set_option maxRecDepth 100000
end Go.Proofs.YtppkgfcobnknfaaGreatDoor
/- A heap's functions (the reference's): Put. -/
namespace Go.Proofs.YtppkgfcobnknfaaGreatDoor
open Go.RowKit Go.Maps Arena
set_option maxHeartbeats 4000000
set_option maxRecDepth 100000
theorem blocks3w {P : Program} {c : Code} {Q : Exit → Act → World → Prop} {a : Act} {w : World} {o0 o1 o2 : Obj} (h : ∀ W : World, Ext w W → W.heap.size = w.heap.size + 1 + 1 + 1 → W.heap[w.heap.size]? = some o0 → W.heap[w.heap.size + 1]? = some o1 → W.heap[w.heap.size + 1 + 1]? = some o2 → Code.wp P c Q a W) : Code.wp P c Q a (((w.alloc o0).alloc o1).alloc o2) := by
  obtain ⟨e, s, b0, b1, b2⟩ := blocks3 w o0 o1 o2
  exact h _ e s b0 b1 b2
theorem RefAt.turn_new {w W W' : World} {q gq B n : Nat} {ws ws' : List Int} {vR : Value} {R : List (Nat × Nat)} {bs : List Nat} (H : RefAt W q gq B n ws' vR R) (H0 : RefAt w q gq B n ws vR R) (t : Turn bs W W') (hb : ∀ b ∈ bs, w.heap.size ≤ b) : RefAt W' q gq B n ws' vR R := by
  obtain ⟨lq, lg⟩ := H.lt
  obtain ⟨l0, l1⟩ := H0.lt
  refine ⟨by rw [t.block q lq (fun h => by have := hb q h; omega)]; exact H.row, by rw [t.block gq lg (fun h => by have := hb gq h; omega)]; exact H.words, H.len, ?_, H.good, H.ne, H.qB, H.gB, H.least⟩
  obtain ⟨h1, h2⟩ := H.regs
  refine ⟨h1, ?_⟩
  rcases h2 with h2 | ⟨g, cap, cur, e1, e2, e3, e4⟩
  · exact .inl h2
  · refine .inr ⟨g, cap, cur, e1, e2, ?_, e4⟩
    have hg : g < w.heap.size := by
      rcases H0.regs.2 with ⟨f1, _⟩ | ⟨g', cap', cur', f1, _, f3, _⟩
      · rw [f1] at e1; cases e1
      · rw [f1] at e1
        obtain ⟨e5, _, _⟩ := Value.slice.inj e1
        obtain ⟨rfl, _⟩ := Addr.mk.inj (Option.some.inj e5)
        exact (Array.getElem?_eq_some_iff.1 f3).1
    rw [t.block g (Array.getElem?_eq_some_iff.1 e3).1 (fun h => by have := hb g h; omega)]
    exact e3
theorem post_fill6 {P : Program} {f : Func} {Q : Ending → World → Prop} {x : Exit} {a : Act} {w : World} {b : Nat} {x0 x1 x2 x3 x4 x5 y0 y1 y2 y3 y4 y5 : Value} {T : TypeId} (h0 : w.heap[b]? = some (.cells #[x0, x1, x2, x3, x4, x5] T (0, 0)))
    (h : ∀ W : World, W.heap[b]? = some (.cells #[y0, y1, y2, y3, y4, y5] T (0, 0)) → Turn [b] w W → W.heap.size = w.heap.size → bodyPost P f Q x a W) : bodyPost P f Q x a ((((((w.setCell ⟨b, 0, none⟩ y0).setCell ⟨b, 1, none⟩ y1).setCell ⟨b, 2, none⟩ y2).setCell ⟨b, 3, none⟩ y3).setCell ⟨b, 4, none⟩ y4).setCell ⟨b, 5, none⟩ y5) :=
  h _ (fill6 h0 _ _ _ _ _ _).1 (fill6 h0 _ _ _ _ _ _).2.1 (fill6 h0 _ _ _ _ _ _).2.2
/-- a done put's value -/
def doneV (h : Hp) (x : Int) (ok : Bool) : Value := .agg #[.int .i64 h.base, .int .i64 h.half, .int .i64 h.space, .int .i64 h.top, .int .u64 x, .bool ok]
def RPutSaid (ws : List Int) (R : List (Nat × Nat)) (q gq B n : Nat) (vR : Value) (h : Hp) (o : Ob) (w : World) (e : Ending) (w' : World) : Prop :=
  e = .returned (if putB ws R h o then doneV (hpUp h o) ((2 * topN h : Nat) : Int) true else doneV ⟨0, 0, 0, 0⟩ 0 false) ∧ RefAt w' q gq B n (if putB ws R h o then putWs ws R h o else ws) vR R ∧ Turn [gq] w w'
theorem rput_no {ws : List Int} {R : List (Nat × Nat)} {q gq B n : Nat} {vR : Value} {h : Hp} {o : Ob} {w : World} {e : Ending} {w' : World} (hb : putB ws R h o = false) (H : RefAt w q gq B n ws vR R) (he : e = .returned (doneV ⟨0, 0, 0, 0⟩ 0 false)) (hx : Ext w w') : RPutSaid ws R q gq B n vR h o w e w' := by
  unfold RPutSaid
  rw [hb]
  exact ⟨he, H.ext hx, Turn.of_ext hx⟩
end Go.Proofs.YtppkgfcobnknfaaGreatDoor
/- keep.Ints, keep.Object, LongObject. -/
namespace Go.Proofs.YtppkgfcobnknfaaGreatDoor
open Go.RowKit Go.Maps
set_option maxHeartbeats 2000000
set_option maxRecDepth 100000
theorem info_i64 : (Tryz.prog.info? 3).map (fun i => (i.zero, i.size, i.bytes)) = some (some (.int .i64 0), 1, 8) := by kernel_rfl
/-- a slice that reads as words, wherever it lies -/
def NumSl (w : World) (v : Value) (l : List Int) : Prop := ∃ q c, v = .slice q l.length c ∧ l.length ≤ c ∧ c ≤ maxLen ∧ ∀ (i : Nat) (x : Int), l[i]? = some x → ∃ b off, q = some ⟨b, off, none⟩ ∧ w.cell? ⟨b, off + i, none⟩ = some (.int .i64 x)
theorem NumSl.ext {w w' : World} {v : Value} {l : List Int} (h : NumSl w v l) (e : Ext w w') : NumSl w' v l := by
  obtain ⟨q, c, hv, h1, h2, hc⟩ := h
  exact ⟨q, c, hv, h1, h2, fun i x hx => by obtain ⟨b, off, hq, hcc⟩ := hc i x hx; exact ⟨b, off, hq, e.cell hcc⟩⟩
theorem NumSl.of_row {w : World} {base : Nat} {v : Value} {l : List Int} (h : w.ownsRow base 3 1 v l.length (l.map fun x => Value.int .i64 x)) : NumSl w v l := by
  rcases h.2 with ⟨h1, h2⟩ | ⟨g, cap, cur, h1, hb, hg, h2, h3, h4, h5⟩
  · refine ⟨none, 0, by rw [h1, h2], by omega, Nat.zero_le _, fun i x hx => ?_⟩
    have := (List.getElem?_eq_some_iff.1 hx).1
    omega
  · refine ⟨_, cap, h1, h2, h3, fun i x hx => ⟨g, 0, rfl, ?_⟩⟩
    subst h1
    have hi : i < l.length := (List.getElem?_eq_some_iff.1 hx).1
    rw [Nat.zero_add, World.ownsRow.cellAt h i (by omega), List.getElem?_map, hx]
    rfl
end Go.Proofs.YtppkgfcobnknfaaGreatDoor
