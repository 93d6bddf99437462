/- Proved here: the contracts and laws of Bts, ObjN, ObjO, IMap, ObjQ, ObjS, ObjT, ObjU, ObjV, ObjW, ObjX, PieceQ of this claim, each beneath its own remark; conditions: those that each theorem names. -/
import Derived.Test.YtppkgfcobnknfaaGreatDoorM1
import Derived.Test.YtppkgfcobnknfaaGreatDoorProg
import Derived.Test.YtppkgfcobnknfaaGreatDoorM4
import Derived.Test.YtppkgfcobnknfaaGreatDoorM2
import Derived.Laws.IdiomStrings
import Derived.Laws.BytesArg
import Derived.Maps.OwnOps
import Derived.Maps.Views
/- Slices of bytes of the call's own; a slice's tail. -/
namespace Go.Proofs.YtppkgfcobnknfaaGreatDoor
open Go.RowKit
def byteC (c : UInt8) : List Value := [.int .u8 (c.toNat : Int)]
theorem E8 : ElemT Tryz.prog 143 5 1 1 := ⟨Tryz.underlying143, ⟨.int .u8 0, by kernel_rfl, rfl⟩, by decide⟩
theorem byteC_rows (S : List UInt8) : Rows1 1 (S.map byteC) := by
  intro cs hm
  obtain ⟨x, _, rfl⟩ := List.mem_map.1 hm
  exact ⟨rfl, fun u hu => by rw [List.mem_singleton.1 hu]; rfl⟩
theorem byteC_flat (S : List UInt8) : (S.map byteC).flatten = S.map fun x => Value.int .u8 (x.toNat : Int) := by
  induction S with
  | nil => rfl
  | cons x S ih => rw [List.map_cons, List.flatten_cons, ih]; rfl
/-- string(b) -/
theorem RowsP.string {w : World} {v : Value} {S : List UInt8} (h : RowsP w v 1 (S.map byteC)) : (convert 143 9 v).run Tryz.prog w = .ok (.string ⟨S.toArray⟩) w := by
  obtain ⟨_, h2⟩ := h
  have hnil : ∀ (q : Option Addr) (c : Nat), (convert 143 9 (.slice q 0 c)).run Tryz.prog w = .ok (.string ⟨#[]⟩) w := by
    intro q c
    cases q with
    | none => exact run_convert_bytes_nil (P := Tryz.prog) w 143 5 Tryz.underlying143 Tryz.underlying5 0 c 9 Tryz.underlying9
    | some a => exact run_convert_bytes_back w 143 9 5 a c [] Tryz.underlying143 Tryz.underlying5 Tryz.underlying9 (fun j hj => by simp at hj)
  rcases h2 with ⟨hE, hS⟩ | ⟨b, off, c, rfl, h4, h5, h6⟩
  · obtain rfl : S = [] := by simpa using hS
    rcases hE with rfl | ⟨a, c, rfl, _⟩
    · exact hnil _ _
    · exact hnil _ _
  · rw [List.length_map]
    refine run_convert_bytes_back w 143 9 5 ⟨b, off, none⟩ c S Tryz.underlying143 Tryz.underlying5 Tryz.underlying9 (fun j hj => ?_)
    rw [Go.WideShapes.add_plain]
    refine h6 j _ ?_
    rw [byteC_flat]
    simp [hj]
/-- a part of a slice of one-cell elements -/
theorem RowsP.cut {P : Program} {ST T : TypeId} {bytes : Nat} (E : ElemT P ST T 1 bytes) {w : World} {q : Option Addr} {n c lo hi : Nat} {l : List (List Value)} (h : RowsP w (.slice q n c) 1 l) (h1 : lo ≤ hi) (h2 : hi ≤ n) :
    ∃ q', (∀ W, (Instr.slice ST (.slice q n c) (some (.int .i64 lo)) (some (.int .i64 hi)) none).run P W = .ok (.slice q' (hi - lo) (c - lo)) W) ∧ RowsP w (.slice q' (hi - lo) (c - lo)) 1 ((l.drop lo).take (hi - lo)) := by
  obtain ⟨z, hinfo, _⟩ := E.info
  obtain ⟨i0, hi0, hz0, hz1, hz2⟩ := info_parts hinfo
  obtain ⟨q2, c2, he, h4, h5, _⟩ := h.at
  obtain ⟨rfl, rfl, rfl⟩ := Value.slice.inj he
  have hel : P.elem ST = T := by simp [Program.elem, E.under]
  have hsz : ∀ W, (sizeOf (P.elem ST)).run P W = .ok 1 W := fun W => by rw [hel]; simp [sizeOf, typeInfo, hi0, hz1]
  have hrun : ∀ W, (Instr.slice ST (.slice q l.length c) (some (.int .i64 lo)) (some (.int .i64 hi)) none).run P W = .ok (.slice (if c = lo then q else q.map (·.add lo)) (hi - lo) (c - lo)) W := fun W => by
    rw [run_slice_lh W ST q l.length c (by rw [hel]; exact E.under) .i64 .i64 lo hi (by omega) (by omega) (by omega), hsz]
    simp [sliced]
  refine ⟨_, hrun, (h.1.drop lo).take _, ?_⟩
  have hlen : ((l.drop lo).take (hi - lo)).length = hi - lo := by rw [List.length_take, List.length_drop]; omega
  by_cases hz : hi = lo
  · subst hz
    refine .inl ⟨?_, by simp⟩
    rcases h.2 with ⟨hE, hS⟩ | ⟨b, off, c', he, _⟩
    · rcases hE with he | ⟨a, c', he, hc⟩
      · obtain ⟨rfl, _, rfl⟩ := Value.slice.inj he
        left; simp
      · obtain ⟨rfl, _, rfl⟩ := Value.slice.inj he
        right
        refine ⟨if c = hi then a else a.add hi, c - hi, ?_, by omega⟩
        by_cases h0 : c = hi <;> simp [h0]
    · obtain ⟨rfl, _, rfl⟩ := Value.slice.inj he
      right
      refine ⟨if c = hi then ⟨b, off, none⟩ else (⟨b, off, none⟩ : Addr).add hi, c - hi, ?_, by omega⟩
      by_cases h0 : c = hi <;> simp [h0]
  · rcases h.2 with ⟨hE, hS⟩ | ⟨b, off, c', he, _, _, h6⟩
    · rw [hS] at h2; simp at h2; omega
    · obtain ⟨rfl, _, rfl⟩ := Value.slice.inj he
      refine .inr ⟨b, off + lo, c - lo, ?_, by rw [hlen]; omega, by omega, fun j u hj => ?_⟩
      · rw [if_neg (by omega), hlen, Option.map_some, Go.WideShapes.add_plain]
      · rw [← Nat.mul_one (hi - lo), ← Nat.mul_one (hi - lo)] at hj
        have hj2 : ((l.drop lo).take (hi - lo)).flatten = (l.flatten.drop lo).take (hi - lo) := by
          rw [flat_take (h.1.drop lo), flat1_drop h.1, Nat.mul_one]
        rw [Nat.mul_one, Nat.mul_one, hj2] at hj
        have hjl : j < hi - lo := by
          have := (List.getElem?_eq_some_iff.1 hj).1
          rw [List.length_take] at this
          omega
        rw [List.getElem?_take_of_lt hjl, List.getElem?_drop] at hj
        rw [Nat.add_assoc]
        exact h6 _ _ hj
theorem mk_u8s (k : Nat) (hk : k ≤ 1000000) (W : World) : (Instr.makeSlice 143 (.int .i64 k) (.int .i64 k)).run Tryz.prog W = .ok (.slice (some ⟨W.heap.size, 0, none⟩) k k) (W.alloc (.cells (madeCells #[.int .u8 0] k) 5)) := by
  obtain ⟨i0, hi, hz0, hz1, hz2⟩ := info_parts (show (Tryz.prog.info? 5).map (fun i => (i.zero, i.size, i.bytes)) = some (some (.int .u8 0), 1, 1) by kernel_rfl)
  have h := run_makeSlice (P := Tryz.prog) (w := W) 143 5 i0 (.int .u8 0) Tryz.underlying143 hi hz0 .i64 .i64 (k : Int) (k : Int) (by omega) (by omega) (by rw [hz1]; omega) (by rw [hz2]; omega) (by omega)
  rw [hz1, Nat.mul_one] at h
  exact h
theorem empty_own (w : World) (T : TypeId) (s base : Nat) (hb : base ≤ w.heap.size) : OwnP (w.alloc (.cells #[] T)) base T (.slice (some ⟨w.heap.size, 0, none⟩) 0 0) s [] :=
  OwnP.of_form (l := []) (fun _ h => by cases h) hb (heap_alloc_new w _) (Nat.le_refl _) (Nat.zero_le _) (by simp) (by simp)
/-- the tail of a slice of one-cell elements -/
theorem RowsP.tail {P : Program} {ST T : TypeId} {bytes : Nat} (E : ElemT P ST T 1 bytes) {w : World} {q : Option Addr} {n c k : Nat} {l : List (List Value)} (h : RowsP w (.slice q n c) 1 l) (hk : k ≤ n) :
    ∃ q', (∀ W, (Instr.slice ST (.slice q n c) (some (.int .i64 k)) none none).run P W = .ok (.slice q' (n - k) (c - k)) W) ∧ RowsP w (.slice q' (n - k) (c - k)) 1 (l.drop k) ∧ n = l.length ∧ n ≤ maxLen := by
  obtain ⟨z, hinfo, _⟩ := E.info
  obtain ⟨i0, hi, hz0, hz1, hz2⟩ := info_parts hinfo
  have hel : P.elem ST = T := by simp [Program.elem, E.under]
  have hsz : ∀ W, (sizeOf (P.elem ST)).run P W = .ok 1 W := fun W => by rw [hel]; simp [sizeOf, typeInfo, hi, hz1]
  have hrun : ∀ W, (Instr.slice ST (.slice q n c) (some (.int .i64 k)) none none).run P W = .ok (.slice (if c = k then q else q.map (·.add k)) (n - k) (c - k)) W := fun W => by
    rw [run_slice_l W ST q n c (by rw [hel]; exact E.under) .i64 k (by omega) (by omega), hsz]
    simp [sliced]
  refine ⟨_, hrun, ⟨h.1.drop k, ?_⟩, ?_⟩
  · rcases h.2 with ⟨hE, hS⟩ | ⟨b, off, c', he, h4, h5, h6⟩
    · subst hS
      refine .inl ⟨?_, by simp⟩
      rcases hE with he | ⟨a, c', he, hc⟩
      · obtain ⟨rfl, rfl, rfl⟩ := Value.slice.inj he
        left
        simp
      · obtain ⟨rfl, rfl, rfl⟩ := Value.slice.inj he
        right
        obtain rfl : k = 0 := by omega
        refine ⟨if c = 0 then a else a.add 0, c, ?_, hc⟩
        by_cases h0 : c = 0 <;> simp [h0]
    · obtain ⟨rfl, rfl, rfl⟩ := Value.slice.inj he
      by_cases hlk : l.length = k
      · refine .inl ⟨.inr ⟨if c = k then ⟨b, off, none⟩ else (⟨b, off, none⟩ : Addr).add k, c - k, ?_, by omega⟩, by rw [List.drop_of_length_le (by omega)]⟩
        by_cases h0 : c = k <;> simp [h0, hlk]
      · refine .inr ⟨b, off + k, c - k, ?_, by rw [List.length_drop]; omega, by omega, fun j u hj => ?_⟩
        · rw [if_neg (by omega), List.length_drop, Option.map_some, Go.WideShapes.add_plain]
        · rw [flat1_drop h.1, List.getElem?_drop] at hj
          rw [Nat.add_assoc]
          exact h6 _ _ hj
  · obtain ⟨q2, c2, he, h4, h5, _⟩ := h.at
    obtain ⟨rfl, rfl, rfl⟩ := Value.slice.inj he
    exact ⟨rfl, by omega⟩
end Go.Proofs.YtppkgfcobnknfaaGreatDoor
/- An object is read out of a heap's words (the program's): texts. -/
namespace Go.Proofs.YtppkgfcobnknfaaGreatDoor
open Go.RowKit Go.Maps Arena
set_option maxHeartbeats 4000000
set_option maxRecDepth 100000
def byteAt (x : Int) (j : Nat) : UInt8 := UInt8.ofNat (x.toNat / 256 ^ j % 256)
theorem bytes8_take (x : Int) {j : Nat} (hj : j < 8) : (bytes8 x).take (j + 1) = (bytes8 x).take j ++ [byteAt x j] := by
  rw [List.take_succ_eq_append_getElem (by simpa [bytes8] using hj)]
  simp [bytes8, byteAt]
theorem bytes8_len (x : Int) : (bytes8 x).length = 8 := by simp [bytes8]
theorem bytesOf_len (W : List Int) : (bytesOf W).length = 8 * W.length := by
  induction W with
  | nil => rfl
  | cons x W ih => rw [bytesOf, List.flatMap_cons, List.length_append, bytes8_len, ← bytesOf, ih, List.length_cons]; omega
theorem bytesOf_take {S : List Int} {k : Nat} {x : Int} (h : S[k]? = some x) : bytesOf (S.take (k + 1)) = bytesOf (S.take k) ++ bytes8 x := by
  obtain ⟨hk, he⟩ := List.getElem?_eq_some_iff.1 h
  rw [List.take_succ_eq_append_getElem hk, he]
  simp [bytesOf]
/-- the bytes of the first k words; and j of the next one's -/
def bsR (S : List Int) (k : Nat) : List (List Value) := (bytesOf (S.take k)).map byteC
def bsJ (S : List Int) (k : Nat) (x : Int) (j : Nat) : List (List Value) := (bytesOf (S.take k) ++ (bytes8 x).take j).map byteC
theorem bsR_len {S : List Int} {k : Nat} (h : k ≤ S.length) : (bsR S k).length = 8 * k := by rw [bsR, List.length_map, bytesOf_len, List.length_take]; omega
theorem bsJ_len {S : List Int} {k j : Nat} {x : Int} (h : k ≤ S.length) (hj : j ≤ 8) : (bsJ S k x j).length = 8 * k + j := by rw [bsJ, List.length_map, List.length_append, bytesOf_len, List.length_take, List.length_take, bytes8_len]; omega
theorem bsJ_zero (S : List Int) (k : Nat) (x : Int) : bsJ S k x 0 = bsR S k := by simp [bsJ, bsR]
theorem bsJ_step (S : List Int) (k : Nat) (x : Int) {j : Nat} (hj : j < 8) : bsJ S k x (j + 1) = bsJ S k x j ++ [byteC (byteAt x j)] := by
  rw [bsJ, bytes8_take x hj, ← List.append_assoc, List.map_append]; rfl
theorem bsJ_8 {S : List Int} {k : Nat} {x : Int} (h : S[k]? = some x) : bsJ S k x 8 = bsR S (k + 1) := by
  rw [bsJ, bsR, bytesOf_take h, List.take_of_length_le (l := bytes8 x) (by rw [bytes8_len]; omega)]
theorem bsR_zero (S : List Int) : bsR S 0 = [] := rfl
theorem byteAt_is {x : Int} (hx : W64 x) (j : Nat) : x / 2 ^ (8 * j) % 256 = ((byteAt x j).toNat : Int) := by
  obtain ⟨n, rfl⟩ := Int.eq_ofNat_of_zero_le hx.1
  have e : (2 : Int) ^ (8 * j) = ((256 ^ j : Nat) : Int) := by rw [Int.pow_mul]; simp
  rw [e]
  simp [byteAt]
theorem read_text (pv : Value) (ba ha sp tp : Int) (at_ : Nat) (tg : Int) (sz : Nat) (hd : Int) (S : List Int) (hw : W64 hd) (w : World) (hSW : ∀ x ∈ S, W64 x)
    (HR : ∀ (i : Nat) (x : Int), (hd :: S)[i]? = some x → ∀ W, Ext w W → Calls Tryz.prog 75 #[.agg #[pv, .int .i64 ba, .int .i64 ha, .int .i64 sp, .int .i64 tp], .int .i64 ((at_ + i : Nat) : Int)] W fun e w' => e = .returned (.int .u64 x) ∧ Ext W w') (_hp : pv.oneCell' = true)
    (d1 : hd % 256 = 2) (d2 : hd / 256 % 16777216 = tg) (d3 : hd / 4294967296 = sz) (hat : at_ ≤ 100000) (hSl : S.length ≤ 100000) :
    Calls Tryz.prog 58 #[.agg #[pv, .int .i64 ba, .int .i64 ha, .int .i64 sp, .int .i64 tp], .int .i64 at_, .int .i64 ((at_ + (S.length + 1) : Nat) : Int)] w (ReadSaid (if sz ≤ 400 ∧ (sz + 7) / 8 ≤ S.length ∧ ((bytesOf (S.take ((sz + 7) / 8))).drop sz).all (· == 0) = true ∧ mayK 2 tg 0 sz = true then some ⟨2, tg, [], ⟨((bytesOf (S.take ((sz + 7) / 8))).take sz).toArray⟩⟩ else none) w) := by
  obtain ⟨m, hm⟩ : ∃ m : Nat, m = (sz + 7) / 8 := ⟨_, rfl⟩
  rw [← hm]
  have HMD := Lib.hid hm
  have hm8 : sz ≤ 8 * m := by omega
  have hm8' : 8 * m ≤ sz + 7 := by omega
  have HT : Hid (∀ W, sz ≤ 400 → Calls Tryz.prog 125 #[.agg #[], .int .i64 sz] W fun e w' => e = .returned (.int .i64 (m : Int)) ∧ Ext W w') := Lib.hid (fun W h => by rw [hm]; exact text_words sz W h)
  clear hm
  have HR' := Lib.hid HR
  have HR0 := Lib.hid (HR 0 hd rfl)
  have HN := Lib.hid (show ofV 2 = .iface 147 (.agg #[]) from rfl)
  clear HR
  have e1 := and_255 hw
  have e2 : bits .and .u64 (hd / 256) 16777215 = tg := by rw [and_tag ⟨by have := hw.1; omega, by have := hw.2; omega⟩]; exact d2
  have t2 : 0 ≤ tg ∧ tg ≤ 16777215 := by omega
  have t3 : sz ≤ 4294967295 := by have := hw.2; omega
  obtain ⟨t2, t2'⟩ := t2
  clear d2 hw
  rw [d1] at e1
  by_cases hs4 : sz ≤ 400
  · by_cases hsl : m ≤ S.length
    · generalize hRR : (if sz ≤ 400 ∧ m ≤ S.length ∧ ((bytesOf (S.take m)).drop sz).all (· == 0) = true ∧ mayK 2 tg 0 sz = true then some (⟨2, tg, [], ⟨((bytesOf (S.take m)).take sz).toArray⟩⟩ : Ob) else none) = RR
      have HRR := Lib.hid hRR
      clear hRR
      have HR0 := Lib.hid (by simpa only [Nat.add_zero] using HR0.out)
      have i1 : ¬ (400 : Int) < (sz : Int) := by omega
      have b1 : decide ((400 : Int) < (sz : Int)) = false := decide_eq_false i1
      have HM := Lib.hid (fun W => HT.out W hs4)
      have hm2 := mt_words
      have hm3 := nt_words
      go_enter Tryz.func58, Tryz.ntmps58
      go_upto_region 1 with fail
      refine wp_alloc2 fun W hE hS b0 b1 => ?_
      obtain ⟨x0, x1, x2, x3, x4⟩ := cells5 b0
      go_wp2_with fail
      refine (HR0.out W hE).mono ?_
      rintro e w1 ⟨rfl, hx⟩
      have c0 := (Below.block hx w.heap.size (by omega)).trans b0
      have c1 := (Below.block hx (w.heap.size + 1) (by omega)).trans b1
      have HX := Lib.hid (hE.trans hx)
      have hlt : w.heap.size + 1 < w1.heap.size := by have := Ext.size hx; omega
      have HS := Lib.hid hS
      clear hS hx hE b0 b1 x0 x1 x2 x3 x4
      go_wp2_with fail
      refine at_alloc1 fun W2 hE2 hS2 b2 => ?_
      refine (of_is _ _).mono ?_
      rintro e w3 ⟨rfl, rfl⟩
      rw [HN.out]
      have c0 := (Below.block hE2 w.heap.size (by omega)).trans c0
      have c1 := (Below.block hE2 (w.heap.size + 1) (by omega)).trans c1
      have HX2 := Lib.hid (HX.out.trans hE2)
      have hlt : w.heap.size + 1 < W2.heap.size := by omega
      have hltb : w1.heap.size < W2.heap.size := by omega
      clear hE2 hS2
      obtain ⟨y0, y1, y2, y3⟩ := cells4 c1
      obtain ⟨z0, z1, z2, z3⟩ := cells4 b2
      go_wp2_with fail
      refine (HM.out _).mono ?_
      rintro e w3 ⟨rfl, hx3⟩
      have c0 := (Below.block hx3 w.heap.size (by omega)).trans c0
      have c1 := (Below.block hx3 (w.heap.size + 1) (by omega)).trans c1
      have c2 := (Below.block hx3 w1.heap.size (by omega)).trans b2
      have HX3 := Lib.hid (HX2.out.trans hx3)
      have hlt3 : w1.heap.size < w3.heap.size := by have := Ext.size hx3; omega
      have hgt : ¬ ((at_ + (S.length + 1) : Nat) : Int) - (at_ : Int) < 1 + (m : Int) := by omega
      clear hx3 y0 y1 y2 y3 z0 z1 z2 z3 b2
      obtain ⟨ob, hob⟩ : ∃ ob, ob = w1.heap.size := ⟨_, rfl⟩
      rw [← hob] at c2 hlt3 hltb ⊢
      have hlo : w.heap.size + 1 < ob := by omega
      clear hob
      go_wp2_with fail
      have hE0 := OwnP.nil w3 (ob + 1) 5 1
      rw [← bsR_zero S] at hE0
      go_loopw [13, 64] (fun v i wr => ∃ k : Nat, k ≤ m ∧ i = .int .i64 k ∧ OwnP wr (ob + 1) 5 v 1 (bsR S k) ∧ wr.heap[ob]? = some (.cells #[.int .i64 2, .int .i64 tg, .slice none 0 0, .string ⟨#[]⟩] 56 (0, 0)) ∧ wr.heap[w.heap.size]? = some (.cells #[pv, .int .i64 ba, .int .i64 ha, .int .i64 sp, .int .i64 tp] 74 (0, 0)) ∧ wr.heap[w.heap.size + 1]? = some (.cells #[.int .i64 0, .int .i64 0, .slice none 0 0, .string ⟨#[]⟩] 56 (0, 0)) ∧ Ext w wr ∧ ob < wr.heap.size) (fun _ i _ => m - (Go.RowKit.intOf i).toNat)
      case atStart => exact ⟨0, Nat.zero_le _, rfl, hE0, c2, c0, c1, HX3.out, hlt3⟩
      case round =>
        obtain ⟨k, hk, rfl, hown, hb, hb0, hb1, hx, hlr⟩ := hrel
        have HX := Lib.hid hx
        have HOW := Lib.hid hown
        obtain ⟨x0, x1, x2, x3, x4⟩ := cells5 hb0
        obtain ⟨z0, z1, z2, z3⟩ := cells4 hb
        clear hx hown c0 c1 c2 hE0 hlt3
        by_cases hlt : k < m
        · have hkS : k < S.length := by omega
          have i1 : (k : Int) < 1 + (m : Int) - 1 := by omega
          obtain ⟨x, hxk⟩ : ∃ x, S[k]? = some x := ⟨_, List.getElem?_eq_getElem hkS⟩
          have HW := HR'.out (k + 1) x (by simpa using hxk) wr HX.out
          rw [show ((at_ + (k + 1) : Nat) : Int) = (at_ : Int) + 1 + (k : Int) by omega] at HW
          have HW := Lib.hid HW
          have HK := Lib.hid hxk
          have HW6 := Lib.hid (hSW x (List.mem_of_getElem? hxk))
          clear hxk
          go_wp2_with fail
          refine HW.out.mono ?_
          rintro e w4 ⟨rfl, hx4⟩
          have k0 := (Below.block hx4 w.heap.size (by have := HX.out.size; omega)).trans hb0
          have k1 := (Below.block hx4 (w.heap.size + 1) (by omega)).trans hb1
          have k2 := (Below.block hx4 ob (by omega)).trans hb
          have HOW4 := Lib.hid (HOW.out.ext hx4)
          have HX4 := Lib.hid (HX.out.trans hx4)
          have hlr4 : ob < w4.heap.size := by have := Ext.size hx4; omega
          clear hx4 x0 x1 x2 x3 x4 z0 z1 z2 z3 hb hb0 hb1 HOW HX HW hlr
          obtain ⟨z0, z1, z2, z3⟩ := cells4 k2
          go_wp2_with fail
          have hE1 := HOW4.out
          rw [← bsJ_zero S k x] at hE1
          go_loopw [13, 82] (fun v i wr => ∃ j : Nat, j ≤ 8 ∧ i = .int .i64 j ∧ OwnP wr (ob + 1) 5 v 1 (bsJ S k x j) ∧ wr.heap[ob]? = some (.cells #[.int .i64 2, .int .i64 tg, .slice none 0 0, .string ⟨#[]⟩] 56 (0, 0)) ∧ wr.heap[w.heap.size]? = some (.cells #[pv, .int .i64 ba, .int .i64 ha, .int .i64 sp, .int .i64 tp] 74 (0, 0)) ∧ wr.heap[w.heap.size + 1]? = some (.cells #[.int .i64 0, .int .i64 0, .slice none 0 0, .string ⟨#[]⟩] 56 (0, 0)) ∧ Ext w wr ∧ ob < wr.heap.size) (fun _ i _ => 8 - (Go.RowKit.intOf i).toNat)
          case atStart => exact ⟨0, Nat.zero_le _, rfl, hE1, k2, k0, k1, HX4.out, hlr4⟩
          case round =>
            obtain ⟨j, hj, rfl, hown, hb, hb0, hb1, hx, hlr⟩ := hrel
            have HXJ := Lib.hid hx
            have HOJ := Lib.hid hown
            clear hx hown hE1 k0 k1 k2 z0 z1 z2 z3 HOW4 HX4 hlr4
            by_cases hlt8 : j < 8
            · have i2 : (j : Int) < 8 := by omega
              obtain ⟨qv, cv, hv, _, _⟩ := HOJ.out.len
              rw [bsJ_len (by omega) (by omega)] at hv
              subst hv
              have hwr : x / 2 ^ (8 * j) % 256 = ((byteAt x j).toNat : Int) := byteAt_is HW6.out j
              obtain ⟨bt, hbt⟩ : ∃ bt, bt = byteAt x j := ⟨_, rfl⟩
              rw [← hbt] at hwr
              have HBT := Lib.hid hbt
              clear hbt
              go_wp2_with (refine wpList_append_rows E8 (by rfl) _ _ (by rfl) (ob + 1) (.slice qv (8 * k + j) cv) (.slice (some ⟨wr.heap.size, 0, none⟩) 1 1) (bsJ S k x j) [byteC bt] (by rfl) (HOJ.out.ext (Ext.alloc _ _)) (by rfl) (rows_of_block (cs := #[.int .u8 (bt.toNat : Int)]) (heap_alloc_new _ _) rfl (by intro u hu; simp at hu; subst hu; rfl)) (by rw [bsJ_len (by omega) (by omega)]; simp; unfold maxLen; omega) (by rw [bsJ_len (by omega) (by omega)]; simp; omega) (by simp; omega) ?_)
              intro v2 w5 ho2 hg2 _ _
              have hB5 : Below (ob + 1) wr w5 := Below.grown (Below.alloc (Below.refl _ _) (by omega) _) hg2 (by simp; omega) (fun b hb => (HOJ.out.own b hb).1)
              have k0 := (Below.block hB5 w.heap.size (by omega)).trans hb0
              have k1 := (Below.block hB5 (w.heap.size + 1) (by omega)).trans hb1
              have k2 := (Below.block hB5 ob (by omega)).trans hb
              have HX5 := Lib.hid (HXJ.out.go hB5 (by omega))
              have hlr5 : ob < w5.heap.size := by have := Below.size hB5; omega
              rw [HBT.out, ← bsJ_step S k x hlt8] at ho2
              have HO2 := Lib.hid ho2
              clear ho2 hg2 hB5 hb hb0 hb1 hwr
              go_wp2
              exact ⟨⟨j + 1, by omega, by go_num, HO2.out, k2, k0, k1, HX5.out, hlr5⟩, by simp [Go.RowKit.intOf]; omega⟩
            · obtain rfl : j = 8 := by omega
              have i2 : ¬ ((8 : Nat) : Int) < 8 := by omega
              have hown := HOJ.out
              rw [bsJ_8 HK.out] at hown
              have HOE := Lib.hid hown
              clear hown HOJ
              go_wp2
              exact ⟨⟨k + 1, by omega, by go_num, HOE.out, hb, hb0, hb1, HXJ.out, hlr⟩, by simp [Go.RowKit.intOf]; omega⟩
        · obtain rfl : k = m := by omega
          have i1 : ¬ (k : Int) < 1 + (k : Int) - 1 := by omega
          obtain ⟨qv, cv, hv, hcv, hcm⟩ := HOW.out.len
          rw [bsR_len hsl] at hv hcv
          subst hv
          obtain ⟨q', hrun, htl, hq1, hq2⟩ := HOW.out.p.tail E8 (k := sz) (by omega)
          clear hq1 hq2
          have hzl : (bytesOf (S.take k)).length = 8 * k := by rw [bytesOf_len, List.length_take]; omega
          obtain ⟨Z, hZ⟩ : ∃ Z, Z = (bytesOf (S.take k)).drop sz := ⟨_, rfl⟩
          have hZl : Z.length = 8 * k - sz := by rw [hZ, List.length_drop, hzl]
          have hzr : (bsR S k).drop sz = Z.map byteC := by rw [hZ, bsR, List.map_drop]
          rw [hzr] at htl
          rw [← hZ] at HRR
          have HTL := Lib.hid htl
          have HZ := Lib.hid hZ
          have HZL := Lib.hid hZl
          have HZB := Lib.hid hzl
          clear hzr htl hZ hZl hzl
          obtain ⟨zl, hzl⟩ : ∃ zl, zl = 8 * k - sz := ⟨_, rfl⟩
          rw [← hzl] at hrun HTL HZL
          have hzl8 : zl ≤ 7 := by omega
          have HZ8 := Lib.hid hzl
          clear hzl
          go_wp2_with fail
          go_loop [102] (fun i => ∃ t : Nat, t ≤ zl ∧ i = .int .i64 t ∧ Hid ((Z.take t).all (· == 0) = true)) (fun i => zl - (Go.RowKit.intOf i).toNat)
          case atStart => exact ⟨0, Nat.zero_le _, rfl, Lib.hid rfl⟩
          case round =>
            obtain ⟨t, ht, rfl, HALL⟩ := hrel
            by_cases hlt2 : t < zl
            · have i2 : (t : Int) < (zl : Int) := by omega
              obtain ⟨c, hc⟩ : ∃ c, Z[t]? = some c := ⟨_, List.getElem?_eq_getElem (by rw [HZL.out]; exact hlt2)⟩
              obtain ⟨qz, cz, hvz, _, _, hcell⟩ := HTL.out.at
              obtain ⟨bz, oz, rfl, hcz⟩ := hcell t (byteC c) (by rw [List.getElem?_map, hc]; rfl)
              obtain ⟨rfl, -, rfl⟩ := Value.slice.inj hvz
              have y0 := hcz 0 _ rfl
              rw [Nat.add_zero, Nat.mul_one] at y0
              have HC := Lib.hid hc
              clear hcell hcz hvz hc hrun
              by_cases h0 : c = 0
              · have e0 : ((c.toNat : Int) != 0) = false := by subst h0; rfl
                have HC0 := Lib.hid h0
                clear h0
                go_wp2
                go_round
                case rel =>
                  refine ⟨t + 1, by omega, by go_num, Lib.hid ?_⟩
                  obtain ⟨hk1, he⟩ := List.getElem?_eq_some_iff.1 HC.out
                  rw [List.take_succ_eq_append_getElem hk1, List.all_append, HALL.out, he, HC0.out]
                  rfl
                case measure => simp [Go.RowKit.intOf]; omega
              · have e0 : ((c.toNat : Int) != 0) = true := by
                  have : c.toNat ≠ 0 := fun h => h0 (by rw [← UInt8.ofNat_toNat (x := c), h]; rfl)
                  simp; omega
                have hn : Z.all (· == 0) = false := by
                  rw [List.all_eq_false]
                  exact ⟨c, List.mem_of_getElem? HC.out, by simpa using h0⟩
                have HN2 := Lib.hid hn
                clear h0 hn
                obtain ⟨w0, w1', w2', w3'⟩ := cells4 hb1
                have f0 := free_at hb1 (i := 0)
                have f1 := free_at hb1 (i := 1)
                have f2 := free_at hb1 (i := 2)
                have f3 := free_at hb1 (i := 3)
                go_wp2
                refine post_fill4 hb1 fun W3 hb1 hT hS3 => ?_
                obtain ⟨y0, y1, y2, y3⟩ := cells4 hb1
                refine bodyPost_ret (v := .tuple #[zeroOV, .int .i64 0]) (by simp [results, Tryz.results58, go_sem, y0, y1, y2, y3, zeroOV]; rfl) rfl ?_
                rw [← HRR.out, if_neg (fun h => by rw [HN2.out] at h; cases h.2.2.1)]
                exact ⟨rfl, Turn.after HX.out hT (by simp)⟩
            · obtain rfl : t = zl := by omega
              have i2 : ¬ (t : Int) < (t : Int) := by omega
              have hall := HALL.out
              rw [List.take_of_length_le (by rw [HZL.out]; omega)] at hall
              have HA := Lib.hid hall
              obtain ⟨s, hs⟩ : ∃ s : ByteArray, s = ⟨((bytesOf (S.take k)).take sz).toArray⟩ := ⟨_, rfl⟩
              have hss : s.size = sz := by
                have : s.size = ((bytesOf (S.take k)).take sz).length := by rw [hs]; simp [ByteArray.size]
                rw [this, List.length_take, HZB.out]
                omega
              have hcv2 : (convert 143 9 (.slice qv sz cv)).run Tryz.prog wr = .ok (.string s) wr := by
                have h1 := (HOW.out.take (k := sz) (by rw [bsR_len hsl]; omega)).p
                rw [show (bsR S k).take sz = ((bytesOf (S.take k)).take sz).map byteC by rw [bsR, List.map_take]] at h1
                rw [hs]
                exact h1.string
              have htk := run_take E8 wr qv (8 * k) cv sz (by omega) hcm
              rw [← hs] at HRR
              have HM2 := Lib.hid (fun W => may_is 2 tg 0 0 none s W (by omega))
              rw [hss] at HM2
              generalize hmm : mayK 2 tg 0 sz = mm at HM2
              have HMM := Lib.hid hmm
              have HSS := Lib.hid hss
              have f3 := free_at hb (i := 3)
              clear hmm hall hs hss hrun
              go_wp2_with fail
              refine calls_fill1 hb fun W3 hb3 hT hS3 => ?_
              have k1 := (hT.block (w.heap.size + 1) (by omega) (by simp; omega)).trans hb1
              have k2 : W3.heap[ob]? = some (.cells #[.int .i64 2, .int .i64 tg, .slice none 0 0, .string s] 56 (0, 0)) := hb3
              have HX3' := Lib.hid (Turn.after HX.out hT (by simp; omega))
              have hl3 : ob < W3.heap.size := by omega
              refine (HM2.out _).mono ?_
              rintro e w4 ⟨rfl, hx4⟩
              have k1 := (Below.block hx4 (w.heap.size + 1) (by omega)).trans k1
              have k2 := (Below.block hx4 ob (by omega)).trans k2
              have HX4 := Lib.hid (HX3'.out.trans hx4)
              clear hx4 hT hS3 hb3 x0 x1 x2 x3 x4 z0 z1 z2 z3 f3 hb hb0 hb1
              obtain ⟨z0, z1, z2, z3⟩ := cells4 k2
              obtain ⟨y0, y1, y2, y3⟩ := cells4 k1
              have f0 := free_at k1 (i := 0)
              have f1 := free_at k1 (i := 1)
              have f2 := free_at k1 (i := 2)
              have f3 := free_at k1 (i := 3)
              cases mm
              · go_wp2
                refine post_fill4 k1 fun W3 hb1 hT hS3 => ?_
                obtain ⟨y0, y1, y2, y3⟩ := cells4 hb1
                refine bodyPost_ret (v := .tuple #[zeroOV, .int .i64 0]) (by simp [results, Tryz.results58, go_sem, y0, y1, y2, y3, zeroOV]; rfl) rfl ?_
                rw [← HRR.out, if_neg (fun h => by rw [HMM.out] at h; cases h.2.2.2)]
                exact ⟨rfl, Turn.after HX4.out hT (by simp)⟩
              · go_wp2
                refine post_fill4 k1 fun W3 hb1 hT hS3 => ?_
                obtain ⟨y0, y1, y2, y3⟩ := cells4 hb1
                refine bodyPost_ret (v := .tuple #[.agg #[.int .i64 2, .int .i64 tg, .slice none 0 0, .string s], .int .i64 (1 + (k : Int))]) (by simp [results, Tryz.results58, go_sem, y0, y1, y2, y3]) rfl ?_
                rw [← HRR.out, if_pos ⟨hs4, hsl, HA.out, HMM.out⟩]
                refine ⟨none, 0, ?_, OwnP.nil _ _ _ _, Turn.after HX4.out hT (by simp)⟩
                have : ((wordsO ⟨2, tg, [], s⟩ : Nat) : Int) = 1 + (k : Int) := by
                  unfold wordsO bodyK
                  dsimp only
                  rw [if_pos rfl, HSS.out, ← HMD.out]
                  omega
                rw [this]
                rfl
    · rw [if_neg (fun h => hsl h.2.1)]
      have HR0 := Lib.hid (by simpa only [Nat.add_zero] using HR0.out)
      clear HR'
      have i1 : ¬ (400 : Int) < (sz : Int) := by omega
      have b1 : decide ((400 : Int) < (sz : Int)) = false := decide_eq_false i1
      have HM := Lib.hid (fun W => HT.out W hs4)
      have hm2 := mt_words
      have hm3 := nt_words
      go_enter Tryz.func58, Tryz.ntmps58
      go_upto_region 1 with fail
      refine wp_alloc2 fun W hE hS b0 b1 => ?_
      obtain ⟨x0, x1, x2, x3, x4⟩ := cells5 b0
      go_wp2_with fail
      refine (HR0.out W hE).mono ?_
      rintro e w1 ⟨rfl, hx⟩
      have c0 := (Below.block hx w.heap.size (by omega)).trans b0
      have c1 := (Below.block hx (w.heap.size + 1) (by omega)).trans b1
      have HX := Lib.hid (hE.trans hx)
      have hlt : w.heap.size + 1 < w1.heap.size := by have := Ext.size hx; omega
      have HS := Lib.hid hS
      clear hS hx hE b0 b1 x0 x1 x2 x3 x4
      go_wp2_with fail
      refine at_alloc1 fun W2 hE2 hS2 b2 => ?_
      refine (of_is _ _).mono ?_
      rintro e w3 ⟨rfl, rfl⟩
      rw [HN.out]
      have c0 := (Below.block hE2 w.heap.size (by omega)).trans c0
      have c1 := (Below.block hE2 (w.heap.size + 1) (by omega)).trans c1
      have HX2 := Lib.hid (HX.out.trans hE2)
      have hlt : w.heap.size + 1 < W2.heap.size := by omega
      clear hE2 hS2
      obtain ⟨y0, y1, y2, y3⟩ := cells4 c1
      obtain ⟨z0, z1, z2, z3⟩ := cells4 b2
      go_wp2_with fail
      refine (HM.out _).mono ?_
      rintro e w3 ⟨rfl, hx3⟩
      have c1 := (Below.block hx3 (w.heap.size + 1) (by omega)).trans c1
      have HX3 := Lib.hid (HX2.out.trans hx3)
      clear hx3 y0 y1 y2 y3 z0 z1 z2 z3 c0 b2
      obtain ⟨y0, y1, y2, y3⟩ := cells4 c1
      have f0 := free_at c1 (i := 0)
      have f1 := free_at c1 (i := 1)
      have f2 := free_at c1 (i := 2)
      have f3 := free_at c1 (i := 3)
      have hgt : ((at_ + (S.length + 1) : Nat) : Int) - (at_ : Int) < 1 + (m : Int) := by omega
      go_wp2
      refine post_fill4 c1 fun W3 c1 hT hS3 => ?_
      obtain ⟨y0, y1, y2, y3⟩ := cells4 c1
      refine bodyPost_ret (v := .tuple #[zeroOV, .int .i64 0]) (by simp [results, Tryz.results58, go_sem, y0, y1, y2, y3, zeroOV]; rfl) rfl ⟨rfl, ?_⟩
      exact Turn.after HX3.out hT (by simp)
  · rw [if_neg (fun h => hs4 h.1)]
    have HR0 := Lib.hid (by simpa only [Nat.add_zero] using HR0.out)
    clear HR'
    have i1 : (400 : Int) < (sz : Int) := by omega
    have b1 : decide ((400 : Int) < (sz : Int)) = true := decide_eq_true i1
    go_enter Tryz.func58, Tryz.ntmps58
    go_upto_region 1 with fail
    refine wp_alloc2 fun W hE hS b0 b1 => ?_
    obtain ⟨x0, x1, x2, x3, x4⟩ := cells5 b0
    go_wp2_with fail
    refine (HR0.out W hE).mono ?_
    rintro e w1 ⟨rfl, hx⟩
    have c0 := (Below.block hx w.heap.size (by omega)).trans b0
    have c1 := (Below.block hx (w.heap.size + 1) (by omega)).trans b1
    have HX := Lib.hid (hE.trans hx)
    have hlt : w.heap.size + 1 < w1.heap.size := by have := Ext.size hx; omega
    have HS := Lib.hid hS
    clear hS hx hE b0 b1 x0 x1 x2 x3 x4
    go_wp2_with fail
    refine at_alloc1 fun W2 hE2 hS2 b2 => ?_
    refine (of_is _ _).mono ?_
    rintro e w3 ⟨rfl, rfl⟩
    rw [HN.out]
    have c1 := (Below.block hE2 (w.heap.size + 1) (by omega)).trans c1
    have HX2 := Lib.hid (HX.out.trans hE2)
    have hlt : w.heap.size + 1 < W2.heap.size := by omega
    clear hE2 hS2 c0 b2
    obtain ⟨y0, y1, y2, y3⟩ := cells4 c1
    have f0 := free_at c1 (i := 0)
    have f1 := free_at c1 (i := 1)
    have f2 := free_at c1 (i := 2)
    have f3 := free_at c1 (i := 3)
    go_wp2
    refine post_fill4 c1 fun W3 c1 hT hS3 => ?_
    obtain ⟨y0, y1, y2, y3⟩ := cells4 c1
    refine bodyPost_ret (v := .tuple #[zeroOV, .int .i64 0]) (by simp [results, Tryz.results58, go_sem, y0, y1, y2, y3, zeroOV]; rfl) rfl ⟨rfl, ?_⟩
    exact Turn.after HX2.out hT (by simp)
end Go.Proofs.YtppkgfcobnknfaaGreatDoor
/- An object is read out of a heap's words (the program's): all kinds; and maps from places to objects. -/
namespace Go.Proofs.YtppkgfcobnknfaaGreatDoor
open Go.RowKit Go.Maps Arena
set_option maxHeartbeats 4000000
set_option maxRecDepth 100000
theorem readS_row {hd kd tg : Int} {sz : Nat} {S : List Int} (d1 : hd % 256 = kd) (d2 : hd / 256 % 16777216 = tg) (d3 : hd / 4294967296 = sz) (h1 : 1 ≤ kd) (h4 : kd ≤ 4) (h2 : kd ≠ 2) :
    readS (hd :: S) = if sz ≤ 400 ∧ sz ≤ S.length ∧ mayK kd tg sz 0 = true then some ⟨kd, tg, S.take sz, ByteArray.empty⟩ else none := by
  unfold readS
  simp only [d1, d2, d3, Int.toNat_natCast]
  have hb : bodyK kd sz sz = sz := if_neg h2
  rw [hb]
  by_cases hs : sz ≤ 400 ∧ sz ≤ S.length
  · obtain ⟨hs1, hs2⟩ := hs
    have hl : (S.take sz).length = sz := by rw [List.length_take]; omega
    have hm : mayO ⟨kd, tg, S.take sz, ByteArray.empty⟩ = mayK kd tg sz 0 := by
      unfold mayO; dsimp only; rw [hl]; rfl
    simp only [h1, h4, hs1, hs2, and_self, if_true, h2, if_false, false_implies, true_and, hm]
  · rw [if_neg (fun h => hs ⟨h.2.2.1, h.2.2.2⟩), if_neg (fun h => hs ⟨h.1, h.2.1⟩)]
theorem readS_text {hd tg : Int} {sz : Nat} {S : List Int} (d1 : hd % 256 = 2) (d2 : hd / 256 % 16777216 = tg) (d3 : hd / 4294967296 = sz) :
    readS (hd :: S) = if sz ≤ 400 ∧ (sz + 7) / 8 ≤ S.length ∧ ((bytesOf (S.take ((sz + 7) / 8))).drop sz).all (· == 0) = true ∧ mayK 2 tg 0 sz = true then some ⟨2, tg, [], ⟨((bytesOf (S.take ((sz + 7) / 8))).take sz).toArray⟩⟩ else none := by
  unfold readS
  simp only [d1, d2, d3, Int.toNat_natCast]
  have hb : bodyK 2 sz sz = (sz + 7) / 8 := rfl
  rw [hb]
  by_cases hs : sz ≤ 400 ∧ (sz + 7) / 8 ≤ S.length
  · obtain ⟨hs1, hs2⟩ := hs
    have hl : ((bytesOf (S.take ((sz + 7) / 8))).take sz).length = sz := by rw [List.length_take, bytesOf_len, List.length_take]; omega
    have hm : mayO ⟨2, tg, [], ⟨((bytesOf (S.take ((sz + 7) / 8))).take sz).toArray⟩⟩ = mayK 2 tg 0 sz := by
      unfold mayO
      dsimp only
      rw [show (ByteArray.mk ((bytesOf (S.take ((sz + 7) / 8))).take sz).toArray).size = sz by rw [ByteArray.size, List.size_toArray, hl]]
      rfl
    simp only [hs1, hs2, and_self, if_true, hm, true_implies, true_and]
    simp
  · rw [if_neg (fun h => hs ⟨h.2.2.1, h.2.2.2⟩), if_neg (fun h => hs ⟨h.1, h.2.1⟩)]
theorem readS_no {hd kd : Int} {S : List Int} (d1 : hd % 256 = kd) (h : kd < 1 ∨ 4 < kd) : readS (hd :: S) = none := by
  unfold readS
  simp only [d1]
  rw [if_neg (fun h' => by omega)]
theorem read_is (pv : Value) (ba ha sp tp : Int) (at_ : Nat) (hd : Int) (S : List Int) (hSW : ∀ x ∈ hd :: S, W64 x) (w : World)
    (HR : ∀ (i : Nat) (x : Int), (hd :: S)[i]? = some x → ∀ W, Ext w W → Calls Tryz.prog 75 #[.agg #[pv, .int .i64 ba, .int .i64 ha, .int .i64 sp, .int .i64 tp], .int .i64 ((at_ + i : Nat) : Int)] W fun e w' => e = .returned (.int .u64 x) ∧ Ext W w') (hp : pv.oneCell' = true)
    (hat : at_ ≤ 100000) (hSl : S.length ≤ 100000) :
    Calls Tryz.prog 58 #[.agg #[pv, .int .i64 ba, .int .i64 ha, .int .i64 sp, .int .i64 tp], .int .i64 at_, .int .i64 ((at_ + (S.length + 1) : Nat) : Int)] w (ReadSaid (readS (hd :: S)) w) := by
  have hw := hSW hd (.head _)
  have hw1 := hw.1
  obtain ⟨sz, hsz⟩ := Int.eq_ofNat_of_zero_le (show 0 ≤ hd / 4294967296 by omega)
  by_cases h1 : 1 ≤ hd % 256 ∧ hd % 256 ≤ 4
  · by_cases h2 : hd % 256 = 2
    · rw [readS_text h2 rfl hsz]
      exact read_text pv ba ha sp tp at_ _ sz hd S hw w (fun x hx => hSW x (.tail _ hx)) HR hp h2 rfl hsz hat hSl
    · rw [readS_row rfl rfl hsz h1.1 h1.2 h2]
      rcases (show hd % 256 = 1 ∨ hd % 256 = 3 ∨ hd % 256 = 4 by omega) with h | h | h
      · exact read_row pv ba ha sp tp at_ _ _ sz 1 8 255 hd S hw w HR hp rfl rfl hsz hat hSl h2 (by rw [h]; rfl)
      · exact read_row pv ba ha sp tp at_ _ _ sz 0 400 0 hd S hw w HR hp rfl rfl hsz hat hSl h2 (by rw [h]; rfl)
      · exact read_row pv ba ha sp tp at_ _ _ sz 0 30 59 hd S hw w HR hp rfl rfl hsz hat hSl h2 (by rw [h]; rfl)
  · rw [readS_no rfl (by omega)]
    refine (read_no pv ba ha sp tp at_ _ hd _ _ sz hw w (by simpa only [Nat.add_zero] using HR 0 hd rfl) hp rfl rfl hsz (by omega)).mono ?_
    rintro e w' h
    exact h
end Go.Proofs.YtppkgfcobnknfaaGreatDoor
/- Maps of the call's own from ints to whatever values: what is looked up is what was stored, to the value. -/
namespace Go.Proofs.YtppkgfcobnknfaaGreatDoor
open Go.RowKit Go.Maps
def heldR : Value → Option (DataW Value × List MemPlace) := fun v => some (.held v, [])
def IMap (w : World) (b n : Nat) (f : Int → Option Value) : Prop := ∃ D : DataW Value, IsMap D ∧ w.ownsMap Tryz.prog 3 heldR b n D ∧ ∀ k : Int, D.atKey (.int .i64 k) .nil = match f k with | some v => .held v | none => .nil
theorem imap_law : Keyed Tryz.prog 3 := int_keyed Tryz.underlying3
theorem imap_key {k : Int} (hw : (Lit.int .i64 k).wf = true) : keyOf Tryz.prog 3 (.int .i64 k) = some (.int .i64 k) := keyOf_int_mk Tryz.underlying3 hw
theorem IMap.made (w : World) : IMap (w.alloc (.map #[] 0)) w.heap.size 0 (fun _ => none) := ⟨.map [], ⟨_, rfl⟩, World.ownsMap_made _ _ _ _, fun _ => rfl⟩
theorem IMap.lt {w : World} {b n : Nat} {f : Int → Option Value} (h : IMap w b n f) : b < w.heap.size := by
  obtain ⟨D, _, h, _⟩ := h; exact h.lt
theorem IMap.stays {w w' : World} {b n : Nat} {f : Int → Option Value} (h : IMap w b n f) (hb : w'.heap[b]? = w.heap[b]?) : IMap w' b n f := by
  obtain ⟨D, hD, ⟨es, clock, h0, h1, h2, h3⟩, hf⟩ := h
  exact ⟨D, hD, ⟨es, clock, hb.trans h0, h1, h2, h3⟩, hf⟩
theorem IMap.ext {w w' : World} {b n : Nat} {f : Int → Option Value} (h : IMap w b n f) (e : Ext w w') : IMap w' b n f := h.stays (Below.block e b h.lt)
theorem IMap.turn {w w' : World} {b n : Nat} {f : Int → Option Value} {bs : List Nat} (h : IMap w b n f) (t : Turn bs w w') (hb : b ∉ bs) : IMap w' b n f := h.stays (t.block b h.lt hb)
theorem IMap.look {w : World} {b n : Nat} {f : Int → Option Value} (h : IMap w b n f) {T E : TypeId} (ht : Tryz.prog.underlying T = some (.map 3 E)) {z : Value} (hz : (zeroValue E).run Tryz.prog w = .ok z w) (c : Bool) {k : Int} (hw : (Lit.int .i64 k).wf = true) :
    (Instr.lookup T (.map (some b)) (.int .i64 k) c).run Tryz.prog w = .ok (if c then .tuple #[(f k).getD z, .bool (f k).isSome] else (f k).getD z) w := by
  obtain ⟨D, _, ⟨es, clock, hb, F, hs, rfl⟩, hf⟩ := h
  have hfk := hf k
  rcases Maps.fit_look c imap_law ht hz hb F (imap_key hw) with ⟨hr, _, hat⟩ | ⟨e0, y, _, _, hr, hR, hat, _⟩
  · rw [hat .nil] at hfk
    cases hk : f k with
    | none => rw [hr]; rfl
    | some v => rw [hk] at hfk; cases hfk
  · obtain rfl : y = (.held e0.val, []) := (Option.some.inj hR).symm
    rw [hat .nil] at hfk
    cases hk : f k with
    | none => rw [hk] at hfk; cases hfk
    | some v =>
      rw [hk] at hfk
      obtain rfl : e0.val = v := DataW.held.inj hfk
      rw [hr]; rfl
def fput (f : Int → Option Value) (k : Int) (v : Value) : Int → Option Value := fun x => if x = k then some v else f x
theorem fput_same (f : Int → Option Value) (k : Int) (v : Value) : fput f k v k = some v := if_pos rfl
theorem fput_other {f : Int → Option Value} {k x : Int} {v : Value} (h : x ≠ k) : fput f k v x = f x := if_neg h
/-- m[k] = v, at a plain region's list -/
theorem wpList_put_imap {w : World} {ops : Array Oper} {rest : List Oper} {o : Oper} {a : Act} {Q : Exit → Act → World → Prop} (hg : o.guard = none) (m x v : Operand) {T E : TypeId} (hop : o.op = Op.mapUpdate T m x v) (ht : Tryz.prog.underlying T = some (.map 3 E))
    (b n : Nat) (f : Int → Option Value) (hm : a.eval m = .map (some b)) (hown : IMap w b n f) (hn : n < maxLen) (k : Int) (val : Value) (hx : a.eval x = .int .i64 k) (hv : a.eval v = val) (hw : (Lit.int .i64 k).wf = true)
    (hK : ∀ w', IMap w' b (n + 1) (fput f k val) → w.grownBy w' (some b) → wpList Tryz.prog ops Q rest (a.put o.dst undef) w') : wpList Tryz.prog ops Q (o :: rest) a w := by
  obtain ⟨D, hD, ho, hf⟩ := hown
  refine wpList_mapUpdate_own w hg m x v T hop 3 E imap_law ht heldR b n D hm ho hn _ val (.int .i64 k) hx hv (imap_key hw) (.held val) [] rfl (fun w' h1 h2 => hK w' ⟨_, ?_, h1, fun k' => ?_⟩ h2)
  · obtain ⟨es, rfl⟩ := hD; exact ⟨_, rfl⟩
  · by_cases h : k' = k
    · subst h
      rw [fput_same, atKey_put_same hD (show WideAt.IsKeyLit (.int .i64 _) from trivial)]
    · rw [fput_other h, atKey_put_other (by intro e; exact h (by injection e))]
      exact hf k'
end Go.Proofs.YtppkgfcobnknfaaGreatDoor
/- Objects by their places; may a word be a field (the program's). -/
namespace Go.Proofs.YtppkgfcobnknfaaGreatDoor
open Go.RowKit Go.Maps Arena
set_option maxHeartbeats 4000000
set_option maxRecDepth 100000
/-- an object's value, its fields in a block of the call's own -/
def ObV (w : World) (B : Nat) (v : Value) (o : Ob) : Prop := ∃ q c, v = .agg #[.int .i64 o.kind, .int .i64 o.tag, .slice q o.fields.length c, .string o.text] ∧ OwnP w B 42 (.slice q o.fields.length c) 1 (o.fields.map wordC)
theorem ObV.ext {w w' : World} {B : Nat} {v : Value} {o : Ob} (h : ObV w B v o) (e : Ext w w') : ObV w' B v o := by
  obtain ⟨q, c, h1, h2⟩ := h; exact ⟨q, c, h1, h2.ext e⟩
theorem ObV.mono {w : World} {B B' : Nat} {v : Value} {o : Ob} (h : ObV w B v o) (hb : B' ≤ B) : ObV w B' v o := by
  obtain ⟨q, c, h1, h2⟩ := h; exact ⟨q, c, h1, h2.mono hb⟩
theorem ObV.below {w w' : World} {B : Nat} {v : Value} {o : Ob} {bs : List Nat} (h : ObV w B v o) (t : Turn bs w w') (hb : ∀ b ∈ bs, b < B) : ObV w' B v o := by
  obtain ⟨q, c, h1, h2⟩ := h
  exact ⟨q, c, h1, h2.turn t (fun b hb2 hm => by have := hb b hm; have := (h2.own b hb2).1; omega)⟩
theorem ReadSaid.ob {o : Ob} {w : World} {e : Ending} {w' : World} (h : ReadSaid (some o) w e w') : ∃ v, e = .returned (.tuple #[v, .int .i64 (wordsO o : Nat)]) ∧ ObV w' w.heap.size v o ∧ Ext w w' := by
  obtain ⟨q, c, h1, h2, h3⟩ := h
  exact ⟨_, h1, ⟨q, c, rfl, h2⟩, h3⟩
/-- a map from places to objects -/
structure MetAt (w : World) (mb B first : Nat) (L : List (Nat × Ob)) : Prop where
  map : ∃ n f, n ≤ L.length ∧ IMap w mb n f ∧ (∀ x ∈ L, ∃ v, f ((first + x.1 : Nat) : Int) = some v ∧ ObV w B v x.2) ∧ ∀ k : Int, (∀ x ∈ L, ((first + x.1 : Nat) : Int) ≠ k) → f k = none
theorem MetAt.stays {w w' : World} {mb B first : Nat} {L : List (Nat × Ob)} (h : MetAt w mb B first L) (hb : w'.heap[mb]? = w.heap[mb]?) (ho : ∀ v o, ObV w B v o → ObV w' B v o) : MetAt w' mb B first L := by
  obtain ⟨n, f, h0, h1, h2, h3⟩ := h
  exact ⟨n, f, h0, h1.stays hb, fun x hx => (h2 x hx).imp fun v hv => ⟨hv.1, ho _ _ hv.2⟩, h3⟩
theorem MetAt.lt {w : World} {mb B first : Nat} {L : List (Nat × Ob)} (h : MetAt w mb B first L) : mb < w.heap.size := by
  obtain ⟨n, f, h0, h1, _⟩ := h; exact h1.lt
theorem MetAt.ext {w w' : World} {mb B first : Nat} {L : List (Nat × Ob)} (h : MetAt w mb B first L) (e : Ext w w') : MetAt w' mb B first L := h.stays (Below.block e mb h.lt) (fun _ _ h => h.ext e)
theorem zeroO_run (w : World) : (zeroValue 56).run Tryz.prog w = .ok zeroOV w := by kernel_rfl
/-- what a look-up tells -/
theorem MetAt.look {w : World} {mb B first : Nat} {L : List (Nat × Ob)} (h : MetAt w mb B first L) (c : Bool) {k : Int} (hw : (Lit.int .i64 k).wf = true) :
    ∃ v, (Instr.lookup 71 (.map (some mb)) (.int .i64 k) c).run Tryz.prog w = .ok (if c then .tuple #[v, .bool (L.any fun x => decide (((first + x.1 : Nat) : Int) = k))] else v) w ∧
      (∀ x ∈ L, ((first + x.1 : Nat) : Int) = k → (∀ y ∈ L, y.1 = x.1 → y = x) → ObV w B v x.2) ∧ ((∀ x ∈ L, ((first + x.1 : Nat) : Int) ≠ k) → v = zeroOV) := by
  obtain ⟨n, f, h0, h1, h2, h3⟩ := h
  have hl := h1.look Tryz.underlying71 (zeroO_run w) c hw
  by_cases hk : ∃ x ∈ L, ((first + x.1 : Nat) : Int) = k
  · obtain ⟨x, hx, hxk⟩ := hk
    obtain ⟨v, hv, hob⟩ := h2 x hx
    rw [hxk] at hv
    rw [hv] at hl
    have ha : (L.any fun x => decide (((first + x.1 : Nat) : Int) = k)) = true := List.any_eq_true.2 ⟨x, hx, by simpa using hxk⟩
    refine ⟨v, by rw [ha]; exact hl, fun y hy hyk hu => ?_, fun hn => absurd hxk (hn x hx)⟩
    have hxy : x = y := hu x hx (by omega)
    rw [← hxy]
    exact hob
  · have hn : ∀ x ∈ L, ((first + x.1 : Nat) : Int) ≠ k := fun x hx e => hk ⟨x, hx, e⟩
    have ha : (L.any fun x => decide (((first + x.1 : Nat) : Int) = k)) = false := List.any_eq_false.2 fun x hx => by simpa using hn x hx
    rw [h3 k hn] at hl
    exact ⟨zeroOV, by rw [ha]; exact hl, fun x hx e => absurd e (hn x hx), fun _ => rfl⟩
theorem points_is {w : World} {mb B first : Nat} {L : List (Nat × Ob)} (H : MetAt w mb B first L) {x : Int} (hx : W64 x) :
    Calls Tryz.prog 45 #[.map (some mb), .int .u64 x] w fun e w' => e = .returned (.bool (fieldOK (L.map (·.1)) first x)) ∧ Ext w w' := by
  have HI := Lib.hid (fun W => isInt_is hx W)
  have HA := Lib.hid (fun W => at_is hx W)
  by_cases hi : isIntW x = true
  · rw [hi] at HI
    have hr : fieldOK (L.map (·.1)) first x = true := by unfold fieldOK; rw [hi]; rfl
    rw [hr]
    clear hi hr HA H
    go_enter Tryz.func45, Tryz.ntmps45
    go_wp2_with fail
    refine (HI.out _).mono ?_
    rintro e w1 ⟨rfl, rfl⟩
    go_wp2
    go_ret
    exact ⟨rfl, Ext.refl _⟩
  · have hi' : isIntW x = false := by simpa using hi
    rw [hi'] at HI
    by_cases hb : 4294967296 ≤ x / 2
    · have hr : fieldOK (L.map (·.1)) first x = false := by unfold fieldOK; rw [hi', decide_eq_false (by omega)]; rfl
      rw [hr]
      have h2 : (isIntW x = true ∨ 4294967296 ≤ x / 2) := .inr hb
      rw [if_pos h2] at HA
      clear hi hi' hr H h2 hb
      go_enter Tryz.func45, Tryz.ntmps45
      go_wp2_with fail
      refine (HI.out _).mono ?_
      rintro e w1 ⟨rfl, rfl⟩
      go_wp2_with fail
      refine (HA.out _).mono ?_
      rintro e w1 ⟨rfl, rfl⟩
      go_wp2
      go_ret
      exact ⟨rfl, Ext.refl _⟩
    · have h2 : ¬ (isIntW x = true ∨ 4294967296 ≤ x / 2) := fun h => h.elim hi hb
      rw [if_neg h2] at HA
      obtain ⟨k, hk⟩ : ∃ k, k = x / 2 := ⟨_, rfl⟩
      rw [← hk] at HA
      have hwk : (Lit.int .i64 k).wf = true := by
        have := hx.1; have := hx.2
        exact WalkArith.wf_i64 (by omega)
      have hr : fieldOK (L.map (·.1)) first x = (L.any fun x => decide (((first + x.1 : Nat) : Int) = k)) := by
        unfold fieldOK
        rw [hi', decide_eq_true (by omega), ← hk, List.any_map]
        rfl
      rw [hr]
      obtain ⟨v, hl, h3, h4⟩ := H.look true hwk
      have hcl : ∃ a b q n c s, v = .agg #[.int .i64 a, .int .i64 b, .slice q n c, .string s] := by
        by_cases h5 : ∃ x ∈ L, ((first + x.1 : Nat) : Int) = k
        · obtain ⟨n, f, _, h1, h2', _⟩ := H
          obtain ⟨y, hy, hyk⟩ := h5
          obtain ⟨u, hu, q, c, rfl, _⟩ := h2' y hy
          have hl2 := h1.look Tryz.underlying71 (zeroO_run w) true hwk
          rw [hyk] at hu
          rw [hl, hu] at hl2
          simp at hl2
          exact ⟨_, _, _, _, _, _, hl2.1⟩
        · rw [h4 (fun y hy e => h5 ⟨y, hy, e⟩)]
          exact ⟨_, _, _, _, _, _, rfl⟩
      obtain ⟨a, b, q, n, c, s, rfl⟩ := hcl
      generalize (L.any fun x => decide (((first + x.1 : Nat) : Int) = k)) = bb at hl ⊢
      clear hi hi' hr H h2 hb hk h3 h4
      go_enter Tryz.func45, Tryz.ntmps45
      go_wp2_with fail
      refine (HI.out _).mono ?_
      rintro e w1 ⟨rfl, rfl⟩
      go_wp2_with fail
      refine (HA.out _).mono ?_
      rintro e w1 ⟨rfl, rfl⟩
      go_wp2
      go_ret
      refine ⟨rfl, ?_⟩
      first
        | exact Ext.alloc _ _
        | (iterate 4 refine Ext.set ?_ (Nat.le_refl _) _
           exact Ext.alloc _ _)
end Go.Proofs.YtppkgfcobnknfaaGreatDoor
/- A heap's semispace: its words, where they stand. Objects stand one behind the other (plain). -/
namespace Go.Proofs.YtppkgfcobnknfaaGreatDoor
open Go.RowKit Go.Maps Arena
set_option maxHeartbeats 4000000
set_option maxRecDepth 100000
def firstN (h : Hp) : Nat := (h.space * h.half).toNat
def semi (ws : List Int) (R : List (Nat × Nat)) (h : Hp) : List Int := ((wordsAt ws R h.base).drop (firstN h)).take h.top.toNat
theorem wordsAt_len {n : Nat} {ws : List Int} {R : List (Nat × Nat)} (hg : Arena.Good n R) (hl : ws.length = n) (x : Int) : (wordsAt ws R x).length = lenAt R x := by
  by_cases h0 : lenAt R x = 0
  · rw [wordsAt_zero h0, h0]; rfl
  · obtain ⟨r, hr, h1, h2⟩ := lenAt_some h0
    have := (hg.2 r hr).2
    unfold wordsAt
    rw [List.length_take, List.length_drop]
    omega
theorem lenAt_le {n : Nat} {R : List (Nat × Nat)} (hg : Arena.Good n R) (x : Int) : lenAt R x ≤ n := by
  by_cases h0 : lenAt R x = 0
  · omega
  · obtain ⟨r, hr, h1, h2⟩ := lenAt_some h0
    have := (hg.2 r hr).2
    omega
theorem thereB_ok {R : List (Nat × Nat)} {h : Hp} (ht : thereB R h = true) : hpOK h ∧ (lenAt R h.base : Int) = 2 * h.half := by
  unfold thereB at ht
  simpa using ht
theorem firstN_is {h : Hp} (ho : hpOK h) : ((firstN h : Nat) : Int) = h.space * h.half ∧ firstN h ≤ 2000 ∧ (firstN h : Int) + h.half ≤ 2 * h.half := by
  obtain ⟨h1, h2, h3, h4, _⟩ := ho
  unfold firstN
  rcases (show h.space = 0 ∨ h.space = 1 by omega) with e | e <;> rw [e] <;> omega
theorem semi_len {n : Nat} {ws : List Int} {R : List (Nat × Nat)} {h : Hp} (hg : Arena.Good n R) (hl : ws.length = n) (ht : thereB R h = true) : (semi ws R h).length = h.top.toNat := by
  obtain ⟨ho, h2⟩ := thereB_ok ht
  have hf := firstN_is ho
  obtain ⟨_, _, _, _, _, h6⟩ := ho
  unfold semi
  rw [List.length_take, List.length_drop, wordsAt_len hg hl]
  omega
theorem semi_at {n : Nat} {ws : List Int} {R : List (Nat × Nat)} {h : Hp} (hg : Arena.Good n R) (hl : ws.length = n) (ht : thereB R h = true) {i : Nat} {x : Int} (hx : (semi ws R h)[i]? = some x) : getW ws R h.base ((firstN h + i : Nat) : Int) = x := by
  have hi : i < (semi ws R h).length := (List.getElem?_eq_some_iff.1 hx).1
  rw [semi_len hg hl ht] at hi
  obtain ⟨ho, h2⟩ := thereB_ok ht
  have hf := firstN_is ho
  obtain ⟨_, _, _, _, h5, h6⟩ := ho
  have hin : within R h.base ((firstN h + i : Nat) : Int) = true := by
    unfold within; rw [decide_eq_true]; exact ⟨by omega, by omega⟩
  unfold getW
  rw [if_pos hin]
  unfold semi at hx
  rw [List.getElem?_take_of_lt hi, List.getElem?_drop] at hx
  unfold wordsAt at hx
  rw [List.getElem?_take_of_lt (by omega), List.getElem?_drop] at hx
  have hb : 0 ≤ h.base := by
    by_cases h0 : lenAt R h.base = 0
    · omega
    · obtain ⟨r, _, h1, _⟩ := lenAt_some h0; omega
  rw [show (h.base + ((firstN h + i : Nat) : Int)).toNat = h.base.toNat + (firstN h + i) by omega, List.getD_eq_getElem?_getD, hx]
  rfl
theorem semi_mem {ws : List Int} {R : List (Nat × Nat)} {h : Hp} {x : Int} (hx : x ∈ semi ws R h) : x ∈ ws :=
  List.mem_of_mem_drop (List.mem_of_mem_take (List.mem_of_mem_drop (List.mem_of_mem_take hx)))
theorem semi_word {w : World} {p g bm n : Nat} {ws : List Int} {R : List (Nat × Nat)} (H : ArenaAt w p g bm n ws R) (h : Hp) (ht : thereB R h = true) (hw : (Lit.int .i64 h.base).wf = true) {i : Nat} {x : Int} (hx : (semi ws R h)[i]? = some x) (W : World) (e : Ext w W) :
    Calls Tryz.prog 75 #[.agg #[.pointer (some ⟨p, 0, none⟩), .int .i64 h.base, .int .i64 h.half, .int .i64 h.space, .int .i64 h.top], .int .i64 ((firstN h + i : Nat) : Int)] W fun e w' => e = .returned (.int .u64 x) ∧ Ext W w' := by
  have := word_is (H.ext e) h.base h.half h.space h.top ((firstN h + i : Nat) : Int) hw
  rw [semi_at H.good H.len ht hx] at this
  exact this
/-! ### objects, one behind the other -/
theorem readS_words {S : List Int} {o : Ob} (h : readS S = some o) : wordsO o ≤ S.length ∧ 1 ≤ wordsO o ∧ mayO o = true := by
  cases S with
  | nil => cases h
  | cons hd r =>
    by_cases h2 : hd % 256 = 2
    · unfold readS at h
      simp only [h2, if_true] at h
      split at h
      · rename_i hc
        obtain ⟨_, _, hs, hb⟩ := hc
        split at h
        · rename_i hm
          obtain rfl := Option.some.inj h
          refine ⟨?_, by unfold wordsO; omega, hm.2⟩
          unfold wordsO
          rw [List.length_cons]
          have hl : (ByteArray.mk ((bytesOf (r.take (bodyK 2 (hd / 4294967296).toNat (hd / 4294967296).toNat))).take (hd / 4294967296).toNat).toArray).size ≤ (hd / 4294967296).toNat := by
            rw [ByteArray.size, List.size_toArray, List.length_take]; omega
          unfold bodyK at hb ⊢
          simp only [if_true] at hb ⊢
          unfold bodyK at hl
          simp only [if_true] at hl
          omega
        · cases h
      · cases h
    · unfold readS at h
      simp only [h2, if_false, false_implies, true_and] at h
      split at h
      · rename_i hc
        obtain ⟨_, _, hs, hb⟩ := hc
        split at h
        · rename_i hm
          obtain rfl := Option.some.inj h
          refine ⟨?_, by unfold wordsO; omega, hm⟩
          unfold wordsO
          rw [List.length_cons]
          unfold bodyK at hb ⊢
          simp only [h2, if_false] at hb ⊢
          rw [List.length_take]
          omega
        · cases h
      · cases h
theorem objsN_nil (f : Nat) (a : Nat) : objsN f [] a = some [] := by cases f <;> simp [objsN]
theorem objsN_cons {f : Nat} {S : List Int} {a : Nat} (hf : S.length < f) (hS : S ≠ []) : objsN f S a = match readS S with | none => none | some o => (objsN (f - 1) (S.drop (wordsO o)) (a + wordsO o)).map ((a, o) :: ·) := by
  obtain ⟨f', rfl⟩ : ∃ f', f = f' + 1 := ⟨f - 1, by omega⟩
  rw [objsN, if_neg hS]
  rfl
/-- enough fuel is enough -/
theorem objsN_fuel : ∀ (f g : Nat) (S : List Int) (a : Nat), S.length < f → S.length < g → objsN f S a = objsN g S a := by
  intro f
  induction f with
  | zero => intro g S a h; omega
  | succ f ih =>
    intro g S a hf hg
    by_cases hS : S = []
    · subst hS; rw [objsN_nil, objsN_nil]
    · rw [objsN_cons hf hS, objsN_cons hg hS]
      cases hr : readS S with
      | none => rfl
      | some o =>
        obtain ⟨h1, h2, _⟩ := readS_words hr
        simp only [Nat.add_sub_cancel]
        rw [ih (g - 1) _ _ (by rw [List.length_drop]; omega) (by rw [List.length_drop]; omega)]
theorem objs_cons {S : List Int} {a : Nat} (hS : S ≠ []) : objs S a = match readS S with | none => none | some o => (objs (S.drop (wordsO o)) (a + wordsO o)).map ((a, o) :: ·) := by
  unfold objs
  rw [objsN_cons (Nat.lt_succ_self _) hS]
  cases hr : readS S with
  | none => rfl
  | some o =>
    obtain ⟨h1, h2, _⟩ := readS_words hr
    rw [show S.length.succ - 1 = S.length from rfl]
    simp only
    rw [objsN_fuel S.length ((S.drop (wordsO o)).length + 1) _ _ (by rw [List.length_drop]; omega) (Nat.lt_succ_self _)]
theorem objs_nil (a : Nat) : objs [] a = some [] := objsN_nil _ _
end Go.Proofs.YtppkgfcobnknfaaGreatDoor
/- All objects of a heap (the program's). -/
namespace Go.Proofs.YtppkgfcobnknfaaGreatDoor
open Go.RowKit Go.Maps Arena
set_option maxHeartbeats 4000000
set_option maxRecDepth 100000
def lookA (p : Nat) (h : Hp) : Value := .agg #[.pointer (some ⟨p, 0, none⟩), .int .i64 h.base, .int .i64 h.half, .int .i64 h.space, .int .i64 h.top]
def AllNo (w : World) (e : Ending) (w' : World) : Prop := e = .returned (.tuple #[.map none, .slice none 0 0, .bool false]) ∧ Ext w w'
theorem all_no {w : World} {p g bm n : Nat} {ws : List Int} {R : List (Nat × Nat)} (H : ArenaAt w p g bm n ws R) (h : Hp) (hw : (Lit.int .i64 h.base).wf = true) (ht : thereB R h = false) :
    Calls Tryz.prog 30 #[.agg #[.pointer (some ⟨p, 0, none⟩), .int .i64 h.base, .int .i64 h.half, .int .i64 h.space, .int .i64 h.top]] w (AllNo w) := by
  have HT := Lib.hid (fun W (e : Ext w W) => there_is (H.ext e) h hw (wordsAt_len H.good H.len h.base) (Nat.le_trans (lenAt_le H.good _) H.least))
  rw [ht] at HT
  clear H hw ht
  go_enter Tryz.func30, Tryz.ntmps30
  go_wp2_with fail
  refine (HT.out _ (Ext.alloc _ _)).mono ?_
  rintro e w1 ⟨rfl, hx⟩
  have HX := Lib.hid ((Ext.alloc _ _).trans hx)
  clear hx
  go_wp2
  go_ret3
  exact ⟨rfl, HX.out⟩
def plC (first : Nat) (x : Nat × Ob) : List Value := [.int .i64 ((first + x.1 : Nat) : Int)]
theorem EInt : ElemT Tryz.prog 59 3 1 8 := ⟨Tryz.underlying59, ⟨.int .i64 0, by kernel_rfl, rfl⟩, by decide⟩
theorem plC_rows (first : Nat) (L : List (Nat × Ob)) : Rows1 1 (L.map (plC first)) := by
  intro cs hm
  obtain ⟨x, _, rfl⟩ := List.mem_map.1 hm
  exact ⟨rfl, fun u hu => by rw [List.mem_singleton.1 hu]; rfl⟩
theorem OwnP.not_at {w : World} {B : Nat} {T : TypeId} {v : Value} {s : Nat} {l : List (List Value)} (h : OwnP w B T v s l) {b : Nat} {cs : Array Value} {T' : TypeId} {fr : Nat × Nat} (hb : w.heap[b]? = some (.cells cs T' fr)) (hT : T ≠ T') : v.ownBlock ≠ some b := by
  intro e
  rcases h.forms with ⟨rfl, _⟩ | ⟨g, cap, cur, rfl, _, hg, _⟩
  · cases e
  · obtain rfl : g = b := by simpa [Value.ownBlock] using e
    rw [hg] at hb
    obtain ⟨_, h2, _⟩ := Obj.cells.inj (Option.some.inj hb)
    exact hT h2
theorem OwnP.not_map {w : World} {B : Nat} {T : TypeId} {v : Value} {s : Nat} {l : List (List Value)} (h : OwnP w B T v s l) {b n : Nat} {f : Int → Option Value} (hb : IMap w b n f) : v.ownBlock ≠ some b := by
  intro e
  obtain ⟨D, _, ⟨es, clock, h0, _⟩, _⟩ := hb
  rcases h.forms with ⟨rfl, _⟩ | ⟨g, cap, cur, rfl, _, hg, _⟩
  · cases e
  · obtain rfl : g = b := by simpa [Value.ownBlock] using e
    rw [hg] at h0
    cases h0
theorem OwnP.apart {w : World} {B B' : Nat} {T T' : TypeId} {v v' : Value} {s s' : Nat} {l l' : List (List Value)} (h : OwnP w B T v s l) (h' : OwnP w B' T' v' s' l') (hT : T ≠ T') {b : Nat} (hb : v'.ownBlock = some b) : v.ownBlock ≠ some b := by
  rcases h'.forms with ⟨rfl, _⟩ | ⟨g, cap, cur, rfl, _, hg, _⟩
  · cases hb
  · obtain rfl : g = b := by simpa [Value.ownBlock] using hb
    exact h.not_at hg hT
/-- what 'read' told, with its value written out -/
def RPost (r : Option Ob) (n : Int) (w : World) (B : Nat) (v : Value) : Prop := match r with
  | none => n = 0
  | some o => n = (wordsO o : Nat) ∧ ObV w B v o
theorem ReadSaid.open {r : Option Ob} {w : World} {e : Ending} {w' : World} (h : ReadSaid r w e w') : ∃ (kd tg : Int) (q : Option Addr) (l c : Nat) (s : ByteArray) (n : Int), e = .returned (.tuple #[.agg #[.int .i64 kd, .int .i64 tg, .slice q l c, .string s], .int .i64 n]) ∧ Ext w w' ∧ RPost r n w' w.heap.size (.agg #[.int .i64 kd, .int .i64 tg, .slice q l c, .string s]) := by
  cases r with
  | none => exact ⟨0, 0, none, 0, 0, ByteArray.empty, 0, h.1, h.2, rfl⟩
  | some o =>
    obtain ⟨q, c, h1, h2, h3⟩ := h
    exact ⟨_, _, _, _, _, _, _, h1, h3, rfl, q, c, rfl, h2⟩
theorem RPost.stays {r : Option Ob} {n : Int} {w w' : World} {B : Nat} {v : Value} (h : RPost r n w B v) (ho : ∀ v o, ObV w B v o → ObV w' B v o) : RPost r n w' B v := by
  cases r with
  | none => exact h
  | some o => exact ⟨h.1, ho _ _ h.2⟩
theorem RPost.mono {r : Option Ob} {n : Int} {w : World} {B B' : Nat} {v : Value} (h : RPost r n w B v) (hb : B' ≤ B) : RPost r n w B' v := by
  cases r with
  | none => exact h
  | some o => exact ⟨h.1, h.2.mono hb⟩
theorem ObV.turn_at {w w' : World} {B b : Nat} {v : Value} {o : Ob} (h : ObV w B v o) {cs : Array Value} {T' : TypeId} {fr : Nat × Nat} (hb : w.heap[b]? = some (.cells cs T' fr)) (hT : 42 ≠ T') (t : Turn [b] w w') : ObV w' B v o := by
  obtain ⟨q, c, h1, h2⟩ := h
  exact ⟨q, c, h1, h2.turn t (fun b' hb2 hm => by rw [List.mem_singleton.1 hm] at hb2; exact h2.not_at hb hT hb2)⟩
theorem ObV.put {w w' : World} {B mb n : Nat} {v : Value} {o : Ob} {f : Int → Option Value} (h : ObV w B v o) (hb : IMap w mb n f) (g : w.grownBy w' (some mb)) : ObV w' B v o := by
  obtain ⟨q, c, h1, h2⟩ := h
  exact ⟨q, c, h1, h2.grown g (fun b hb2 e => by obtain rfl := Option.some.inj e; exact h2.not_map hb hb2)⟩
theorem ObV.own {w w' : World} {B B' : Nat} {v u : Value} {o : Ob} {T : TypeId} {s : Nat} {l : List (List Value)} (h : ObV w B v o) (hu : OwnP w B' T u s l) (hT : 42 ≠ T) (g : w.grownBy w' u.ownBlock) : ObV w' B v o := by
  obtain ⟨q, c, h1, h2⟩ := h
  exact ⟨q, c, h1, h2.grown g (fun b hb2 e => h2.apart hu hT e hb2)⟩
theorem met_put {w w' : World} {mb B first nm pp : Nat} {L : List (Nat × Ob)} {fm : Int → Option Value} {o : Ob} {v : Value} (hnm : nm ≤ L.length) (him : IMap w' mb (nm + 1) (fput fm ((first : Int) + (pp : Int)) v))
    (hfi : ∀ x ∈ L, ∃ v, fm ((first + x.1 : Nat) : Int) = some v ∧ ObV w B v x.2) (hfn : ∀ k : Int, (∀ x ∈ L, ((first + x.1 : Nat) : Int) ≠ k) → fm k = none) (hlt : ∀ x ∈ L, x.1 < pp) (hov : ObV w' B v o) (hst : ∀ v o, ObV w B v o → ObV w' B v o) : MetAt w' mb B first (L ++ [(pp, o)]) := by
  refine ⟨⟨nm + 1, _, by simp; omega, him, fun x hx => ?_, fun k hk => ?_⟩⟩
  · rcases List.mem_append.1 hx with hx | hx
    · obtain ⟨u, h1, h2⟩ := hfi x hx
      refine ⟨u, ?_, hst _ _ h2⟩
      rw [fput_other (by have := hlt x hx; omega)]
      exact h1
    · rw [List.mem_singleton.1 hx]
      exact ⟨v, by rw [show ((first + pp : Nat) : Int) = (first : Int) + (pp : Int) by omega, fput_same], hov⟩
  · have h1 := hk (pp, o) (by simp)
    rw [fput_other (by intro e; apply h1; rw [e]; simp)]
    exact hfn k fun x hx => hk x (List.mem_append_left _ hx)
theorem readS_fields {S : List Int} {o : Ob} (h : readS S = some o) : ∀ f ∈ o.fields, f ∈ S := by
  cases S with
  | nil => cases h
  | cons hd r =>
    by_cases h2 : hd % 256 = 2
    · unfold readS at h
      simp only [h2, if_true] at h
      split at h
      · split at h
        · obtain rfl := Option.some.inj h; intro f hf; cases hf
        · cases h
      · cases h
    · unfold readS at h
      simp only [h2, if_false, false_implies, true_and] at h
      split at h
      · split at h
        · obtain rfl := Option.some.inj h
          intro f hf
          exact .tail _ (List.mem_of_mem_take hf)
        · cases h
      · cases h
theorem objs_ind {P : List Int → Nat → List (Nat × Ob) → Prop} (h0 : ∀ a, P [] a []) (h1 : ∀ S a o L, S ≠ [] → readS S = some o → P (S.drop (wordsO o)) (a + wordsO o) L → P S a ((a, o) :: L)) : ∀ (n : Nat) {S : List Int} {a : Nat} {L : List (Nat × Ob)}, S.length ≤ n → objs S a = some L → P S a L := by
  intro n
  induction n with
  | zero =>
    intro S a L hn h
    obtain rfl : S = [] := List.eq_nil_of_length_eq_zero (by omega)
    rw [objs_nil] at h
    obtain rfl := Option.some.inj h
    exact h0 a
  | succ n ih =>
    intro S a L hn h
    by_cases hS : S = []
    · subst hS
      rw [objs_nil] at h
      obtain rfl := Option.some.inj h
      exact h0 a
    · rw [objs_cons hS] at h
      cases hr : readS S with
      | none => rw [hr] at h; cases h
      | some o =>
        rw [hr] at h
        obtain ⟨hw1, hw2, _⟩ := readS_words hr
        obtain ⟨L', hL', rfl⟩ := Option.map_eq_some_iff.1 h
        exact h1 S a o L' hS hr (ih (by rw [List.length_drop]; omega) hL')
theorem objs_places {S : List Int} {L : List (Nat × Ob)} (h : objs S 0 = some L) : L.Pairwise (fun x y => x.1 < y.1) :=
  (objs_ind (P := fun _ a L => L.Pairwise (fun x y => x.1 < y.1) ∧ ∀ x ∈ L, a ≤ x.1) (fun a => ⟨List.Pairwise.nil, fun x hx => by cases hx⟩)
    (fun S a o L hS hr ih => ⟨List.pairwise_cons.2 ⟨fun y hy => by have := ih.2 y hy; have := (readS_words hr).2.1; dsimp only; omega, ih.1⟩, fun x hx => by
      rcases List.mem_cons.1 hx with rfl | hx
      · exact Nat.le_refl _
      · have := ih.2 x hx; omega⟩) S.length (Nat.le_refl _) h).1
theorem objs_fields {S : List Int} {L : List (Nat × Ob)} (h : objs S 0 = some L) : ∀ x ∈ L, mayO x.2 = true ∧ ∀ f ∈ x.2.fields, f ∈ S :=
  objs_ind (P := fun S _ L => ∀ x ∈ L, mayO x.2 = true ∧ ∀ f ∈ x.2.fields, f ∈ S) (fun a x hx => by cases hx)
    (fun S a o L hS hr ih x hx => by
      rcases List.mem_cons.1 hx with rfl | hx
      · exact ⟨(readS_words hr).2.2, readS_fields hr⟩
      · exact ⟨(ih x hx).1, fun f hf => List.mem_of_mem_drop ((ih x hx).2 f hf)⟩) S.length (Nat.le_refl _) h
/-- what 'all' tells -/
def AllSaid (r : Option (List (Nat × Ob))) (first : Nat) (w : World) (e : Ending) (w' : World) : Prop := match r with
  | none => AllNo w e w'
  | some L => ∃ mb q c, e = .returned (.tuple #[.map (some mb), .slice q L.length c, .bool true]) ∧ MetAt w' mb w.heap.size first L ∧ w.heap.size ≤ mb ∧ OwnP w' w.heap.size 3 (.slice q L.length c) 1 (L.map (plC first)) ∧ Ext w w'
theorem all_yes {w : World} {p g bm n : Nat} {ws : List Int} {R : List (Nat × Nat)} (H : ArenaAt w p g bm n ws R) (ba : Int) (ha sp tp : Nat) (hw : (Lit.int .i64 ba).wf = true) (hW : ∀ x ∈ ws, W64 x) (ht : thereB R ⟨ba, ha, sp, tp⟩ = true) :
    Calls Tryz.prog 30 #[.agg #[.pointer (some ⟨p, 0, none⟩), .int .i64 ba, .int .i64 ha, .int .i64 sp, .int .i64 tp]] w (AllSaid (allS (firstN ⟨ba, ha, sp, tp⟩) (semi ws R ⟨ba, ha, sp, tp⟩)) (firstN ⟨ba, ha, sp, tp⟩) w) := by
  have hok := (thereB_ok ht).1
  have hfi := firstN_is hok
  have hsl := semi_len (h := ⟨ba, ha, sp, tp⟩) H.good H.len ht
  have hS64 : ∀ x ∈ semi ws R ⟨ba, ha, sp, tp⟩, W64 x := fun x hx => hW x (semi_mem hx)
  have HW := Lib.hid (fun (i : Nat) (x : Int) (hx : (semi ws R ⟨ba, ha, sp, tp⟩)[i]? = some x) W e => semi_word H ⟨ba, ha, sp, tp⟩ ht hw hx W e)
  dsimp only at HW
  have HT := Lib.hid (fun W (e : Ext w W) => there_is (H.ext e) ⟨ba, ha, sp, tp⟩ hw (wordsAt_len H.good H.len _) (Nat.le_trans (lenAt_le H.good _) H.least))
  rw [ht] at HT
  have hok' := hok
  obtain ⟨a1, a2, a3, a4, a5, a6⟩ := hok'
  dsimp only at a1 a2 a3 a4 a5 a6
  have hfe : sp * ha = firstN ⟨ba, ha, sp, tp⟩ := by have := hfi.1; dsimp only at this; exact_mod_cast this.symm
  have HF := Lib.hid (fun W => first_is (.pointer (some ⟨p, 0, none⟩)) ba ha sp tp (by omega) (by omega) W rfl)
  have HP := Lib.hid (fun W => top_is (.pointer (some ⟨p, 0, none⟩)) ba ha sp tp (by omega) (by omega) (by omega) W rfl)
  rw [hfe] at HF HP
  obtain ⟨hf1, hf2, hf3⟩ := hfi
  clear hf1 hf3
  generalize firstN ⟨ba, ha, sp, tp⟩ = first at *
  generalize semi ws R ⟨ba, ha, sp, tp⟩ = S at *
  have hst : S.length = tp := by rw [hsl]; simp
  obtain rfl := hst
  have ht2 : S.length ≤ 2000 := by omega
  have HS64 := Lib.hid hS64
  clear hS64 hsl hfe H hw hW ht hok a1 a2 a3 a4 a5 a6
  have hmm := @run_makeMap Tryz.prog
  go_enter Tryz.func30, Tryz.ntmps30
  go_wp2_with fail
  refine at_alloc1 fun W0 hE0 hS0 b0 => ?_
  refine (HT.out _ hE0).mono ?_
  rintro e w1 ⟨rfl, hx⟩
  have c0 := (Below.block hx w.heap.size (by omega)).trans b0
  have HX1 := Lib.hid (hE0.trans hx)
  have hl1 : w.heap.size < w1.heap.size := by have := Ext.size hx; omega
  clear hx hE0 hS0 b0
  obtain ⟨x0, x1, x2, x3, x4⟩ := cells5 c0
  go_wp2_with fail
  refine at_gen (fun W => IMap W w1.heap.size 0 (fun _ => none) ∧ Ext w1 W ∧ W.heap.size = w1.heap.size + 1) ⟨IMap.made w1, Ext.alloc _ _, by simp⟩ fun W2 hF => ?_
  obtain ⟨hm2, hE2, hS2⟩ := hF
  refine (HF.out _).mono ?_
  rintro e w2 ⟨rfl, hx⟩
  have c0 := (Below.block hE2 w.heap.size (by omega)).trans c0
  have c0 := (Below.block hx w.heap.size (by omega)).trans c0
  have hm3 := hm2.ext hx
  have HX2 := Lib.hid ((HX1.out.trans hE2).trans hx)
  have hl2 : w1.heap.size < w2.heap.size := by have := Ext.size hx; omega
  clear x0 x1 x2 x3 x4
  obtain ⟨x0, x1, x2, x3, x4⟩ := cells5 c0
  generalize w1.heap.size = mb at *
  clear hm2 hE2 hx hS2
  go_wp2_with fail
  have hmbw : w.heap.size ≤ mb := by omega
  have HMB := Lib.hid hmbw
  clear hmbw
  have hmet : MetAt w2 mb w.heap.size first [] := ⟨⟨0, _, Nat.le_refl _, hm3, (fun x hx => (by cases hx)), fun _ _ => rfl⟩⟩
  have hl0 := OwnP.nil w2 w.heap.size 3 1
  go_loopw [6, 7] (fun l a wr => ∃ (pp : Nat) (L : List (Nat × Ob)), pp ≤ S.length ∧ a = .int .i64 ((first + pp : Nat) : Int) ∧ Hid (objs S 0 = (objs (S.drop pp) pp).map (L ++ ·)) ∧ Hid (∀ x ∈ L, x.1 < pp) ∧ L.length ≤ pp ∧ MetAt wr mb w.heap.size first L ∧ OwnP wr w.heap.size 3 l 1 (L.map (plC first)) ∧ wr.heap[w.heap.size]? = some (.cells #[.pointer (some ⟨p, 0, none⟩), .int .i64 ba, .int .i64 ha, .int .i64 sp, .int .i64 S.length] 74 (0, 0)) ∧ Ext w wr) (fun _ a _ => first + S.length - (Go.RowKit.intOf a).toNat)
  case atStart => exact ⟨0, [], Nat.zero_le _, rfl, Lib.hid (by rw [List.drop_zero]; cases objs S 0 <;> rfl), Lib.hid (fun x hx => (by cases hx)), Nat.le_refl _, hmet, hl0, c0, HX2.out⟩
  case round =>
    obtain ⟨pp, L, hpp, rfl, HOB, HLT, hLl, hmet, hown, hb0, hx⟩ := hrel
    have HX := Lib.hid hx
    have HMET := Lib.hid hmet
    have HOW := Lib.hid hown
    have hwl : w.heap.size < wr.heap.size := (Array.getElem?_eq_some_iff.1 hb0).1
    clear hm3 c0 x0 x1 x2 x3 x4 hl0 HX2 HX1 hl1 hl2 hx hmet hown HT
    obtain ⟨x0, x1, x2, x3, x4⟩ := cells5 hb0
    go_wp2_with fail
    refine (HP.out _).mono ?_
    rintro e w3 ⟨rfl, hx3⟩
    have hb0 := (Below.block hx3 w.heap.size (by omega)).trans hb0
    have HX3 := Lib.hid (HX.out.trans hx3)
    have HMET3 := Lib.hid (HMET.out.ext hx3)
    have HOW3 := Lib.hid (HOW.out.ext hx3)
    clear hx3 x0 x1 x2 x3 x4
    obtain ⟨x0, x1, x2, x3, x4⟩ := cells5 hb0
    by_cases hlt : pp < S.length
    · have i1 : (first : Int) + (pp : Int) < (first : Int) + (S.length : Int) := by omega
      obtain ⟨hd, T, hdT⟩ : ∃ hd T, S.drop pp = hd :: T := by
        cases hd : S.drop pp with
        | nil => have := congrArg List.length hd; rw [List.length_drop] at this; simp at this; omega
        | cons a b => exact ⟨a, b, rfl⟩
      have hTl : T.length + 1 + pp = S.length := by have := congrArg List.length hdT; rw [List.length_drop, List.length_cons] at this; omega
      have hRD : ∀ W (a b : Int), Ext w W → a = (first : Int) + pp → b = (first : Int) + S.length → Calls Tryz.prog 58 #[.agg #[.pointer (some ⟨p, 0, none⟩), .int .i64 ba, .int .i64 ha, .int .i64 sp, .int .i64 S.length], .int .i64 a, .int .i64 b] W (ReadSaid (readS (hd :: T)) W) := by
        intro W a b e ea eb
        have := read_is (.pointer (some ⟨p, 0, none⟩)) ba ha sp S.length (first + pp) hd T (fun x hx => HS64.out x (List.mem_of_mem_drop (by rw [hdT]; exact hx))) W (fun i x hx W' e' => by
          rw [← hdT, List.getElem?_drop] at hx
          rw [Nat.add_assoc]
          exact HW.out _ x hx W' (e.trans e')) rfl (by omega) (by omega)
        rw [show ((first + pp : Nat) : Int) = a by omega, show ((first + pp + (T.length + 1) : Nat) : Int) = b by omega] at this
        exact this
      have HRD := Lib.hid hRD
      have HDT := Lib.hid hdT
      have hw3 : w.heap.size < w3.heap.size := (Array.getElem?_eq_some_iff.1 hb0).1
      have hS : ∀ w', Ext w3 w' → w'.cell? ⟨w.heap.size, 0, none⟩ = some (.pointer (some ⟨p, 0, none⟩)) ∧ w'.cell? ⟨w.heap.size, 1, none⟩ = some (.int .i64 ba) ∧ w'.cell? ⟨w.heap.size, 2, none⟩ = some (.int .i64 ha) ∧ w'.cell? ⟨w.heap.size, 3, none⟩ = some (.int .i64 sp) ∧ w'.cell? ⟨w.heap.size, 4, none⟩ = some (.int .i64 S.length) := fun w' e => cells5 ((Below.block e w.heap.size (by omega)).trans hb0)
      have HS := Lib.hid hS
      generalize hrr : readS (hd :: T) = RR at HRD
      have HRR := Lib.hid hrr
      clear hRD hS hrr hTl hdT
      go_upto_region 7 with fail
      go_cut [8, 9] from 24 to 31 (fun s8 s9 wx => ∃ (ob : Nat) (kd tg : Int) (q : Option Addr) (l c : Nat) (s : ByteArray) (n : Int), s8 = .pointer (some ⟨ob, 0, none⟩) ∧ s9 = .int .i64 n ∧ wx.heap[ob]? = some (.cells #[.int .i64 kd, .int .i64 tg, .slice q l c, .string s] 56 (0, 0)) ∧ Ext w3 wx ∧ RPost RR n wx w.heap.size (.agg #[.int .i64 kd, .int .i64 tg, .slice q l c, .string s]))
      case first =>
        --<<FIRST
        refine wp_region_noPanic ?_
        refine wp_region_last 10 (S := (fun w' => w'.cell? ⟨w.heap.size, 0, none⟩ = some (.pointer (some ⟨p, 0, none⟩)) ∧ w'.cell? ⟨w.heap.size, 1, none⟩ = some (.int .i64 ba) ∧ w'.cell? ⟨w.heap.size, 2, none⟩ = some (.int .i64 ha) ∧ w'.cell? ⟨w.heap.size, 3, none⟩ = some (.int .i64 sp) ∧ w'.cell? ⟨w.heap.size, 4, none⟩ = some (.int .i64 S.length))) (by kernel_rfl) (by kernel_rfl) _ rfl ?_ (fun hHeld => ?_)
        · (refine HS.out _ ?_; first | exact Ext.drew _ | exact eT | exact eD | exact eA | exact eS)
        simp only [List.take_succ_cons, List.take_zero]
        refine wpAnyH_take (i := 0) (v := ?v1) rfl (by kernel_rfl) (by kernel_rfl) (by kernel_rfl) (fun _ _ _ h => h) (Or.inl ⟨by rfl, ?y1⟩) (by assumption) ?r1
        case y1 => intro w hSw; (try dsimp only at hSw); go_simp; (try with_reducible rfl)
        (try simp only [Act.put, List.setIfInBounds_toArray, List.set_cons_zero, List.set_cons_succ, List.getElem_toArray, List.getElem_cons_zero, List.getElem_cons_succ])
        refine wpAnyH_take (i := 1) (v := ?v2) rfl (by kernel_rfl) (by kernel_rfl) (by kernel_rfl) (fun _ _ _ h => h) (Or.inl ⟨by rfl, ?y2⟩) (by assumption) ?r2
        case y2 => intro w hSw; (try dsimp only at hSw); go_simp; (try with_reducible rfl)
        (try simp only [Act.put, List.setIfInBounds_toArray, List.set_cons_zero, List.set_cons_succ, List.getElem_toArray, List.getElem_cons_zero, List.getElem_cons_succ])
        refine wpAnyH_take (i := 2) (v := ?v3) rfl (by kernel_rfl) (by kernel_rfl) (by kernel_rfl) (fun _ _ _ h => h) (Or.inl ⟨by rfl, ?y3⟩) (by assumption) ?r3
        case y3 => intro w hSw; (try dsimp only at hSw); go_simp; (try with_reducible rfl)
        (try simp only [Act.put, List.setIfInBounds_toArray, List.set_cons_zero, List.set_cons_succ, List.getElem_toArray, List.getElem_cons_zero, List.getElem_cons_succ])
        refine wpAnyH_ready (rs := [3, 8]) (by kernel_rfl) (by simp) ?_
        refine AllReadyH.cons rfl (fun K hK => ?_) (AllReadyH.cons rfl (fun K hK => ?_) (AllReadyH.nil))
        · skip
          go_simp
          refine (HP.out _).mono ?_
          rintro e wt ⟨rfl, hxt⟩
          have eT : Ext w3 wt := (Ext.drew _).trans hxt
          refine hK.out _ _ ?s4 (fun hHeld => ?k4)
          case s4 => ((try dsimp only); (refine HS.out _ ?_; first | exact Ext.drew _ | exact eT | exact eD | exact eA | exact eS))
          clear hK K
          (try simp only [Act.put, List.setIfInBounds_toArray, List.set_cons_zero, List.set_cons_succ, List.getElem_toArray, List.getElem_cons_zero, List.getElem_cons_succ])
          refine wpAnyH_ready (rs := [4, 8]) (by kernel_rfl) (by simp) ?_
          refine AllReadyH.cons rfl (fun K hK => ?_) (AllReadyH.cons rfl (fun K hK => ?_) (AllReadyH.nil))
          · skip
            go_simp
            refine (HRD.out wt _ _ (HX3.out.trans eT) rfl rfl).mono ?_
            intro e wd hrd
            obtain ⟨kd, tg, q, l, c, s, n, rfl, hxd, hrp⟩ := ReadSaid.open hrd
            have eD : Ext w3 wd := eT.trans hxd
            have HRP := Lib.hid (hrp.mono (B' := w.heap.size) (by have := Ext.size eT; omega))
            clear hrp hrd
            refine hK.out _ _ ?s5 (fun hHeld => ?k5)
            case s5 => ((try dsimp only); (refine HS.out _ ?_; first | exact Ext.drew _ | exact eT | exact eD | exact eA | exact eS))
            clear hK K
            (try simp only [Act.put, List.setIfInBounds_toArray, List.set_cons_zero, List.set_cons_succ, List.getElem_toArray, List.getElem_cons_zero, List.getElem_cons_succ])
            refine wpAnyH_take (i := 5) (v := ?v6) rfl (by kernel_rfl) (by kernel_rfl) (by kernel_rfl) (fun _ _ _ h => h) (Or.inl ⟨by rfl, ?y6⟩) (by assumption) ?r6
            case y6 => intro w hSw; (try dsimp only at hSw); go_simp; (try with_reducible rfl)
            (try simp only [Act.put, List.setIfInBounds_toArray, List.set_cons_zero, List.set_cons_succ, List.getElem_toArray, List.getElem_cons_zero, List.getElem_cons_succ])
            refine wpAnyH_take (i := 6) (v := ?v7) rfl (by kernel_rfl) (by kernel_rfl) (by kernel_rfl) (fun _ _ _ h => h) (Or.inl ⟨by rfl, ?y7⟩) (by assumption) ?r7
            case y7 => intro w hSw; (try dsimp only at hSw); go_simp; (try with_reducible rfl)
            (try simp only [Act.put, List.setIfInBounds_toArray, List.set_cons_zero, List.set_cons_succ, List.getElem_toArray, List.getElem_cons_zero, List.getElem_cons_succ])
            refine wpAnyH_take (i := 7) (v := ?v8) rfl (by kernel_rfl) (by kernel_rfl) (by kernel_rfl) (fun _ _ _ h => h) (Or.inl ⟨by rfl, ?y8⟩) (by assumption) ?r8
            case y8 => intro w hSw; (try dsimp only at hSw); go_simp; (try with_reducible rfl)
            (try simp only [Act.put, List.setIfInBounds_toArray, List.set_cons_zero, List.set_cons_succ, List.getElem_toArray, List.getElem_cons_zero, List.getElem_cons_succ])
            refine wpAnyH_ready (rs := [8]) (by kernel_rfl) (by simp) ?_
            refine AllReadyH.cons rfl (fun K hK => ?_) AllReadyH.nil
            have eA : Ext w3 (wd.alloc (.cells #[.int .i64 0, .int .i64 0, .slice none 0 0, .string ⟨#[]⟩] 56)) := eD.trans (Ext.alloc _ _)
            have hA : (wd.alloc (.cells #[.int .i64 0, .int .i64 0, .slice none 0 0, .string ⟨#[]⟩] 56)).heap[wd.heap.size]? = some (.cells #[.int .i64 0, .int .i64 0, .slice none 0 0, .string ⟨#[]⟩] 56) := heap_alloc_new _ _
            have hAs : w3.heap.size ≤ wd.heap.size := eD.size
            have HRPB := Lib.hid (HRP.out.stays (fun v o h => h.ext (Ext.alloc wd (.cells #[.int .i64 0, .int .i64 0, .slice none 0 0, .string ⟨#[]⟩] 56))))
            go_simp
            refine hK.out _ _ ?s9 (fun hHeld => ?k9)
            case s9 => ((try dsimp only); (refine HS.out _ ?_; first | exact Ext.drew _ | exact eT | exact eD | exact eA | exact eS))
            clear hK K
            (try simp only [Act.put, List.setIfInBounds_toArray, List.set_cons_zero, List.set_cons_succ, List.getElem_toArray, List.getElem_cons_zero, List.getElem_cons_succ])
            refine wpAnyH_ready (rs := [9]) (by kernel_rfl) (by simp) ?_
            refine AllReadyH.cons rfl (fun K hK => ?_) AllReadyH.nil
            go_simp
            have eS : Ext w3 (wd.alloc (.cells #[.int .i64 kd, .int .i64 tg, .slice q l c, .string s] 56)) := eD.trans (Ext.alloc _ _)
            have HFF := Lib.hid (heap_alloc_new wd (.cells #[.int .i64 kd, .int .i64 tg, .slice q l c, .string s] 56))
            have HRP2 := Lib.hid (HRP.out.stays (fun v o h => h.ext (Ext.alloc wd (.cells #[.int .i64 kd, .int .i64 tg, .slice q l c, .string s] 56))))
            refine hK.out _ _ ?s10 (fun hHeld => ?k10)
            case s10 => ((try dsimp only); (refine HS.out _ ?_; first | exact Ext.drew _ | exact eT | exact eD | exact eA | exact eS))
            clear hK K
            (try simp only [Act.put, List.setIfInBounds_toArray, List.set_cons_zero, List.set_cons_succ, List.getElem_toArray, List.getElem_cons_zero, List.getElem_cons_succ])
            refine wpAnyH_done (by kernel_rfl) ?_ _
            show wpList _ _ _ _ _ _
            go_wp2
            refine NoPanic.normal ?_
            go_wp2
            go_meet
            exact ⟨_, kd, tg, q, l, c, s, n, rfl, rfl, HFF.out, eS, HRP2.out⟩
          · skip
            have eA : Ext w3 (wt.alloc (.cells #[.int .i64 0, .int .i64 0, .slice none 0 0, .string ⟨#[]⟩] 56)) := eT.trans (Ext.alloc _ _)
            have hA : (wt.alloc (.cells #[.int .i64 0, .int .i64 0, .slice none 0 0, .string ⟨#[]⟩] 56)).heap[wt.heap.size]? = some (.cells #[.int .i64 0, .int .i64 0, .slice none 0 0, .string ⟨#[]⟩] 56) := heap_alloc_new _ _
            have hAs : w3.heap.size ≤ wt.heap.size := eT.size
            go_simp
            refine hK.out _ _ ?s11 (fun hHeld => ?k11)
            case s11 => ((try dsimp only); (refine HS.out _ ?_; first | exact Ext.drew _ | exact eT | exact eD | exact eA | exact eS))
            clear hK K
            (try simp only [Act.put, List.setIfInBounds_toArray, List.set_cons_zero, List.set_cons_succ, List.getElem_toArray, List.getElem_cons_zero, List.getElem_cons_succ])
            refine wpAnyH_ready (rs := [4]) (by kernel_rfl) (by simp) ?_
            refine AllReadyH.cons rfl (fun K hK => ?_) AllReadyH.nil
            go_simp
            refine (HRD.out (wt.alloc (.cells #[.int .i64 0, .int .i64 0, .slice none 0 0, .string ⟨#[]⟩] 56)) _ _ (HX3.out.trans eA) rfl rfl).mono ?_
            intro e wd hrd
            obtain ⟨kd, tg, q, l, c, s, n, rfl, hxd, hrp⟩ := ReadSaid.open hrd
            have eD : Ext w3 wd := eA.trans hxd
            have HRP := Lib.hid (hrp.mono (B' := w.heap.size) (by have := Ext.size eA; omega))
            have hA2 := (Below.block hxd wt.heap.size (by simp)).trans hA
            have HRPB := HRP
            clear hrp hrd
            refine hK.out _ _ ?s12 (fun hHeld => ?k12)
            case s12 => ((try dsimp only); (refine HS.out _ ?_; first | exact Ext.drew _ | exact eT | exact eD | exact eA | exact eS))
            clear hK K
            (try simp only [Act.put, List.setIfInBounds_toArray, List.set_cons_zero, List.set_cons_succ, List.getElem_toArray, List.getElem_cons_zero, List.getElem_cons_succ])
            refine wpAnyH_take (i := 5) (v := ?v13) rfl (by kernel_rfl) (by kernel_rfl) (by kernel_rfl) (fun _ _ _ h => h) (Or.inl ⟨by rfl, ?y13⟩) (by assumption) ?r13
            case y13 => intro w hSw; (try dsimp only at hSw); go_simp; (try with_reducible rfl)
            (try simp only [Act.put, List.setIfInBounds_toArray, List.set_cons_zero, List.set_cons_succ, List.getElem_toArray, List.getElem_cons_zero, List.getElem_cons_succ])
            refine wpAnyH_take (i := 6) (v := ?v14) rfl (by kernel_rfl) (by kernel_rfl) (by kernel_rfl) (fun _ _ _ h => h) (Or.inl ⟨by rfl, ?y14⟩) (by assumption) ?r14
            case y14 => intro w hSw; (try dsimp only at hSw); go_simp; (try with_reducible rfl)
            (try simp only [Act.put, List.setIfInBounds_toArray, List.set_cons_zero, List.set_cons_succ, List.getElem_toArray, List.getElem_cons_zero, List.getElem_cons_succ])
            refine wpAnyH_take (i := 7) (v := ?v15) rfl (by kernel_rfl) (by kernel_rfl) (by kernel_rfl) (fun _ _ _ h => h) (Or.inl ⟨by rfl, ?y15⟩) (by assumption) ?r15
            case y15 => intro w hSw; (try dsimp only at hSw); go_simp; (try with_reducible rfl)
            (try simp only [Act.put, List.setIfInBounds_toArray, List.set_cons_zero, List.set_cons_succ, List.getElem_toArray, List.getElem_cons_zero, List.getElem_cons_succ])
            refine wpAnyH_ready (rs := [9]) (by kernel_rfl) (by simp) ?_
            refine AllReadyH.cons rfl (fun K hK => ?_) AllReadyH.nil
            obtain ⟨z0, z1, z2, z3⟩ := cells4 hA2
            have g0 := free_at hA2 (i := 0)
            have g1 := free_at hA2 (i := 1)
            have g2 := free_at hA2 (i := 2)
            have g3 := free_at hA2 (i := 3)
            go_simp
            have hf := fill4 (w := wd) (b := wt.heap.size) hA2 (.int .i64 kd) (.int .i64 tg) (.slice q l c) (.string s)
            have eS : Ext w3 ((((wd.setCell ⟨wt.heap.size, 0, none⟩ (.int .i64 kd)).setCell ⟨wt.heap.size, 1, none⟩ (.int .i64 tg)).setCell ⟨wt.heap.size, 2, none⟩ (.slice q l c)).setCell ⟨wt.heap.size, 3, none⟩ (.string s)) := Turn.after eD hf.2.1 (by intro b hb; rw [List.mem_singleton.1 hb]; omega)
            have HRP2 := Lib.hid ((HRPB.out).stays (fun v o h => h.turn_at hA2 (by decide) hf.2.1))
            have HFF := Lib.hid hf.1
            clear hf z0 z1 z2 z3 g0 g1 g2 g3
            refine hK.out _ _ ?s16 (fun hHeld => ?k16)
            case s16 => ((try dsimp only); (refine HS.out _ ?_; first | exact Ext.drew _ | exact eT | exact eD | exact eA | exact eS))
            clear hK K
            (try simp only [Act.put, List.setIfInBounds_toArray, List.set_cons_zero, List.set_cons_succ, List.getElem_toArray, List.getElem_cons_zero, List.getElem_cons_succ])
            refine wpAnyH_done (by kernel_rfl) ?_ _
            show wpList _ _ _ _ _ _
            go_wp2
            refine NoPanic.normal ?_
            go_wp2
            go_meet
            exact ⟨_, kd, tg, q, l, c, s, n, rfl, rfl, HFF.out, eS, HRP2.out⟩
        · skip
          have eA : Ext w3 (w3.alloc (.cells #[.int .i64 0, .int .i64 0, .slice none 0 0, .string ⟨#[]⟩] 56)).drew := (Ext.alloc _ _).trans (Ext.drew _)
          have hA : (w3.alloc (.cells #[.int .i64 0, .int .i64 0, .slice none 0 0, .string ⟨#[]⟩] 56)).drew.heap[w3.heap.size]? = some (.cells #[.int .i64 0, .int .i64 0, .slice none 0 0, .string ⟨#[]⟩] 56) := heap_alloc_new _ _
          have hAs : w3.heap.size ≤ w3.heap.size := Nat.le_refl _
          go_simp
          refine hK.out _ _ ?s17 (fun hHeld => ?k17)
          case s17 => ((try dsimp only); (refine HS.out _ ?_; first | exact Ext.drew _ | exact eT | exact eD | exact eA | exact eS))
          clear hK K
          (try simp only [Act.put, List.setIfInBounds_toArray, List.set_cons_zero, List.set_cons_succ, List.getElem_toArray, List.getElem_cons_zero, List.getElem_cons_succ])
          refine wpAnyH_ready (rs := [3]) (by kernel_rfl) (by simp) ?_
          refine AllReadyH.cons rfl (fun K hK => ?_) AllReadyH.nil
          go_simp
          refine (HP.out _).mono ?_
          rintro e wt ⟨rfl, hxt⟩
          have eT : Ext w3 wt := eA.trans hxt
          have hA1 := (Below.block hxt w3.heap.size (by simp [World.drew])).trans hA
          refine hK.out _ _ ?s18 (fun hHeld => ?k18)
          case s18 => ((try dsimp only); (refine HS.out _ ?_; first | exact Ext.drew _ | exact eT | exact eD | exact eA | exact eS))
          clear hK K
          (try simp only [Act.put, List.setIfInBounds_toArray, List.set_cons_zero, List.set_cons_succ, List.getElem_toArray, List.getElem_cons_zero, List.getElem_cons_succ])
          refine wpAnyH_ready (rs := [4]) (by kernel_rfl) (by simp) ?_
          refine AllReadyH.cons rfl (fun K hK => ?_) AllReadyH.nil
          go_simp
          refine (HRD.out wt _ _ (HX3.out.trans eT) rfl rfl).mono ?_
          intro e wd hrd
          obtain ⟨kd, tg, q, l, c, s, n, rfl, hxd, hrp⟩ := ReadSaid.open hrd
          have eD : Ext w3 wd := eT.trans hxd
          have HRP := Lib.hid (hrp.mono (B' := w.heap.size) (by have := Ext.size eT; omega))
          have hA2 := (Below.block hxd w3.heap.size (by have := Ext.size eT; have := (Array.getElem?_eq_some_iff.1 hA1).1; omega)).trans hA1
          have HRPB := HRP
          clear hrp hrd
          refine hK.out _ _ ?s19 (fun hHeld => ?k19)
          case s19 => ((try dsimp only); (refine HS.out _ ?_; first | exact Ext.drew _ | exact eT | exact eD | exact eA | exact eS))
          clear hK K
          (try simp only [Act.put, List.setIfInBounds_toArray, List.set_cons_zero, List.set_cons_succ, List.getElem_toArray, List.getElem_cons_zero, List.getElem_cons_succ])
          refine wpAnyH_take (i := 5) (v := ?v20) rfl (by kernel_rfl) (by kernel_rfl) (by kernel_rfl) (fun _ _ _ h => h) (Or.inl ⟨by rfl, ?y20⟩) (by assumption) ?r20
          case y20 => intro w hSw; (try dsimp only at hSw); go_simp; (try with_reducible rfl)
          (try simp only [Act.put, List.setIfInBounds_toArray, List.set_cons_zero, List.set_cons_succ, List.getElem_toArray, List.getElem_cons_zero, List.getElem_cons_succ])
          refine wpAnyH_take (i := 6) (v := ?v21) rfl (by kernel_rfl) (by kernel_rfl) (by kernel_rfl) (fun _ _ _ h => h) (Or.inl ⟨by rfl, ?y21⟩) (by assumption) ?r21
          case y21 => intro w hSw; (try dsimp only at hSw); go_simp; (try with_reducible rfl)
          (try simp only [Act.put, List.setIfInBounds_toArray, List.set_cons_zero, List.set_cons_succ, List.getElem_toArray, List.getElem_cons_zero, List.getElem_cons_succ])
          refine wpAnyH_take (i := 7) (v := ?v22) rfl (by kernel_rfl) (by kernel_rfl) (by kernel_rfl) (fun _ _ _ h => h) (Or.inl ⟨by rfl, ?y22⟩) (by assumption) ?r22
          case y22 => intro w hSw; (try dsimp only at hSw); go_simp; (try with_reducible rfl)
          (try simp only [Act.put, List.setIfInBounds_toArray, List.set_cons_zero, List.set_cons_succ, List.getElem_toArray, List.getElem_cons_zero, List.getElem_cons_succ])
          refine wpAnyH_ready (rs := [9]) (by kernel_rfl) (by simp) ?_
          refine AllReadyH.cons rfl (fun K hK => ?_) AllReadyH.nil
          obtain ⟨z0, z1, z2, z3⟩ := cells4 hA2
          have g0 := free_at hA2 (i := 0)
          have g1 := free_at hA2 (i := 1)
          have g2 := free_at hA2 (i := 2)
          have g3 := free_at hA2 (i := 3)
          go_simp
          have hf := fill4 (w := wd) (b := w3.heap.size) hA2 (.int .i64 kd) (.int .i64 tg) (.slice q l c) (.string s)
          have eS : Ext w3 ((((wd.setCell ⟨w3.heap.size, 0, none⟩ (.int .i64 kd)).setCell ⟨w3.heap.size, 1, none⟩ (.int .i64 tg)).setCell ⟨w3.heap.size, 2, none⟩ (.slice q l c)).setCell ⟨w3.heap.size, 3, none⟩ (.string s)) := Turn.after eD hf.2.1 (by intro b hb; rw [List.mem_singleton.1 hb]; omega)
          have HRP2 := Lib.hid ((HRPB.out).stays (fun v o h => h.turn_at hA2 (by decide) hf.2.1))
          have HFF := Lib.hid hf.1
          clear hf z0 z1 z2 z3 g0 g1 g2 g3
          refine hK.out _ _ ?s23 (fun hHeld => ?k23)
          case s23 => ((try dsimp only); (refine HS.out _ ?_; first | exact Ext.drew _ | exact eT | exact eD | exact eA | exact eS))
          clear hK K
          (try simp only [Act.put, List.setIfInBounds_toArray, List.set_cons_zero, List.set_cons_succ, List.getElem_toArray, List.getElem_cons_zero, List.getElem_cons_succ])
          refine wpAnyH_done (by kernel_rfl) ?_ _
          show wpList _ _ _ _ _ _
          go_wp2
          refine NoPanic.normal ?_
          go_wp2
          go_meet
          exact ⟨_, kd, tg, q, l, c, s, n, rfl, rfl, HFF.out, eS, HRP2.out⟩
        -->>FIRST
      case rest =>
        obtain ⟨ob, kd, tg, q, l, c, s, n, rfl, rfl, hob, hxc, hrp⟩ := hcut
        have hbc := (Below.block hxc w.heap.size (by omega)).trans hb0
        have HXC := Lib.hid (HX3.out.trans hxc)
        have HMETC := Lib.hid (HMET3.out.ext hxc)
        have HOWC := Lib.hid (HOW3.out.ext hxc)
        have HRPC := Lib.hid hrp
        have hwc : w.heap.size < wc.heap.size := by have := Ext.size hxc; omega
        clear hxc hrp hb0 x0 x1 x2 x3 x4 HS HRD HX HMET HOW HX3 HMET3 HOW3
        have hoc := objs_cons (S := S.drop pp) (a := pp) (by rw [HDT.out]; simp)
        rw [HDT.out, HRR.out] at hoc
        cases RR with
        | none =>
          have hn : n = 0 := HRPC.out
          subst hn
          have hall : allS first S = none := by
            unfold allS
            rw [HOB.out, HDT.out, hoc]
            rfl
          have HALL := Lib.hid hall
          clear hoc hall
          go_wp2
          go_ret3
          rw [HALL.out]
          exact ⟨rfl, HXC.out⟩
        | some o =>
          obtain ⟨hn, hov⟩ := HRPC.out
          subst hn
          have HOV := Lib.hid hov
          obtain ⟨hw1, hw2, hmo⟩ := readS_words HRR.out
          rw [List.length_cons] at hw1
          have hTl : T.length + 1 + pp = S.length := by have := congrArg List.length HDT.out; rw [List.length_drop, List.length_cons] at this; omega
          dsimp only at hoc
          obtain ⟨wo, hwo⟩ : ∃ wo, wo = wordsO o := ⟨_, rfl⟩
          have HWO := Lib.hid hwo
          rw [← hwo] at hw1 hw2 hoc ⊢
          have i2 : ((wo : Int) == 0) = false := beq_false_of_ne (by omega)
          have HOC := Lib.hid hoc
          clear hoc hov hwo hmo
          obtain ⟨nm, fm, hnm, him, hfi, hfn⟩ := HMETC.out.map
          have hkw : (Lit.int .i64 ((first : Int) + (pp : Int))).wf = true := WalkArith.wf_i64 (by omega)
          obtain ⟨z0, z1, z2, z3⟩ := cells4 hob
          have HIM := Lib.hid him
          have HFI := Lib.hid hfi
          have HFN := Lib.hid hfn
          have HKW := Lib.hid hkw
          obtain ⟨ql, cl, hvl, _, _⟩ := HOWC.out.len
          clear him hfi hfn hkw
          rw [List.length_map] at hvl
          subst hvl
          go_upto_region 11 with (refine wpList_put_imap (by rfl) _ _ _ (by rfl) Tryz.underlying71 mb nm fm (by rfl) HIM.out (by unfold maxLen; omega) ((first : Int) + (pp : Int)) (.agg #[.int .i64 kd, .int .i64 tg, .slice q l c, .string s]) (by rfl) (by rfl) HKW.out ?_)
          intro w5 him5 hg5
          have hx5 := grown_block hg5 hbc (by intro e; obtain rfl := Option.some.inj e; obtain ⟨D, _, ⟨es, clock, h0, _⟩, _⟩ := HIM.out; rw [hbc] at h0; cases h0)
          have hmet5 := met_put hnm him5 HFI.out HFN.out HLT.out (HOV.out.put HIM.out hg5) (fun v o h => h.put HIM.out hg5)
          have HOW5 := Lib.hid (HOWC.out.grown hg5 (fun b hb2 e => by obtain rfl := Option.some.inj e; exact HOWC.out.not_map HIM.out hb2))
          have hmbw : w.heap.size ≤ mb := HMB.out
          have HX5 := Lib.hid (grown_ext HXC.out hg5 (by intro b e; obtain rfl := Option.some.inj e; exact hmbw) (by omega))
          have HMET5 := Lib.hid hmet5
          have hw5 : w.heap.size < w5.heap.size := (Array.getElem?_eq_some_iff.1 hx5).1
          clear hmet5 him5 hg5 hbc hob z0 z1 z2 z3 hwc hmbw
          obtain ⟨x0, x1, x2, x3, x4⟩ := cells5 hx5
          go_wp2_with (refine wpList_append_rows EInt (by rfl) _ _ (by rfl) w.heap.size (.slice ql L.length cl) (.slice (some ⟨w5.heap.size, 0, none⟩) 1 1) (L.map (plC first)) [[.int .i64 ((first : Int) + (pp : Int))]] (by rfl) (HOW5.out.ext (Ext.alloc _ _)) (by rfl) (rows_of_block (cs := #[.int .i64 ((first : Int) + (pp : Int))]) (heap_alloc_new _ _) rfl (by intro u hu; simp at hu; subst hu; rfl)) (by simp; unfold maxLen; omega) (by simp; omega) (by simp; omega) ?_)
          intro v6 w6 ho6 hg6 _ _
          have hA := Ext.alloc w5 (.cells #[.int .i64 ((first : Int) + (pp : Int))] 3)
          have howA := HOW5.out.ext hA
          have hx6 := grown_block hg6 ((Below.block hA w.heap.size hw5).trans hx5) (howA.not_at ((Below.block hA w.heap.size hw5).trans hx5) (by decide))
          have hmet6 : MetAt w6 mb w.heap.size first (L ++ [(pp, o)]) := HMET5.out.stays (by
            obtain ⟨n2, f2, _, h2, _⟩ := (HMET5.out.ext hA).map
            rw [hg6.block mb (by have := HMET5.out.lt; simp; omega) (fun e => howA.not_map h2 e.symm), Below.block hA mb HMET5.out.lt]) (fun v o h => (h.ext hA).own howA (by decide) hg6)
          have hx66 : Ext w w6 := grown_ext (Ext.trans (show Ext w w5 from HX5.out) hA) hg6 (fun b hb => (howA.own b hb).1) (by simp; omega)
          have hoc2 : objs S 0 = (objs (S.drop (pp + wo)) (pp + wo)).map ((L ++ [(pp, o)]) ++ ·) := by
            rw [HOB.out, HDT.out, HOC.out, ← HDT.out, List.drop_drop, Option.map_map]
            congr 1
            funext y
            simp
          have hlt2 : ∀ x ∈ L ++ [(pp, o)], x.1 < pp + wo := by
            intro x hx
            rcases List.mem_append.1 hx with hx | hx
            · have := HLT.out x hx; omega
            · rw [List.mem_singleton.1 hx]; dsimp only; omega
          have ho6' : OwnP w6 w.heap.size 3 v6 1 ((L ++ [(pp, o)]).map (plC first)) := by
            rw [List.map_append]
            exact ho6
          have HOC2 := Lib.hid hoc2; have HLT2 := Lib.hid hlt2; have HX6 := Lib.hid hx66; have HMET6 := Lib.hid hmet6; have HO6 := Lib.hid ho6'
          clear hoc2 hlt2 hx66 hmet6 ho6 ho6' hg6 howA hA x0 x1 x2 x3 x4
          go_wp2
          refine ⟨⟨pp + wo, L ++ [(pp, o)], by omega, ?_, HOC2.out, HLT2.out, by simp; omega, HMET6.out, HO6.out, hx6, HX6.out⟩, by simp [Go.RowKit.intOf]; omega⟩
          go_num
    · obtain rfl : pp = S.length := by omega
      have hobj : objs S 0 = some L := by rw [HOB.out, List.drop_length, objs_nil]; simp
      have HOBJ := Lib.hid hobj
      have i1 : ¬ (first : Int) + (S.length : Int) < (first : Int) + (S.length : Int) := by omega
      obtain ⟨ql, cl, hvl, hlc, hcm⟩ := HOW3.out.len
      rw [List.length_map] at hvl hlc
      subst hvl
      have hpw := objs_places hobj
      have hfm := objs_fields hobj
      have HPW := Lib.hid hpw; have HFM := Lib.hid hfm
      have hl2000 : L.length ≤ 2000 := by omega
      clear hobj hpw hfm HX HMET HOW HOB
      go_wp2_with fail
      go_loopw [46] (fun i wr => ∃ j : Nat, j ≤ L.length ∧ i = .int .i64 j ∧ Hid ((L.take j).all (fun x => x.2.fields.all (fieldOK (L.map (·.1)) first)) = true) ∧ Ext w3 wr) (fun i _ => L.length - (Go.RowKit.intOf i).toNat)
      case atStart => exact ⟨0, Nat.zero_le _, rfl, Lib.hid rfl, Ext.refl _⟩
      case round =>
        obtain ⟨j, hj, rfl, HAL, hxj⟩ := hrel
        have HXJ := Lib.hid hxj
        have HMETJ := Lib.hid (HMET3.out.ext hxj)
        have HOWJ := Lib.hid (HOW3.out.ext hxj)
        clear hxj x0 x1 x2 x3 x4
        by_cases hjl : j < L.length
        · obtain ⟨⟨a, o⟩, hxo⟩ : ∃ x, L[j]? = some x := ⟨_, List.getElem?_eq_getElem hjl⟩
          have hmem := List.mem_of_getElem? hxo
          obtain ⟨hmo, hfS⟩ := HFM.out _ hmem
          dsimp only at hmo hfS
          have hfl : o.fields.length ≤ 400 := by unfold mayO at hmo; exact (mayK_bounds hmo).2.2.2.2.1
          have huni : ∀ y ∈ L, y.1 = a → y = (a, o) := by
            intro y hy e
            obtain ⟨iy, hiy, rfl⟩ := List.getElem_of_mem hy
            obtain ⟨hj2, he2⟩ := List.getElem?_eq_some_iff.1 hxo
            rcases Nat.lt_trichotomy iy j with h | h | h
            · have := List.pairwise_iff_getElem.1 HPW.out iy j hiy hj2 h; rw [he2] at this; dsimp only at this; omega
            · subst h; exact he2
            · have := List.pairwise_iff_getElem.1 HPW.out j iy hj2 hiy h; rw [he2] at this; dsimp only at this; omega
          have hab : a ≤ 4000 := by
            have hb : ∀ x ∈ L, x.1 < S.length := HLT.out
            have := hb _ hmem; dsimp only at this; omega
          obtain ⟨v, hlk, hv1, _⟩ := HMETJ.out.look false (k := (first : Int) + (a : Int)) (WalkArith.wf_i64 (by omega))
          obtain ⟨q, c, rfl, hof⟩ := hv1 (a, o) hmem (by simp) huni
          obtain ⟨ob2, oo2, hqe, hcl2⟩ : ∃ b off, ql = some ⟨b, off, none⟩ ∧ wr.cell? ⟨b, off + j, none⟩ = some (.int .i64 ((first : Int) + (a : Int))) := by
            obtain ⟨q2, c2, hv2, _, _, hc2⟩ := HOWJ.out.p.at
            obtain ⟨b, off, e1, h2⟩ := hc2 j (plC first (a, o)) (by rw [List.getElem?_map, hxo]; rfl)
            obtain ⟨rfl, _, _⟩ := Value.slice.inj hv2
            refine ⟨b, off, e1, ?_⟩
            have := h2 0 _ rfl
            rw [Nat.mul_one, Nat.add_zero] at this
            rw [this]; rfl
          subst hqe
          have i2 : (j : Int) < (L.length : Int) := by omega
          have hfld : ∀ (W : World), (Instr.field 56 (.agg #[.int .i64 o.kind, .int .i64 o.tag, .slice q o.fields.length c, .string o.text]) 2).run Tryz.prog W = .ok (.slice q o.fields.length c) W := fun W => by kernel_rfl
          have HOF := Lib.hid hof
          have HXO := Lib.hid hxo
          have HFS := Lib.hid hfS
          clear hof hxo hfS hmo huni hv1
          simp only [Bool.false_eq_true, if_false] at hlk
          generalize wr = wo at *
          go_wp2_with fail
          clear hlk hcl2
          go_loopw [55] (fun i wr => ∃ t : Nat, t ≤ o.fields.length ∧ i = .int .i64 t ∧ Hid ((o.fields.take t).all (fieldOK (L.map (·.1)) first) = true) ∧ Ext wo wr) (fun i _ => o.fields.length - (Go.RowKit.intOf i).toNat)
          case atStart => exact ⟨0, Nat.zero_le _, rfl, Lib.hid rfl, Ext.refl _⟩
          case round =>
            obtain ⟨t, ht, rfl, HFA, hxt⟩ := hrel
            have HXT := Lib.hid hxt
            clear hxt
            by_cases htl : t < o.fields.length
            · obtain ⟨y, hy⟩ : ∃ y, o.fields[t]? = some y := ⟨_, List.getElem?_eq_getElem htl⟩
              have HY := Lib.hid hy
              have hPT := points_is (HMETJ.out.ext HXT.out) (HS64.out y (HFS.out y (List.mem_of_getElem? hy)))
              obtain ⟨g, hqe, _, hyc, _⟩ := (HOF.out.ext HXT.out).cell (i := t) (cs := wordC y) (by rw [List.getElem?_map, hy]; rfl) (f := 0) rfl
              subst hqe
              rw [Nat.mul_one, Nat.add_zero] at hyc
              generalize hff : fieldOK (L.map (·.1)) first y = ff at hPT
              have HFF := Lib.hid hff
              have HPT := Lib.hid hPT
              clear hff hPT hy
              have i3 : (t : Int) < (o.fields.length : Int) := by omega
              go_wp2_with fail
              refine HPT.out.mono ?_
              rintro e w7 ⟨rfl, hx7⟩
              have HX7 := Lib.hid (HXT.out.trans hx7)
              clear hx7
              cases ff
              · have hno : allS first S = none := by
                  unfold allS
                  rw [HOBJ.out]
                  dsimp only
                  refine if_neg fun h => ?_
                  unfold fieldsOK at h
                  have h1 := List.all_eq_true.1 h _ (List.mem_of_getElem? HXO.out)
                  have h2 := List.all_eq_true.1 h1 y (List.mem_of_getElem? HY.out)
                  rw [HFF.out] at h2
                  cases h2
                have HNO := Lib.hid hno
                clear hno
                go_wp2
                go_ret3
                rw [HNO.out]
                exact ⟨rfl, (HX3.out.trans HXJ.out).trans HX7.out⟩
              · have hst : (o.fields.take (t + 1)).all (fieldOK (L.map (·.1)) first) = true := by
                  obtain ⟨h1, h2⟩ := List.getElem?_eq_some_iff.1 HY.out
                  rw [List.take_succ_eq_append_getElem h1, List.all_append, HFA.out, h2]
                  simp [HFF.out]
                have HST := Lib.hid hst
                clear hst
                go_wp2
                exact ⟨⟨t + 1, by omega, by go_num, HST.out, HX7.out⟩, by simp [Go.RowKit.intOf]; omega⟩
            · obtain rfl : t = o.fields.length := by omega
              have hst : (L.take (j + 1)).all (fun x => x.2.fields.all (fieldOK (L.map (·.1)) first)) = true := by
                obtain ⟨h1, h2⟩ := List.getElem?_eq_some_iff.1 HXO.out
                have h3 := HFA.out
                rw [List.take_length] at h3
                rw [List.take_succ_eq_append_getElem h1, List.all_append, HAL.out, h2]
                simp only [List.all_cons, List.all_nil, h3, Bool.and_true]
              have HST := Lib.hid hst
              clear hst
              go_wp2
              exact ⟨⟨j + 1, by omega, by go_num, HST.out, HXJ.out.trans HXT.out⟩, by simp [Go.RowKit.intOf]; omega⟩
        · obtain rfl : j = L.length := by omega
          have hal := HAL.out
          rw [List.take_length] at hal
          have hall : allS first S = some L := by
            unfold allS
            rw [HOBJ.out]
            dsimp only
            exact if_pos hal
          have HALL := Lib.hid hall
          clear hal hall
          go_wp2
          go_ret3
          rw [HALL.out]
          exact ⟨mb, ql, cl, rfl, HMETJ.out, HMB.out, HOWJ.out, HX3.out.trans HXJ.out⟩
end Go.Proofs.YtppkgfcobnknfaaGreatDoor
/- A heap's functions (the program's): Good, All, find, Get. -/
namespace Go.Proofs.YtppkgfcobnknfaaGreatDoor
open Go.RowKit Go.Maps Arena
set_option maxHeartbeats 4000000
set_option maxRecDepth 100000
/-- all objects of a heap; none: the heap may not be -/
def allH (ws : List Int) (R : List (Nat × Nat)) (h : Hp) : Option (List (Nat × Ob)) := if thereB R h = true then allS (firstN h) (semi ws R h) else none
theorem allH_there {ws : List Int} {R : List (Nat × Nat)} {h : Hp} {L : List (Nat × Ob)} (ha : allH ws R h = some L) : thereB R h = true ∧ allS (firstN h) (semi ws R h) = some L := by
  unfold allH at ha
  split at ha
  · exact ⟨by assumption, ha⟩
  · cases ha
theorem allS_some {first : Nat} {S : List Int} {L : List (Nat × Ob)} (h : allS first S = some L) : objs S 0 = some L ∧ fieldsOK first L = true := by
  unfold allS at h
  cases ho : objs S 0 with
  | none => rw [ho] at h; cases h
  | some M =>
    rw [ho] at h
    simp only at h
    split at h
    · obtain rfl := Option.some.inj h
      exact ⟨rfl, by assumption⟩
    · cases h
theorem all_is {w : World} {p g bm n : Nat} {ws : List Int} {R : List (Nat × Nat)} (H : ArenaAt w p g bm n ws R) (h : Hp) (hw : (Lit.int .i64 h.base).wf = true) (hW : ∀ x ∈ ws, W64 x) :
    Calls Tryz.prog 30 #[.agg #[.pointer (some ⟨p, 0, none⟩), .int .i64 h.base, .int .i64 h.half, .int .i64 h.space, .int .i64 h.top]] w (AllSaid (allH ws R h) (firstN h) w) := by
  unfold allH
  cases ht : thereB R h with
  | false => exact all_no H h hw ht
  | true =>
    obtain ⟨ba, ha, sp, tp⟩ := h
    obtain ⟨a1, a2, a3, a4, a5, a6⟩ := (thereB_ok ht).1
    dsimp only at a1 a2 a3 a4 a5 a6
    obtain ⟨ha, rfl⟩ := Int.eq_ofNat_of_zero_le (show 0 ≤ ha by omega)
    obtain ⟨sp, rfl⟩ := Int.eq_ofNat_of_zero_le a3
    obtain ⟨tp, rfl⟩ := Int.eq_ofNat_of_zero_le a5
    rw [if_pos rfl]
    exact all_yes H ba ha sp tp hw hW ht
theorem AllSaid.open {r : Option (List (Nat × Ob))} {first : Nat} {w : World} {e : Ending} {w' : World} (h : AllSaid r first w e w') : ∃ (mv : Option Nat) (q : Option Addr) (l c : Nat), e = .returned (.tuple #[.map mv, .slice q l c, .bool r.isSome]) ∧ Ext w w' ∧
    ∀ L, r = some L → ∃ mb, mv = some mb ∧ l = L.length ∧ MetAt w' mb w.heap.size first L ∧ w.heap.size ≤ mb ∧ OwnP w' w.heap.size 3 (.slice q L.length c) 1 (L.map (plC first)) := by
  cases r with
  | none => exact ⟨none, none, 0, 0, h.1, h.2, fun L h => by cases h⟩
  | some L =>
    obtain ⟨mb, q, c, h1, h2, h3, h4, h5⟩ := h
    exact ⟨some mb, q, L.length, c, h1, h5, fun L' e => by obtain rfl := Option.some.inj e; exact ⟨mb, rfl, rfl, h2, h3, h4⟩⟩
theorem good_is {w : World} {p g bm n : Nat} {ws : List Int} {R : List (Nat × Nat)} (H : ArenaAt w p g bm n ws R) (h : Hp) (hw : (Lit.int .i64 h.base).wf = true) (hW : ∀ x ∈ ws, W64 x) :
    Calls Tryz.prog 8 #[.pointer (some ⟨p, 0, none⟩), .agg #[.int .i64 h.base, .int .i64 h.half, .int .i64 h.space, .int .i64 h.top]] w fun e w' => e = .returned (.bool (allH ws R h).isSome) ∧ Ext w w' := by
  have HA := Lib.hid (fun W (e : Ext w W) => all_is (H.ext e) h hw hW)
  generalize allH ws R h = r at HA ⊢
  generalize firstN h = first at HA
  clear H hw hW
  go_enter Tryz.func8, Tryz.ntmps8
  go_wp2_with fail
  refine (HA.out _ (Ext.alloc _ _)).mono ?_
  intro e w1 h1
  obtain ⟨mv, q, l, c, rfl, hx, _⟩ := h1.open
  have HX := Lib.hid ((Ext.alloc _ _).trans hx)
  clear hx h1
  go_wp2
  go_ret
  exact ⟨rfl, HX.out⟩
end Go.Proofs.YtppkgfcobnknfaaGreatDoor
/- A heap's functions (the program's): find, Get. -/
namespace Go.Proofs.YtppkgfcobnknfaaGreatDoor
open Go.RowKit Go.Maps Arena
set_option maxHeartbeats 4000000
set_option maxRecDepth 100000
/-- the object of a place's word -/
def getL (first : Nat) (L : List (Nat × Ob)) (x : Int) : Option (Nat × Ob) := if isIntW x = true ∨ 4294967296 ≤ x / 2 then none else L.find? fun y => decide (((first + y.1 : Nat) : Int) = x / 2)
def getH (ws : List Int) (R : List (Nat × Nat)) (h : Hp) (x : Int) : Option (Nat × Ob) := (allH ws R h).bind fun L => getL (firstN h) L x
theorem getL_some {first : Nat} {L : List (Nat × Ob)} {x : Int} {y : Nat × Ob} (h : getL first L x = some y) : y ∈ L ∧ ((first + y.1 : Nat) : Int) = x / 2 ∧ isIntW x = false ∧ x / 2 < 4294967296 := by
  unfold getL at h
  split at h
  · cases h
  · rename_i hn
    refine ⟨List.mem_of_find?_eq_some h, by simpa using List.find?_some h, ?_, by omega⟩
    cases hi : isIntW x with
    | false => rfl
    | true => exact absurd (.inl hi) hn
theorem places_inj {L : List (Nat × Ob)} (h : L.Pairwise (fun x y => x.1 < y.1)) {x y : Nat × Ob} (hx : x ∈ L) (hy : y ∈ L) (e : y.1 = x.1) : y = x := by
  obtain ⟨i, hi, rfl⟩ := List.getElem_of_mem hx
  obtain ⟨j, hj, rfl⟩ := List.getElem_of_mem hy
  rcases Nat.lt_trichotomy i j with h1 | h1 | h1
  · have := List.pairwise_iff_getElem.1 h i j hi hj h1; omega
  · subst h1; rfl
  · have := List.pairwise_iff_getElem.1 h j i hj hi h1; omega
theorem MetAt.mono {w : World} {mb B B' first : Nat} {L : List (Nat × Ob)} (h : MetAt w mb B first L) (hb : B' ≤ B) : MetAt w mb B' first L := by
  obtain ⟨n, f, h0, h1, h2, h3⟩ := h
  exact ⟨n, f, h0, h1, fun x hx => (h2 x hx).imp fun v hv => ⟨hv.1, hv.2.mono hb⟩, h3⟩
/-- what 'find' tells -/
def FindSaid (ws : List Int) (R : List (Nat × Nat)) (h : Hp) (x : Int) (w : World) (e : Ending) (w' : World) : Prop :=
  ∃ (kd tg : Int) (q : Option Addr) (l c : Nat) (s : ByteArray) (mv : Option Nat) (k : Int), e = .returned (.tuple #[.agg #[.int .i64 kd, .int .i64 tg, .slice q l c, .string s], .map mv, .int .i64 k, .bool (getH ws R h x).isSome]) ∧ Ext w w' ∧
    (getH ws R h x = none → (.agg #[.int .i64 kd, .int .i64 tg, .slice q l c, .string s] : Value) = zeroOV) ∧
    ∀ y, getH ws R h x = some y → ObV w' w.heap.size (.agg #[.int .i64 kd, .int .i64 tg, .slice q l c, .string s]) y.2 ∧ k = ((firstN h + y.1 : Nat) : Int) ∧ ∃ L mb, allH ws R h = some L ∧ mv = some mb ∧ MetAt w' mb w.heap.size (firstN h) L
theorem find_is {w : World} {p g bm n : Nat} {ws : List Int} {R : List (Nat × Nat)} (H : ArenaAt w p g bm n ws R) (h : Hp) (hw : (Lit.int .i64 h.base).wf = true) (hW : ∀ x ∈ ws, W64 x) {x : Int} (hx : W64 x) :
    Calls Tryz.prog 50 #[.agg #[.pointer (some ⟨p, 0, none⟩), .int .i64 h.base, .int .i64 h.half, .int .i64 h.space, .int .i64 h.top], .int .u64 x] w (FindSaid ws R h x w) := by
  have HA := Lib.hid (fun W (e : Ext w W) => all_is (H.ext e) h hw hW)
  have hpl : ∀ L, allH ws R h = some L → L.Pairwise (fun x y => x.1 < y.1) := fun L hL => objs_places (allS_some (allH_there hL).2).1
  unfold FindSaid getH
  generalize allH ws R h = r at HA hpl ⊢
  generalize firstN h = first at HA ⊢
  clear H hw hW
  have HT := Lib.hid (fun W => at_is hx W)
  cases r with
  | none =>
    clear HT hpl
    go_enter Tryz.func50, Tryz.ntmps50
    go_upto_region 1 with fail
    refine wp_alloc2 fun W hE hS b0 b1 => ?_
    obtain ⟨x0, x1, x2, x3, x4⟩ := cells5 b0
    go_wp2_with fail
    refine (HA.out W hE).mono ?_
    intro e w1 h1
    obtain ⟨rfl, hx1⟩ := h1
    have c1 := (Below.block hx1 (w.heap.size + 1) (by omega)).trans b1
    have HX := Lib.hid (hE.trans hx1)
    clear hx1 hE hS b0 b1 x0 x1 x2 x3 x4
    obtain ⟨y0, y1, y2, y3⟩ := cells4 c1
    have f0 := free_at c1 (i := 0)
    have f1 := free_at c1 (i := 1)
    have f2 := free_at c1 (i := 2)
    have f3 := free_at c1 (i := 3)
    go_wp2
    refine post_fill4 c1 fun W3 c1 hT hS3 => ?_
    obtain ⟨y0, y1, y2, y3⟩ := cells4 c1
    refine bodyPost_ret (v := .tuple #[zeroOV, .map none, .int .i64 0, .bool false]) (by simp [results, Tryz.results50, go_sem, y0, y1, y2, y3, zeroOV]; rfl) rfl ?_
    exact ⟨_, _, _, _, _, _, none, 0, rfl, Turn.after HX.out hT (by simp), fun _ => rfl, fun y hy => by cases hy⟩
  | some L =>
    have hpl := hpl L rfl
    have HPL := Lib.hid hpl
    clear hpl
    obtain ⟨gl, hgl⟩ : ∃ gl, gl = getL first L x := ⟨_, rfl⟩
    rw [show (some L).bind (fun L => getL first L x) = gl from hgl.symm]
    have HGL := Lib.hid hgl
    by_cases hc : isIntW x = true ∨ 4294967296 ≤ x / 2
    · rw [if_pos hc] at HT
      have hgn : gl = none := by rw [hgl]; unfold getL; rw [if_pos hc]
      subst hgn
      clear hc hgl HGL
      go_enter Tryz.func50, Tryz.ntmps50
      go_upto_region 1 with fail
      refine wp_alloc2 fun W hE hS b0 b1 => ?_
      obtain ⟨x0, x1, x2, x3, x4⟩ := cells5 b0
      go_wp2_with fail
      refine (HA.out W hE).mono ?_
      intro e w1 h1
      obtain ⟨mb, q, c, rfl, hm, hmb, ho, hx1⟩ := h1
      have c1 := (Below.block hx1 (w.heap.size + 1) (by omega)).trans b1
      have HX := Lib.hid (hE.trans hx1)
      clear hx1 hE hS b0 b1 x0 x1 x2 x3 x4 hm ho hmb
      obtain ⟨y0, y1, y2, y3⟩ := cells4 c1
      have f0 := free_at c1 (i := 0)
      have f1 := free_at c1 (i := 1)
      have f2 := free_at c1 (i := 2)
      have f3 := free_at c1 (i := 3)
      go_wp2_with fail
      refine (HT.out _).mono ?_
      rintro e w2 ⟨rfl, rfl⟩
      go_wp2
      refine post_fill4 c1 fun W3 c1 hT hS3 => ?_
      obtain ⟨y0, y1, y2, y3⟩ := cells4 c1
      refine bodyPost_ret (v := .tuple #[zeroOV, .map none, .int .i64 0, .bool false]) (by simp [results, Tryz.results50, go_sem, y0, y1, y2, y3, zeroOV]; rfl) rfl ?_
      exact ⟨_, _, _, _, _, _, none, 0, rfl, Turn.after HX.out hT (by simp), fun _ => rfl, fun y hy => by cases hy⟩
    · rw [if_neg hc] at HT
      obtain ⟨k, hk⟩ : ∃ k, k = x / 2 := ⟨_, rfl⟩
      have hwk : (Lit.int .i64 k).wf = true := by
        have := hx.1; have := hx.2
        exact WalkArith.wf_i64 (by omega)
      have hgl2 : gl = L.find? fun y => decide (((first + y.1 : Nat) : Int) = k) := by rw [hgl, hk]; exact if_neg hc
      rw [← hk] at HT
      have HG2 := Lib.hid hgl2
      clear hgl HGL hc hgl2 hk hx
      go_enter Tryz.func50, Tryz.ntmps50
      go_upto_region 1 with fail
      refine wp_alloc2 fun W hE hS b0 b1 => ?_
      obtain ⟨x0, x1, x2, x3, x4⟩ := cells5 b0
      go_wp2_with fail
      refine (HA.out W hE).mono ?_
      intro e w1 h1
      obtain ⟨mb, q, c, rfl, hm, hmb, ho, hx1⟩ := h1
      have c1 := (Below.block hx1 (w.heap.size + 1) (by omega)).trans b1
      have HX := Lib.hid (hE.trans hx1)
      obtain ⟨v, hl, h3, h4⟩ := hm.look true hwk
      have hwW : w.heap.size + 1 + 1 = W.heap.size := by omega
      have hsome : (L.any fun y => decide (((first + y.1 : Nat) : Int) = k)) = gl.isSome := by
        rw [HG2.out, Bool.eq_iff_iff, List.find?_isSome, List.any_eq_true]
      rw [hsome] at hl
      have hcl : ∃ kd tg q l c s, v = .agg #[.int .i64 kd, .int .i64 tg, .slice q l c, .string s] := by
        cases hgv : gl with
        | none =>
          rw [h4 (fun y hy e => by rw [HG2.out] at hgv; have := List.find?_eq_none.1 hgv y hy; simp at this; omega)]
          exact ⟨_, _, _, _, _, _, rfl⟩
        | some y =>
          rw [HG2.out] at hgv
          have hy := List.mem_of_find?_eq_some hgv
          obtain ⟨q, c, rfl, _⟩ := h3 y hy (by simpa using List.find?_some hgv) (fun z hz e => places_inj HPL.out hy hz e)
          exact ⟨_, _, _, _, _, _, rfl⟩
      obtain ⟨kd, tg, q3, l3, c3, s3, rfl⟩ := hcl
      have H3 := Lib.hid h3; have H4 := Lib.hid h4
      have HM := Lib.hid hm
      clear hx1 hE hS b0 b1 x0 x1 x2 x3 x4 hm ho hmb h3 h4 hsome hwk
      have HWW := Lib.hid hwW
      clear hwW
      obtain ⟨y0, y1, y2, y3⟩ := cells4 c1
      have f0 := free_at c1 (i := 0)
      have f1 := free_at c1 (i := 1)
      have f2 := free_at c1 (i := 2)
      have f3 := free_at c1 (i := 3)
      go_wp2_with fail
      refine (HT.out _).mono ?_
      rintro e w2 ⟨rfl, rfl⟩
      go_upto_region 8 with fail
      have C1 := Lib.hid c1
      refine wp_fill4 c1 fun W3 d1 hT hS3 => ?_
      have HT1 := Lib.hid hT
      have HX3 := Lib.hid (Turn.after HX.out hT (by simp))
      have hmb1 : IMap w1 mb 0 (fun _ => none) → True := fun _ => trivial
      have hmet3 : MetAt W3 mb w.heap.size first L := by
        obtain ⟨n4, f4, _, hm4, _⟩ := HM.out.map
        refine (HM.out.stays (hT.block mb HM.out.lt (fun e => ?_)) (fun v o ho => ho.turn_at C1.out (by decide) hT)).mono (by have := HWW.out; omega)
        obtain ⟨D, _, ⟨es, clock, h0, _⟩, _⟩ := hm4
        rw [List.mem_singleton.1 e] at h0
        rw [C1.out] at h0
        cases h0
      have HMET3 := Lib.hid hmet3
      have hov : ∀ y ∈ L, ((first + y.1 : Nat) : Int) = k → ObV W3 w.heap.size (.agg #[.int .i64 kd, .int .i64 tg, .slice q3 l3 c3, .string s3]) y.2 := fun y hy hyk =>
        ((H3.out y hy hyk (fun z hz e => places_inj HPL.out hy hz e)).turn_at C1.out (by decide) hT).mono (by have := HWW.out; omega)
      have HOV := Lib.hid hov
      clear hov hmet3 hmb1 hT y0 y1 y2 y3 f0 f1 f2 f3
      obtain ⟨y0, y1, y2, y3⟩ := cells4 d1
      have f0 := free_at d1 (i := 0)
      have f1 := free_at d1 (i := 1)
      have f2 := free_at d1 (i := 2)
      have f3 := free_at d1 (i := 3)
      go_wp2
      refine post_fill4 d1 fun W4 c4 hT4 hS4 => ?_
      obtain ⟨y0, y1, y2, y3⟩ := cells4 c4
      refine bodyPost_ret (v := .tuple #[.agg #[.int .i64 kd, .int .i64 tg, .slice q3 l3 c3, .string s3], .map (some mb), .int .i64 k, .bool gl.isSome]) (by simp [results, Tryz.results50, go_sem, y0, y1, y2, y3]) rfl ?_
      refine ⟨kd, tg, q3, l3, c3, s3, some mb, k, rfl, Turn.after HX3.out hT4 (by simp), fun hn => ?_, fun y hy => ?_⟩
      · refine H4.out fun y hy e => ?_
        rw [HG2.out] at hn
        have := List.find?_eq_none.1 hn y hy
        simp at this; omega
      · rw [HG2.out] at hy
        have hyL := List.mem_of_find?_eq_some hy
        have hyk : ((first + y.1 : Nat) : Int) = k := by simpa using List.find?_some hy
        refine ⟨(HOV.out y hyL hyk).turn_at d1 (by decide) hT4, hyk.symm, L, mb, rfl, rfl, ?_⟩
        obtain ⟨n4, f4, _, hm4, _⟩ := HMET3.out.map
        refine HMET3.out.stays (hT4.block mb HMET3.out.lt (fun e => ?_)) (fun v o ho => ho.turn_at d1 (by decide) hT4)
        obtain ⟨D, _, ⟨es, clock, h0, _⟩, _⟩ := hm4
        rw [List.mem_singleton.1 e, d1] at h0
        cases h0
end Go.Proofs.YtppkgfcobnknfaaGreatDoor
/- A heap's functions (the program's): Get, Set. -/
namespace Go.Proofs.YtppkgfcobnknfaaGreatDoor
open Go.RowKit Go.Maps Arena
set_option maxHeartbeats 4000000
set_option maxRecDepth 100000
theorem get_is {w : World} {p g bm n : Nat} {ws : List Int} {R : List (Nat × Nat)} (H : ArenaAt w p g bm n ws R) (h : Hp) (hw : (Lit.int .i64 h.base).wf = true) (hW : ∀ x ∈ ws, W64 x) {x : Int} (hx : W64 x) :
    Calls Tryz.prog 43 #[.pointer (some ⟨p, 0, none⟩), .agg #[.int .i64 h.base, .int .i64 h.half, .int .i64 h.space, .int .i64 h.top], .int .u64 x] w fun e w' =>
      ∃ v, e = .returned (.tuple #[v, .bool (getH ws R h x).isSome]) ∧ Ext w w' ∧ (getH ws R h x = none → v = zeroOV) ∧ ∀ y, getH ws R h x = some y → ObV w' w.heap.size v y.2 := by
  have HF := Lib.hid (fun W (e : Ext w W) => find_is (H.ext e) h hw hW hx)
  clear H hw hW hx
  go_enter Tryz.func43, Tryz.ntmps43
  go_upto_region 1 with fail
  refine wp_alloc2 fun W hE hS b0 b1 => ?_
  obtain ⟨x0, x1, x2, x3⟩ := cells4 b0
  go_wp2_with fail
  refine (HF.out W hE).mono ?_
  intro e w1 h1
  obtain ⟨kd, tg, q, l, c, s, mv, k, rfl, hx1, hno, hyes⟩ := h1
  have c1 := (Below.block hx1 (w.heap.size + 1) (by omega)).trans b1
  have HX := Lib.hid (hE.trans hx1)
  have HNO := Lib.hid hno; have HYES := Lib.hid hyes
  have hsz : w.heap.size ≤ W.heap.size := by omega
  generalize hbb : (getH ws R h x).isSome = bb
  have HBB := Lib.hid hbb
  clear hbb
  clear hx1 hE hS b0 b1 x0 x1 x2 x3 hno hyes
  go_upto_region 2 with fail
  refine wp_alloc1 fun W2 hE2 hS2 d2 => ?_
  have d1 := (Below.block hE2 (w.heap.size + 1) (Array.getElem?_eq_some_iff.1 c1).1).trans c1
  have HE2 := Lib.hid hE2
  clear hE2 hS2 c1
  obtain ⟨y0, y1, y2, y3⟩ := cells4 d1
  have f0 := free_at d1 (i := 0)
  have f1 := free_at d1 (i := 1)
  have f2 := free_at d1 (i := 2)
  have f3 := free_at d1 (i := 3)
  obtain ⟨z0, z1, z2, z3⟩ := cells4 d2
  go_wp2
  refine post_fill4 d1 fun W4 c4 hT4 hS4 => ?_
  obtain ⟨y0, y1, y2, y3⟩ := cells4 c4
  refine bodyPost_ret (v := .tuple #[.agg #[.int .i64 kd, .int .i64 tg, .slice q l c, .string s], .bool bb]) (by simp [results, Tryz.results43, go_sem, y0, y1, y2, y3]) rfl ?_
  refine ⟨_, by rw [HBB.out], Turn.after (HX.out.trans HE2.out) hT4 (by simp), HNO.out, fun y hy => ?_⟩
  exact (((HYES.out y hy).1.ext HE2.out).turn_at d1 (by decide) hT4).mono hsz
theorem objs_fit {S : List Int} {L : List (Nat × Ob)} (h : objs S 0 = some L) : ∀ x ∈ L, x.1 + wordsO x.2 ≤ S.length := by
  have := objs_ind (P := fun S a L => ∀ x ∈ L, x.1 + wordsO x.2 ≤ a + S.length) (fun a x hx => by cases hx)
    (fun S a o L hS hr ih x hx => by
      have hw := (readS_words hr).1
      rcases List.mem_cons.1 hx with rfl | hx
      · dsimp only; omega
      · have := ih x hx
        rw [List.length_drop] at this
        omega) S.length (Nat.le_refl _) h
  simpa using this
theorem fields_words {o : Ob} (h : mayO o = true) (hne : o.fields ≠ []) : wordsO o = 1 + o.fields.length := by
  unfold mayO at h
  unfold wordsO bodyK
  have : o.kind ≠ 2 := by
    intro e
    rcases mayK_cases h with ⟨h1, _⟩ | ⟨_, _, h2, _⟩ | ⟨h1, _⟩ | ⟨h1, _⟩
    · omega
    · exact hne (List.eq_nil_of_length_eq_zero h2)
    · omega
    · omega
  rw [if_neg this]
/-- where a field is set: its place in the region -/
def setAt (ws : List Int) (R : List (Nat × Nat)) (h : Hp) (x i v : Int) : Option Int := match allH ws R h with
  | none => none
  | some L => match getL (firstN h) L x with
    | none => none
    | some y => if 0 ≤ i ∧ i < y.2.fields.length ∧ fieldOK (L.map (·.1)) (firstN h) v = true then some ((firstN h : Int) + y.1 + 1 + i) else none
theorem setAt_within {n : Nat} {ws : List Int} {R : List (Nat × Nat)} {h : Hp} {x i v k : Int} (hg : Arena.Good n R) (hl : ws.length = n) (hs : setAt ws R h x i v = some k) : within R h.base k = true := by
  unfold setAt at hs
  cases ha : allH ws R h with
  | none => rw [ha] at hs; cases hs
  | some L =>
    rw [ha] at hs
    simp only at hs
    cases hy : getL (firstN h) L x with
    | none => rw [hy] at hs; cases hs
    | some y =>
      rw [hy] at hs
      simp only at hs
      split at hs
      · rename_i hc
        obtain ⟨h0, h1, _⟩ := hc
        obtain rfl := Option.some.inj hs
        obtain ⟨ht, hS⟩ := allH_there ha
        obtain ⟨ho, _⟩ := allS_some hS
        have hyL := (getL_some hy).1
        have hfit := objs_fit ho y hyL
        have hmay := (objs_fields ho y hyL).1
        have hne : y.2.fields ≠ [] := by intro e; rw [e] at h1; simp at h1; omega
        rw [fields_words hmay hne, semi_len hg hl ht] at hfit
        obtain ⟨hok, h2⟩ := thereB_ok ht
        have hf := firstN_is hok
        obtain ⟨_, _, _, _, a5, a6⟩ := hok
        unfold within
        rw [decide_eq_true]
        exact ⟨by omega, by omega⟩
      · cases hs
def wsOf (ws : List Int) (R : List (Nat × Nat)) (ba : Int) (k : Option Int) (v : Int) : List Int := match k with | none => ws | some k => setWs ws R ba k v
theorem oset_is {w : World} {p g bm n : Nat} {ws : List Int} {R : List (Nat × Nat)} (H : ArenaAt w p g bm n ws R) (h : Hp) (hw : (Lit.int .i64 h.base).wf = true) (hW : ∀ x ∈ ws, W64 x) {x v i : Int} (hx : W64 x) (hv : W64 v) (hi : (Lit.int .i64 i).wf = true) :
    Calls Tryz.prog 20 #[.pointer (some ⟨p, 0, none⟩), .agg #[.int .i64 h.base, .int .i64 h.half, .int .i64 h.space, .int .i64 h.top], .int .u64 x, .int .i64 i, .int .u64 v] w fun e w' =>
      e = .returned (.bool (setAt ws R h x i v).isSome) ∧ ArenaAt w' p g bm n (wsOf ws R h.base (setAt ws R h x i v) v) R ∧ Turn [g] w w' := by
  have HF := Lib.hid (fun W (e : Ext w W) => find_is (H.ext e) h hw hW hx)
  have hwi := fun k => setAt_within (x := x) (i := i) (v := v) (k := k) H.good H.len (h := h)
  have HWI := Lib.hid hwi
  have HH := Lib.hid H
  have HSA := Lib.hid (fun W (e : Ext w W) (k : Int) => setA_said (x := h.base) (a := k) (v := v) (H.ext e) hw)
  have HPT := Lib.hid (fun W mb B L (hm : MetAt W mb B (firstN h) L) => points_is hm hv)
  clear hwi H hw hW
  by_cases hg : getH ws R h x = none
  · have hsn : setAt ws R h x i v = none := by
      unfold setAt
      unfold getH at hg
      cases ha : allH ws R h with
      | none => rfl
      | some L => rw [ha] at hg; simp only [Option.bind_some] at hg; simp only; rw [hg]
    rw [hsn]
    have HG := Lib.hid hg
    clear hg hsn HPT HSA HWI
    go_enter Tryz.func20, Tryz.ntmps20
    go_wp2_with fail
    refine (HF.out _ (Ext.alloc _ _)).mono ?_
    intro e w1 h1
    obtain ⟨kd, tg, q, l, c, s, mv, k, rfl, hx1, hno, hyes⟩ := h1
    rw [HG.out]
    have HX := Lib.hid ((Ext.alloc _ _).trans hx1)
    clear hx1 hno hyes
    go_wp2
    go_ret
    exact ⟨rfl, HH.out.ext (HX.out.trans (Ext.alloc _ _)), Turn.of_ext (HX.out.trans (Ext.alloc _ _))⟩
  · obtain ⟨y, hy⟩ : ∃ y, getH ws R h x = some y := by cases e : getH ws R h x with | none => exact absurd e hg | some y => exact ⟨y, rfl⟩
    obtain ⟨L, ha, hgl⟩ : ∃ L, allH ws R h = some L ∧ getL (firstN h) L x = some y := by
      unfold getH at hy
      cases ha : allH ws R h with
      | none => rw [ha] at hy; cases hy
      | some L => rw [ha] at hy; exact ⟨L, rfl, hy⟩
    have hst : setAt ws R h x i v = if 0 ≤ i ∧ i < y.2.fields.length ∧ fieldOK (L.map (·.1)) (firstN h) v = true then some ((firstN h : Int) + y.1 + 1 + i) else none := by
      unfold setAt; rw [ha]; simp only; rw [hgl]
    have hbnd : firstN h ≤ 2000 ∧ y.1 ≤ 20000 ∧ y.2.fields.length ≤ 400 := by
      obtain ⟨ht, hS⟩ := allH_there ha
      obtain ⟨ho, _⟩ := allS_some hS
      have hyL := (getL_some hgl).1
      have hfit := objs_fit ho y hyL
      have hmay := (objs_fields ho y hyL).1
      unfold mayO at hmay
      have hok := (thereB_ok ht).1
      have hf := (firstN_is hok).2.1
      have : (semi ws R h).length ≤ h.top.toNat := by unfold semi; rw [List.length_take]; omega
      obtain ⟨_, _, _, _, a5, a6⟩ := hok
      have h400 := (mayK_bounds hmay).2.2.2.2.1
      exact ⟨hf, by omega, h400⟩
    obtain ⟨b1, b2, b3⟩ := hbnd
    have HG := Lib.hid hy; have HA := Lib.hid ha
    have hiw : -9223372036854775808 ≤ i ∧ i ≤ 9223372036854775807 := by
      have h3 : IntKind.i64.min ≤ i ∧ i ≤ IntKind.i64.max := by simpa [Lit.wf] using hi
      have e1 : IntKind.i64.min = -9223372036854775808 := by decide
      have e2 : IntKind.i64.max = 9223372036854775807 := by decide
      omega
    obtain ⟨hi1, hi2⟩ := hiw
    clear hy hgl ha hg
    by_cases h0 : 0 ≤ i
    · by_cases h1 : i < y.2.fields.length
      · have hpl := fun W mb B (hm : MetAt W mb B (firstN h) L) => HPT.out W mb B L hm
        have hwn := HWI.out
        rw [hst] at hwn
        generalize hff : fieldOK (L.map (·.1)) (firstN h) v = ff at hpl hst hwn
        have HPL := Lib.hid hpl
        have HFF := Lib.hid hff
        have HST := Lib.hid hst
        have HWN := Lib.hid hwn
        clear hpl hff hst hwn HPT HWI
        have d0 : decide (i < 0) = false := decide_eq_false (by omega)
        have d1 : decide ((y.2.fields.length : Int) ≤ i) = false := decide_eq_false (by omega)
        go_enter Tryz.func20, Tryz.ntmps20
        go_wp2_with fail
        refine at_alloc1 fun W0 hE0 hS0 b0 => ?_
        refine (HF.out W0 hE0).mono ?_
        intro e w1 h1
        obtain ⟨kd, tg, q, l, c, s, mv, k, rfl, hx1, hno, hyes⟩ := h1
        rw [HG.out]
        obtain ⟨⟨q', c', hvq, hof⟩, hk, L', mb, ha', hmv, hm⟩ := hyes y HG.out
        obtain rfl : L' = L := Option.some.inj (ha'.symm.trans HA.out)
        injection hvq with hvq
        simp only [Array.mk.injEq, List.cons.injEq, Value.int.injEq, Value.slice.injEq, Value.string.injEq, and_true, true_and] at hvq
        obtain ⟨h1, h2, ⟨h3, h4, h5⟩, h6⟩ := hvq
        subst h1 h2 h3 h4 h5 h6 hmv hk
        have b1 := (Below.block hx1 w.heap.size (by omega)).trans b0
        have HX := Lib.hid (hE0.trans hx1)
        have HM := Lib.hid hm
        obtain ⟨x0, x1, x2, x3⟩ := cells4 b1
        clear hx1 hno hyes hm hof ha' hE0 hS0 b0
        go_wp2_with fail
        refine at_alloc1 fun W2 hE2 hS2 b2 => ?_
        have z0 := (Below.block hE2 w.heap.size (Array.getElem?_eq_some_iff.1 b1).1).trans b1
        refine (HPL.out W2 mb _ (HM.out.ext hE2)).mono ?_
        rintro e w4 ⟨rfl, hx4⟩
        have z1 := (Below.block hx4 w.heap.size (Array.getElem?_eq_some_iff.1 z0).1).trans z0
        have HX4 := Lib.hid ((HX.out.trans hE2).trans hx4)
        clear hE2 hS2 b2 z0 hx4 x0 x1 x2 x3
        obtain ⟨x0, x1, x2, x3⟩ := cells4 z1
        cases ff
        · go_wp2
          go_ret
          rw [HST.out, if_neg (fun h => by cases h.2.2)]
          exact ⟨rfl, HH.out.ext HX4.out, Turn.of_ext HX4.out⟩
        · have hin := HWN.out _ (if_pos ⟨h0, h1, by simp⟩)
          have hsa := HSA.out w4 HX4.out ((firstN h : Int) + y.1 + 1 + i)
          rw [hin] at hsa
          have HSA2 := Lib.hid hsa
          clear hin hsa
          go_wp2_with fail
          refine HSA2.out.mono ?_
          rintro e w5 ⟨rfl, hA5, hT5⟩
          have HA5 := Lib.hid hA5
          have HT5 := Lib.hid ((Turn.of_ext HX4.out).trans hT5)
          clear hA5 hT5
          go_wp2
          go_ret
          rw [HST.out, if_pos ⟨h0, h1, by simp⟩]
          exact ⟨rfl, HA5.out, HT5.out⟩
      · rw [hst, if_neg (fun h => h1 h.2.1)]
        have d0 : decide (i < 0) = false := decide_eq_false (by omega)
        have d1 : decide ((y.2.fields.length : Int) ≤ i) = true := decide_eq_true (by omega)
        clear hst HSA HPT HWI
        go_enter Tryz.func20, Tryz.ntmps20
        go_wp2_with fail
        refine at_alloc1 fun W0 hE0 hS0 b0 => ?_
        refine (HF.out W0 hE0).mono ?_
        intro e w1 h1
        obtain ⟨kd, tg, q, l, c, s, mv, k, rfl, hx1, hno, hyes⟩ := h1
        rw [HG.out]
        obtain ⟨⟨q', c', hvq, hof⟩, hk, L', mb, ha', hmv, hm⟩ := hyes y HG.out
        obtain rfl : L' = L := Option.some.inj (ha'.symm.trans HA.out)
        injection hvq with hvq
        simp only [Array.mk.injEq, List.cons.injEq, Value.int.injEq, Value.slice.injEq, Value.string.injEq, and_true, true_and] at hvq
        obtain ⟨h1, h2, ⟨h3, h4, h5⟩, h6⟩ := hvq
        subst h1 h2 h3 h4 h5 h6 hmv hk
        have b1 := (Below.block hx1 w.heap.size (by omega)).trans b0
        have HX := Lib.hid (hE0.trans hx1)
        have HM := Lib.hid hm
        obtain ⟨x0, x1, x2, x3⟩ := cells4 b1
        clear hx1 hno hyes hm hof ha' hE0 hS0 b0
        go_wp2
        go_ret
        exact ⟨rfl, HH.out.ext (HX.out.trans (Ext.alloc _ _)), Turn.of_ext (HX.out.trans (Ext.alloc _ _))⟩
    · rw [hst, if_neg (fun h => h0 h.1)]
      have d0 : decide (i < 0) = true := decide_eq_true (by omega)
      clear hst HSA HPT HWI
      go_enter Tryz.func20, Tryz.ntmps20
      go_wp2_with fail
      refine at_alloc1 fun W0 hE0 hS0 b0 => ?_
      refine (HF.out W0 hE0).mono ?_
      intro e w1 h1
      obtain ⟨kd, tg, q, l, c, s, mv, k, rfl, hx1, hno, hyes⟩ := h1
      rw [HG.out]
      obtain ⟨⟨q', c', hvq, hof⟩, hk, L', mb, ha', hmv, hm⟩ := hyes y HG.out
      obtain rfl : L' = L := Option.some.inj (ha'.symm.trans HA.out)
      injection hvq with hvq
      simp only [Array.mk.injEq, List.cons.injEq, Value.int.injEq, Value.slice.injEq, Value.string.injEq, and_true, true_and] at hvq
      obtain ⟨h1, h2, ⟨h3, h4, h5⟩, h6⟩ := hvq
      subst h1 h2 h3 h4 h5 h6 hmv hk
      have b1 := (Below.block hx1 w.heap.size (by omega)).trans b0
      have HX := Lib.hid (hE0.trans hx1)
      have HM := Lib.hid hm
      obtain ⟨x0, x1, x2, x3⟩ := cells4 b1
      clear hx1 hno hyes hm hof ha' hE0 hS0 b0
      go_wp2
      go_ret
      exact ⟨rfl, HH.out.ext (HX.out.trans (Ext.alloc _ _)), Turn.of_ext (HX.out.trans (Ext.alloc _ _))⟩
end Go.Proofs.YtppkgfcobnknfaaGreatDoor
/- A heap's functions (the program's): Put. -/
namespace Go.Proofs.YtppkgfcobnknfaaGreatDoor
open Go.RowKit Go.Maps Arena
set_option maxHeartbeats 4000000
set_option maxRecDepth 100000
/-- words set one behind the other -/
def setRun (ws : List Int) (R : List (Nat × Nat)) (ba : Int) : Nat → List Int → List Int
  | _, [] => ws
  | k, v :: l => setRun (setWs ws R ba k v) R ba (k + 1) l
theorem setRun_snoc (R : List (Nat × Nat)) (ba : Int) (v : Int) : ∀ (l : List Int) (ws : List Int) (k : Nat), setRun ws R ba k (l ++ [v]) = setWs (setRun ws R ba k l) R ba ((k + l.length : Nat) : Int) v := by
  intro l
  induction l with
  | nil => intro ws k; rfl
  | cons x l ih =>
    intro ws k
    rw [List.cons_append, setRun, ih, setRun, List.length_cons]
    congr 1
    omega
theorem setWs_mem {ws : List Int} {R : List (Nat × Nat)} {ba k v x : Int} (h : x ∈ setWs ws R ba k v) : x ∈ ws ∨ x = v := by
  unfold setWs at h
  split at h
  · exact (List.mem_or_eq_of_mem_set h)
  · exact .inl h
theorem setRun_mem {R : List (Nat × Nat)} {ba : Int} {x : Int} : ∀ {l ws : List Int} {k : Nat}, x ∈ setRun ws R ba k l → x ∈ ws ∨ x ∈ l := by
  intro l
  induction l with
  | nil => intro ws k h; exact .inl h
  | cons v l ih =>
    intro ws k h
    rcases ih h with h | h
    · rcases setWs_mem h with h | rfl
      · exact .inl h
      · exact .inr (.head _)
    · exact .inr (.tail _ h)
theorem setWs_len (ws : List Int) (R : List (Nat × Nat)) (ba k v : Int) : (setWs ws R ba k v).length = ws.length := by
  unfold setWs; split <;> simp
theorem setRun_len (R : List (Nat × Nat)) (ba : Int) : ∀ (l ws : List Int) (k : Nat), (setRun ws R ba k l).length = ws.length := by
  intro l
  induction l with
  | nil => intro ws k; rfl
  | cons v l ih => intro ws k; rw [setRun, ih, setWs_len]
def putB (ws : List Int) (R : List (Nat × Nat)) (h : Hp) (o : Ob) : Bool := match allH ws R h with
  | none => false
  | some L => mayO o && decide (h.top + (wordsO o : Nat) ≤ h.half) && o.fields.all (fieldOK (L.map (·.1)) (firstN h))
def topN (h : Hp) : Nat := firstN h + h.top.toNat
/-- what a put makes of the arena's words -/
def putWs (ws : List Int) (R : List (Nat × Nat)) (h : Hp) (o : Ob) : List Int := setRun ws R h.base (topN h) (layO o)
def hpUp (h : Hp) (o : Ob) : Hp := ⟨h.base, h.half, h.space, h.top + (wordsO o : Nat)⟩
theorem body_row (kd tg : Int) (n c : Nat) (q : Option Addr) (s : ByteArray) (h2 : kd ≠ 2) (w : World) : Calls Tryz.prog 48 #[.agg #[.int .i64 kd, .int .i64 tg, .slice q n c, .string s]] w fun e w' => e = .returned (.slice q n c) ∧ Ext w w' := by
  have k2 : (kd == 2) = false := beq_false_of_ne h2
  go_enter Tryz.func48, Tryz.ntmps48
  go_wp2
  go_ret
  exact ⟨rfl, Ext.alloc _ _⟩
theorem body_text (tg : Int) (n c : Nat) (q : Option Addr) (s : ByteArray) (hs : s.size ≤ 400) (w : World) : Calls Tryz.prog 48 #[.agg #[.int .i64 2, .int .i64 tg, .slice q n c, .string s]] w fun e w' => ∃ v, e = .returned v ∧ OwnP w' w.heap.size 42 v 1 ((pieces s.data.toList).map wordC) ∧ Ext w w' := by
  have HP := Lib.hid (fun W => pieces_is s W hs)
  go_enter Tryz.func48, Tryz.ntmps48
  go_wp2_with fail
  refine at_alloc1 fun W hE hS b0 => ?_
  refine (HP.out _).mono ?_
  rintro e w1 ⟨v, rfl, ho, hx⟩
  have HO := Lib.hid (ho.mono (base' := w.heap.size) (by omega))
  have HX := Lib.hid (hE.trans hx)
  clear ho hx hE hS b0
  go_wp2
  go_ret
  exact ⟨v, rfl, HO.out, HX.out⟩
/-- a fields' slice that stays as it is while the words of an arena are set -/
def RowStay (w : World) (g : Nat) (v : Value) (l : List (List Value)) : Prop := ∀ W, Turn [g] w W → RowsP W v 1 l
theorem body_is (o : Ob) (hm : mayO o = true) (c : Nat) (q : Option Addr) {w : World} {g : Nat} (hgw : g < w.heap.size) (hF : RowStay w g (.slice q o.fields.length c) (o.fields.map wordC)) : Calls Tryz.prog 48 #[.agg #[.int .i64 o.kind, .int .i64 o.tag, .slice q o.fields.length c, .string o.text]] w fun e w' => ∃ q c, e = .returned (.slice q (bodyO o).length c) ∧ RowStay w' g (.slice q (bodyO o).length c) ((bodyO o).map wordC) ∧ Ext w w' := by
  by_cases h2 : o.kind = 2
  · have hb : bodyO o = pieces o.text.data.toList := if_pos h2
    rw [hb, h2]
    refine (body_text o.tag o.fields.length c q o.text ?_ w).mono ?_
    · unfold mayO at hm; exact (mayK_bounds hm).2.2.2.2.2.1
    · rintro e w' ⟨v, rfl, ho, hx⟩
      obtain ⟨q2, c2, hv, _, _⟩ := ho.len
      rw [List.length_map] at hv
      subst hv
      exact ⟨q2, c2, rfl, fun W t => (ho.turn t (fun b hb hm => by have := (ho.own b hb).1; rw [List.mem_singleton.1 hm] at this; omega)).p, hx⟩
  · have hb : bodyO o = o.fields := if_neg h2
    rw [hb]
    refine (body_row o.kind o.tag o.fields.length c q o.text h2 w).mono ?_
    rintro e w' ⟨rfl, hx⟩
    exact ⟨q, c, rfl, fun W t => hF W ((Turn.of_ext hx).trans t), hx⟩
theorem body_len {o : Ob} (_hm : mayO o = true) : 1 + (bodyO o).length = wordsO o := by
  unfold mayO at _hm
  unfold wordsO bodyO bodyK
  by_cases h2 : o.kind = 2
  · rw [if_pos h2, if_pos h2]
    unfold pieces
    rw [List.length_map, List.length_range, Array.length_toList]
    rfl
  · rw [if_neg h2, if_neg h2]
def PutSaid (ws : List Int) (R : List (Nat × Nat)) (p g bm n : Nat) (h : Hp) (o : Ob) (w : World) (e : Ending) (w' : World) : Prop :=
  e = .returned (.tuple #[if putB ws R h o then hpV (hpUp h o) else hpV ⟨0, 0, 0, 0⟩, .int .u64 (if putB ws R h o then ((2 * topN h : Nat) : Int) else 0), .bool (putB ws R h o)]) ∧ ArenaAt w' p g bm n (if putB ws R h o then putWs ws R h o else ws) R ∧ Turn [g] w w'
theorem put_no {ws : List Int} {R : List (Nat × Nat)} {p g bm n : Nat} {h : Hp} {o : Ob} {w : World} {e : Ending} {w' : World} (hb : putB ws R h o = false) (H : ArenaAt w p g bm n ws R) (he : e = .returned (.tuple #[hpV ⟨0, 0, 0, 0⟩, .int .u64 0, .bool false])) (hx : Ext w w') : PutSaid ws R p g bm n h o w e w' := by
  unfold PutSaid
  rw [hb]
  exact ⟨he, H.ext hx, Turn.of_ext hx⟩
theorem owords_is (o : Ob) (c : Nat) (q : Option Addr) (W : World) (h : o.fields.length ≤ 1000) : Calls Tryz.prog 44 #[.agg #[.int .i64 o.kind, .int .i64 o.tag, .slice q o.fields.length c, .string o.text]] W fun e w' => e = .returned (.int .i64 ((if mayO o = true then wordsO o else 0 : Nat) : Int)) ∧ Ext W w' := by
  by_cases hm : mayO o = true
  · rw [if_pos hm]
    exact owords_yes o.kind o.tag o.fields.length c q o.text W (by omega) hm
  · rw [if_neg hm]
    exact owords_no o.kind o.tag o.fields.length c q o.text W (by omega) (by cases e : mayO o with | true => exact absurd e hm | false => exact e)
theorem post_gen {P : Program} {f : Func} {Q : Ending → World → Prop} {x : Exit} {a : Act} {w : World} (F : World → Prop) (hF : F w) (h : ∀ W, F W → bodyPost P f Q x a W) : bodyPost P f Q x a w := h w hF
theorem Turn.sub {bs cs : List Nat} {w w' : World} (h : Turn bs w w') (hs : ∀ b ∈ bs, b ∈ cs ∨ w.heap.size ≤ b) : Turn cs w w' :=
  ⟨h.os, h.tape, h.output, h.size, fun i hi hb => h.block i hi fun hm => by rcases hs i hm with h1 | h1; exact hb h1; omega⟩
theorem top_h (p : Nat) (h : Hp) (hok : hpOK h) (w : World) : Calls Tryz.prog 46 #[.agg #[.pointer (some ⟨p, 0, none⟩), .int .i64 h.base, .int .i64 h.half, .int .i64 h.space, .int .i64 h.top]] w fun e w' => e = .returned (.int .i64 (topN h : Nat)) ∧ Ext w w' := by
  obtain ⟨ba, ha, sp, tp⟩ := h
  have hf := firstN_is hok
  obtain ⟨a1, a2, a3, a4, a5, a6⟩ := hok
  dsimp only at a1 a2 a3 a4 a5 a6 hf ⊢
  obtain ⟨ha, rfl⟩ := Int.eq_ofNat_of_zero_le (show 0 ≤ ha by omega)
  obtain ⟨sp, rfl⟩ := Int.eq_ofNat_of_zero_le a3
  obtain ⟨tp, rfl⟩ := Int.eq_ofNat_of_zero_le a5
  have := top_is (.pointer (some ⟨p, 0, none⟩)) ba ha sp tp (by omega) (by omega) (by omega) w rfl
  rw [show topN ⟨ba, ha, sp, tp⟩ = sp * ha + tp by unfold topN; have := hf.1; dsimp only; rw [show firstN ⟨ba, ha, sp, tp⟩ = sp * ha by exact_mod_cast this]; omega]
  exact this
theorem put_is {w : World} {p g bm n : Nat} {ws : List Int} {R : List (Nat × Nat)} (H : ArenaAt w p g bm n ws R) (h : Hp) (hw : (Lit.int .i64 h.base).wf = true) (hW : ∀ x ∈ ws, W64 x) (o : Ob) (c : Nat) (q : Option Addr) (hF : RowStay w g (.slice q o.fields.length c) (o.fields.map wordC)) (hF64 : ∀ x ∈ o.fields, W64 x) (hFn : o.fields.length ≤ 1000) :
    Calls Tryz.prog 19 #[.pointer (some ⟨p, 0, none⟩), .agg #[.int .i64 h.base, .int .i64 h.half, .int .i64 h.space, .int .i64 h.top], .agg #[.int .i64 o.kind, .int .i64 o.tag, .slice q o.fields.length c, .string o.text]] w (PutSaid ws R p g bm n h o w) := by
  have HA := Lib.hid (fun W (e : Ext w W) => all_is (H.ext e) h hw hW)
  have HH := Lib.hid H
  obtain ⟨lp, lg, lm⟩ := H.lt
  have HWd := Lib.hid (fun W => owords_is o c q W hFn)
  obtain ⟨nn, hnn⟩ : ∃ nn : Nat, nn = if mayO o = true then wordsO o else 0 := ⟨_, rfl⟩
  rw [← hnn] at HWd
  cases hall : allH ws R h with
  | none =>
    have hb : putB ws R h o = false := by unfold putB; rw [hall]
    rw [hall] at HA
    have HB := Lib.hid hb
    clear hb hnn hall H hw hW hF hF64 lp lg lm
    go_enter Tryz.func19, Tryz.ntmps19
    go_wp2_with fail
    refine at_alloc4 fun W hE hS b0 b1 b2 b3 => ?_
    refine (HA.out W hE).mono ?_
    intro e w1 h1
    obtain ⟨rfl, hx1⟩ := h1
    have c1 := (Below.block hx1 (w.heap.size + 1) (by omega)).trans b1
    have c2 := (Below.block hx1 (w.heap.size + 1 + 1) (by omega)).trans b2
    have HX := Lib.hid (hE.trans hx1)
    have hl1 : w.heap.size + 1 + 1 < w1.heap.size := (Array.getElem?_eq_some_iff.1 c2).1
    clear hx1 hE hS b0 b1 b2 b3
    obtain ⟨x0, x1, x2, x3⟩ := cells4 c1
    go_wp2_with fail
    refine (HWd.out _).mono ?_
    rintro e w2 ⟨rfl, hx2⟩
    have d2 := (Below.block hx2 (w.heap.size + 1 + 1) (by omega)).trans c2
    have HX2 := Lib.hid (HX.out.trans hx2)
    clear hx2 c1 c2 x0 x1 x2 x3
    obtain ⟨y0, y1, y2, y3⟩ := cells4 d2
    have f0 := free_at d2 (i := 0)
    have f1 := free_at d2 (i := 1)
    have f2 := free_at d2 (i := 2)
    have f3 := free_at d2 (i := 3)
    go_wp2
    refine post_fill4 d2 fun W4 c4 hT4 hS4 => ?_
    obtain ⟨y0, y1, y2, y3⟩ := cells4 c4
    refine bodyPost_ret (v := .tuple #[hpV ⟨0, 0, 0, 0⟩, .int .u64 0, .bool false]) (by simp [results, Tryz.results19, go_sem, y0, y1, y2, y3, hpV]) rfl ?_
    exact put_no HB.out HH.out rfl (Turn.after HX2.out hT4 (by intro b hb; rw [List.mem_singleton.1 hb]; omega))
  | some L =>
    rw [hall] at HA
    obtain ⟨hth, hS⟩ := allH_there hall
    obtain ⟨hobj, hfo⟩ := allS_some hS
    obtain ⟨hok, hlen2⟩ := thereB_ok hth
    have hfi := firstN_is hok
    obtain ⟨a1, a2, a3, a4, a5, a6⟩ := hok
    by_cases hn : nn = 0 ∨ h.half < h.top + nn
    · have hb : putB ws R h o = false := by
        unfold putB
        rw [hall]
        simp only
        by_cases hm : mayO o = true
        · rw [if_pos hm] at hnn
          rcases hn with hn | hn
          · have : 1 ≤ wordsO o := by unfold wordsO; omega
            omega
          · rw [decide_eq_false (by omega)]; simp
        · simp [hm]
      have HB := Lib.hid hb
      by_cases hn0 : nn = 0
      · subst hn0
        clear hb hnn hall H hw hW hF hF64 lp lg lm hn hfo hobj hS hth hfi hlen2
        go_enter Tryz.func19, Tryz.ntmps19
        go_wp2_with fail
        refine at_alloc4 fun W hE hS b0 b1 b2 b3 => ?_
        refine (HA.out W hE).mono ?_
        intro e w1 h1
        obtain ⟨mb, ql, cl, rfl, -, -, -, hx1⟩ := h1
        have c1 := (Below.block hx1 (w.heap.size + 1) (by omega)).trans b1
        have c2 := (Below.block hx1 (w.heap.size + 1 + 1) (by omega)).trans b2
        have HX := Lib.hid (hE.trans hx1)
        have hl1 : w.heap.size + 1 + 1 < w1.heap.size := (Array.getElem?_eq_some_iff.1 c2).1
        clear hx1 hE hS b0 b1 b2 b3
        obtain ⟨x0, x1, x2, x3⟩ := cells4 c1
        go_wp2_with fail
        refine (HWd.out _).mono ?_
        rintro e w2 ⟨rfl, hx2⟩
        have d2 := (Below.block hx2 (w.heap.size + 1 + 1) (by omega)).trans c2
        have HX2 := Lib.hid (HX.out.trans hx2)
        clear hx2 c1 c2 x0 x1 x2 x3
        obtain ⟨y0, y1, y2, y3⟩ := cells4 d2
        have f0 := free_at d2 (i := 0)
        have f1 := free_at d2 (i := 1)
        have f2 := free_at d2 (i := 2)
        have f3 := free_at d2 (i := 3)
        go_wp2
        refine post_fill4 d2 fun W4 c4 hT4 hS4 => ?_
        obtain ⟨y0, y1, y2, y3⟩ := cells4 c4
        refine bodyPost_ret (v := .tuple #[hpV ⟨0, 0, 0, 0⟩, .int .u64 0, .bool false]) (by simp [results, Tryz.results19, go_sem, y0, y1, y2, y3, hpV]) rfl ?_
        exact put_no HB.out HH.out rfl (Turn.after HX2.out hT4 (by intro b hb; rw [List.mem_singleton.1 hb]; omega))
      · have i1 : ((nn : Int) == 0) = false := beq_false_of_ne (by omega)
        have i2 : decide (h.half - h.top < (nn : Int)) = true := decide_eq_true (by omega)
        have i3 : (nn : Int) ≤ 1000 := by
          have : nn ≤ 1000 := by
            rw [hnn]
            split
            · rename_i hm; unfold wordsO; unfold mayO at hm; have := (mayK_bounds hm).2.2.2.2.2.2.2; omega
            · omega
          omega
        clear hb hnn hall H hw hW hF hF64 lp lg lm hn hn0 hfo hobj hS hth hfi hlen2
        go_enter Tryz.func19, Tryz.ntmps19
        go_wp2_with fail
        refine at_alloc4 fun W hE hS b0 b1 b2 b3 => ?_
        refine (HA.out W hE).mono ?_
        intro e w1 h1
        obtain ⟨mb, ql, cl, rfl, -, -, -, hx1⟩ := h1
        have c0 := (Below.block hx1 w.heap.size (by omega)).trans b0
        have c1 := (Below.block hx1 (w.heap.size + 1) (by omega)).trans b1
        have c2 := (Below.block hx1 (w.heap.size + 1 + 1) (by omega)).trans b2
        have HX := Lib.hid (hE.trans hx1)
        have hl1 : w.heap.size + 1 + 1 < w1.heap.size := (Array.getElem?_eq_some_iff.1 c2).1
        clear hx1 hE hS b0 b1 b2 b3
        obtain ⟨x0, x1, x2, x3⟩ := cells4 c1
        go_wp2_with fail
        refine (HWd.out _).mono ?_
        rintro e w2 ⟨rfl, hx2⟩
        have d2 := (Below.block hx2 (w.heap.size + 1 + 1) (by omega)).trans c2
        have d0 := (Below.block hx2 w.heap.size (by omega)).trans c0
        have HX2 := Lib.hid (HX.out.trans hx2)
        clear hx2 c0 c1 c2 x0 x1 x2 x3
        obtain ⟨v0, v1, v2, v3⟩ := cells4 d0
        obtain ⟨y0, y1, y2, y3⟩ := cells4 d2
        have f0 := free_at d2 (i := 0)
        have f1 := free_at d2 (i := 1)
        have f2 := free_at d2 (i := 2)
        have f3 := free_at d2 (i := 3)
        go_wp2
        refine post_fill4 d2 fun W4 c4 hT4 hS4 => ?_
        obtain ⟨y0, y1, y2, y3⟩ := cells4 c4
        refine bodyPost_ret (v := .tuple #[hpV ⟨0, 0, 0, 0⟩, .int .u64 0, .bool false]) (by simp [results, Tryz.results19, go_sem, y0, y1, y2, y3, hpV]) rfl ?_
        exact put_no HB.out HH.out rfl (Turn.after HX2.out hT4 (by intro b hb; rw [List.mem_singleton.1 hb]; omega))
    · have hn0 : nn ≠ 0 := fun e => hn (.inl e)
      have hnh : ¬ h.half < h.top + nn := fun e => hn (.inr e)
      have hmo : mayO o = true := by
        cases e : mayO o with
        | true => rfl
        | false => rw [hnn, e] at hn0; simp at hn0
      rw [hmo, if_pos rfl] at hnn
      have i1 : ((nn : Int) == 0) = false := beq_false_of_ne (by omega)
      have i2 : decide (h.half - h.top < (nn : Int)) = false := decide_eq_false (by omega)
      have i3 : (nn : Int) ≤ 1000 := by
        have : nn ≤ 1000 := by rw [hnn]; unfold wordsO; unfold mayO at hmo; have := (mayK_bounds hmo).2.2.2.2.2.2.2; omega
        omega
      have hpb : putB ws R h o = o.fields.all (fieldOK (L.map (·.1)) (firstN h)) := by
        unfold putB
        rw [hall]
        simp only
        rw [hmo, decide_eq_true (by omega)]
        simp
      have HPB := Lib.hid hpb
      have HTOP := Lib.hid (fun W => top_h p h (thereB_ok hth).1 W)
      have HHD := Lib.hid (fun W => head_yes o.kind o.tag o.fields.length c q o.text W (by omega) hmo)
      have HSET := Lib.hid (fun W ws k v (H : ArenaAt W p g bm n ws R) => setA_said (x := h.base) (a := k) (v := v) H hw)
      have HBODY := Lib.hid (fun W (hg : g < W.heap.size) (hF : RowStay W g (.slice q o.fields.length c) (o.fields.map wordC)) => body_is o hmo c q hg hF)
      have HBL := Lib.hid (body_len hmo)
      have htn : topN h ≤ 4000 ∧ 0 ≤ h.top ∧ h.top ≤ 2000 ∧ 8 ≤ h.half ∧ h.half ≤ 2000 := by
        unfold topN; omega
      obtain ⟨t1, t2, t3, t4, t5⟩ := htn
      have HF := Lib.hid hF; have HF64 := Lib.hid hF64; have HNN := Lib.hid hnn
      clear hpb hn hn0 hnh hnn hmo hall H hw hW hF hF64 lp lm hfo hobj hS hth hfi hlen2 a1 a2 a3 a4 a5 a6
      go_enter Tryz.func19, Tryz.ntmps19
      go_wp2_with fail
      refine at_alloc4 fun W hE hS b0 b1 b2 b3 => ?_
      refine (HA.out W hE).mono ?_
      intro e w1 h1
      obtain ⟨mb, ql, cl, rfl, hmet, -, -, hx1⟩ := h1
      have c0 := (Below.block hx1 w.heap.size (by omega)).trans b0
      have c1 := (Below.block hx1 (w.heap.size + 1) (by omega)).trans b1
      have c2 := (Below.block hx1 (w.heap.size + 1 + 1) (by omega)).trans b2
      have c3 := (Below.block hx1 (w.heap.size + 1 + 1 + 1) (by omega)).trans b3
      have HX := Lib.hid (hE.trans hx1)
      have hl1 : w.heap.size + 1 + 1 + 1 < w1.heap.size := (Array.getElem?_eq_some_iff.1 c3).1
      have HM1 := Lib.hid hmet
      generalize W.heap.size = BW at HM1
      clear hx1 hE hS b0 b1 b2 b3 hmet
      obtain ⟨x0, x1, x2, x3⟩ := cells4 c1
      go_wp2_with fail
      refine (HWd.out _).mono ?_
      rintro e w2 ⟨rfl, hx2⟩
      have d0 := (Below.block hx2 w.heap.size (by omega)).trans c0
      have d1 := (Below.block hx2 (w.heap.size + 1) (by omega)).trans c1
      have d2 := (Below.block hx2 (w.heap.size + 1 + 1) (by omega)).trans c2
      have d3 := (Below.block hx2 (w.heap.size + 1 + 1 + 1) (by omega)).trans c3
      have HX2 := Lib.hid (HX.out.trans hx2)
      have HM2 := Lib.hid (HM1.out.ext hx2)
      have hl2 : w.heap.size + 1 + 1 + 1 < w2.heap.size := (Array.getElem?_eq_some_iff.1 d3).1
      clear hx2 c0 c1 c2 c3 x0 x1 x2 x3 hl1
      obtain ⟨x0, x1, x2, x3⟩ := cells4 d1
      obtain ⟨v0, v1, v2, v3⟩ := cells4 d0
      go_wp2_with fail
      go_loopw [51] (fun i wr => ∃ t : Nat, t ≤ o.fields.length ∧ i = .int .i64 t ∧ Hid ((o.fields.take t).all (fieldOK (L.map (·.1)) (firstN h)) = true) ∧ Ext w2 wr) (fun i _ => o.fields.length - (Go.RowKit.intOf i).toNat)
      case atStart => exact ⟨0, Nat.zero_le _, rfl, Lib.hid rfl, Ext.refl _⟩
      case round =>
        obtain ⟨t, ht, rfl, HFA, hxt⟩ := hrel
        have HXT := Lib.hid hxt
        have e0 := (Below.block hxt w.heap.size (by omega)).trans d0
        have e1 := (Below.block hxt (w.heap.size + 1) (by omega)).trans d1
        have e2 := (Below.block hxt (w.heap.size + 1 + 1) (by omega)).trans d2
        have e3 := (Below.block hxt (w.heap.size + 1 + 1 + 1) (by omega)).trans d3
        have hlr : w.heap.size + 1 + 1 + 1 < wr.heap.size := (Array.getElem?_eq_some_iff.1 e3).1
        clear hxt d0 d1 d2 d3 x0 x1 x2 x3 v0 v1 v2 v3
        by_cases htl : t < o.fields.length
        · obtain ⟨y, hy⟩ : ∃ y, o.fields[t]? = some y := ⟨_, List.getElem?_eq_getElem htl⟩
          have HY := Lib.hid hy
          have hPT := points_is (HM2.out.ext HXT.out) (HF64.out y (List.mem_of_getElem? hy))
          obtain ⟨q2, c2, hv2, _, _, hcell⟩ := (HF.out wr (Turn.of_ext (HX2.out.trans HXT.out))).at
          obtain ⟨fb, fo, hqe, hyc⟩ := hcell t (wordC y) (by rw [List.getElem?_map, hy]; rfl)
          obtain ⟨rfl, -, rfl⟩ := Value.slice.inj hv2
          subst hqe
          have hyc0 := hyc 0 _ rfl
          rw [Nat.mul_one, Nat.add_zero] at hyc0
          generalize hff : fieldOK (L.map (·.1)) (firstN h) y = ff at hPT
          have HFF := Lib.hid hff
          have HPT := Lib.hid hPT
          clear hff hPT hy hv2 hcell hyc
          have j3 : (t : Int) < (o.fields.length : Int) := by omega
          go_wp2_with fail
          refine HPT.out.mono ?_
          rintro e w7 ⟨rfl, hx7⟩
          have HX7 := Lib.hid (HXT.out.trans hx7)
          have d2 := (Below.block hx7 (w.heap.size + 1 + 1) (by omega)).trans e2
          clear hx7 e0 e1 e2 e3
          cases ff
          · have hno : putB ws R h o = false := by
              rw [HPB.out]
              refine Bool.eq_false_iff.2 fun h2 => ?_
              have h3 := List.all_eq_true.1 h2 y (List.mem_of_getElem? HY.out)
              rw [HFF.out] at h3
              cases h3
            have HNO := Lib.hid hno
            clear hno
            obtain ⟨y0, y1, y2, y3⟩ := cells4 d2
            have f0 := free_at d2 (i := 0)
            have f1 := free_at d2 (i := 1)
            have f2 := free_at d2 (i := 2)
            have f3 := free_at d2 (i := 3)
            go_wp2
            refine post_fill4 d2 fun W4 c4 hT4 hS4 => ?_
            obtain ⟨y0, y1, y2, y3⟩ := cells4 c4
            refine bodyPost_ret (v := .tuple #[hpV ⟨0, 0, 0, 0⟩, .int .u64 0, .bool false]) (by simp [results, Tryz.results19, go_sem, y0, y1, y2, y3, hpV]) rfl ?_
            exact put_no HNO.out HH.out rfl (Turn.after (HX2.out.trans HX7.out) hT4 (by intro b hb; rw [List.mem_singleton.1 hb]; omega))
          · have hst : (o.fields.take (t + 1)).all (fieldOK (L.map (·.1)) (firstN h)) = true := by
              obtain ⟨h1, h2⟩ := List.getElem?_eq_some_iff.1 HY.out
              rw [List.take_succ_eq_append_getElem h1, List.all_append, HFA.out, h2]
              simp [HFF.out]
            have HST := Lib.hid hst
            clear hst
            go_wp2
            exact ⟨⟨t + 1, by omega, by go_num, HST.out, HX7.out⟩, by simp [Go.RowKit.intOf]; omega⟩
        · obtain rfl : t = o.fields.length := by omega
          have hyes : putB ws R h o = true := by
            rw [HPB.out]
            have := HFA.out
            rw [List.take_length] at this
            exact this
          have HYES := Lib.hid hyes
          clear hyes HFA HM2 HM1
          have j3 : ¬ (o.fields.length : Int) < (o.fields.length : Int) := by omega
          obtain ⟨x0, x1, x2, x3, x4⟩ := cells5 e3
          have HXR := Lib.hid (HX2.out.trans HXT.out)
          go_wp2_with fail
          refine (HTOP.out _).mono ?_
          rintro e w4 ⟨rfl, hx4⟩
          have d0 := (Below.block hx4 w.heap.size (by omega)).trans e0
          have d1 := (Below.block hx4 (w.heap.size + 1) (by omega)).trans e1
          have d2 := (Below.block hx4 (w.heap.size + 1 + 1) (by omega)).trans e2
          have HX4 := Lib.hid (HXR.out.trans hx4)
          have hl4 : w.heap.size + 1 + 1 < w4.heap.size := (Array.getElem?_eq_some_iff.1 d2).1
          clear hx4 e0 e1 e2 e3 x0 x1 x2 x3 x4 hlr HXR HXT
          generalize htp : topN h = tp at *
          have HTP := Lib.hid htp
          clear htp
          obtain ⟨x0, x1, x2, x3⟩ := cells4 d1
          go_wp2_with fail
          refine (HHD.out _).mono ?_
          rintro e w5 ⟨rfl, hx5⟩
          have e0 := (Below.block hx5 w.heap.size (by omega)).trans d0
          have e1 := (Below.block hx5 (w.heap.size + 1) (by omega)).trans d1
          have e2 := (Below.block hx5 (w.heap.size + 1 + 1) (by omega)).trans d2
          have HX5 := Lib.hid (HX4.out.trans hx5)
          have hl5 : w.heap.size + 1 + 1 < w5.heap.size := (Array.getElem?_eq_some_iff.1 e2).1
          clear hx5 d0 d1 d2 x0 x1 x2 x3 hl4
          obtain ⟨v0, v1, v2, v3⟩ := cells4 e0
          go_wp2_with fail
          refine (HSET.out w5 ws tp _ (HH.out.ext HX5.out)).mono ?_
          rintro e w6 ⟨rfl, hA6, hT6⟩
          have hgw : g < w.heap.size := lg
          have d0 := (hT6.block w.heap.size (by omega) (by simp; omega)).trans e0
          have d1 := (hT6.block (w.heap.size + 1) (by omega) (by simp; omega)).trans e1
          have d2 := (hT6.block (w.heap.size + 1 + 1) (by omega) (by simp; omega)).trans e2
          have HT6 := Lib.hid ((Turn.of_ext HX5.out).trans hT6)
          have HA6 := Lib.hid hA6
          have hl6 : w.heap.size + 1 + 1 < w6.heap.size := (Array.getElem?_eq_some_iff.1 d2).1
          clear hT6 hA6 e0 e1 e2 v0 v1 v2 v3 hl5 HX5
          obtain ⟨x0, x1, x2, x3⟩ := cells4 d1
          go_wp2_with fail
          refine (HBODY.out w6 (by omega) (fun W t => HF.out W (HT6.out.trans t))).mono ?_
          rintro e w7 ⟨qb, cb, rfl, hrs, hx7⟩
          have e0 := (Below.block hx7 w.heap.size (by omega)).trans d0
          have e2 := (Below.block hx7 (w.heap.size + 1 + 1) (by omega)).trans d2
          have HT7 := Lib.hid (HT6.out.trans (Turn.of_ext hx7))
          have HA7 := Lib.hid (HA6.out.ext hx7)
          have HRS := Lib.hid hrs
          have hl7 : w.heap.size + 1 + 1 < w7.heap.size := (Array.getElem?_eq_some_iff.1 e2).1
          clear hx7 d0 d1 d2 x0 x1 x2 x3 hl6 hrs
          obtain ⟨B, hB⟩ : ∃ B, B = bodyO o := ⟨_, rfl⟩
          have hbl := HBL.out
          rw [← hB] at HRS hbl
          have hbn : B.length ≤ 1000 := by have := HNN.out; omega
          have HB2 := Lib.hid hB
          have HBL2 := Lib.hid hbl
          rw [← hB]
          clear hB hbl HBL
          go_wp2_with fail
          go_loopw [77] (fun i wr => ∃ k : Nat, k ≤ B.length ∧ i = .int .i64 k ∧ ArenaAt wr p g bm n (setRun ws R h.base tp (headO o :: B.take k)) R ∧ Turn [g] w7 wr) (fun i _ => B.length - (Go.RowKit.intOf i).toNat)
          case atStart => exact ⟨0, Nat.zero_le _, rfl, HA7.out, Turn.refl _ _⟩
          case round =>
            obtain ⟨k, hk, rfl, hA, hT⟩ := hrel
            have HA8 := Lib.hid hA
            have HT8 := Lib.hid hT
            have d0 := (hT.block w.heap.size (by omega) (by simp; omega)).trans e0
            have d2 := (hT.block (w.heap.size + 1 + 1) (by omega) (by simp; omega)).trans e2
            clear hA hT e0 e2
            obtain ⟨v0, v1, v2, v3⟩ := cells4 d0
            by_cases hkl : k < B.length
            · obtain ⟨y, hy⟩ : ∃ y, B[k]? = some y := ⟨_, List.getElem?_eq_getElem hkl⟩
              obtain ⟨q2, c2, hv2, _, _, hcell⟩ := (HRS.out wr HT8.out).at
              obtain ⟨fb, fo, hqe, hyc⟩ := hcell k (wordC y) (by rw [List.getElem?_map, hy]; rfl)
              rw [List.length_map] at hv2
              obtain ⟨rfl, -, rfl⟩ := Value.slice.inj hv2
              subst hqe
              have hyc0 := hyc 0 _ rfl
              rw [Nat.mul_one, Nat.add_zero] at hyc0
              have HY := Lib.hid hy
              clear hy hv2 hcell hyc
              have j4 : (k : Int) < (B.length : Int) := by omega
              go_wp2_with fail
              refine (HSET.out wr _ ((tp : Int) + 1 + (k : Int)) y HA8.out).mono ?_
              rintro e w9 ⟨rfl, hA9, hT9⟩
              have hA9' : ArenaAt w9 p g bm n (setRun ws R h.base tp (headO o :: B.take (k + 1))) R := by
                obtain ⟨h1, h2⟩ := List.getElem?_eq_some_iff.1 HY.out
                rw [List.take_succ_eq_append_getElem h1, h2, ← List.cons_append, setRun_snoc, List.length_cons, List.length_take]
                rw [show ((tp + (min k B.length + 1) : Nat) : Int) = (tp : Int) + 1 + (k : Int) by omega]
                exact hA9
              have HA9 := Lib.hid hA9'
              have HT9 := Lib.hid (HT8.out.trans hT9)
              clear hA9 hA9' hT9
              go_wp2
              exact ⟨⟨k + 1, by omega, by go_num, HA9.out, HT9.out⟩, by simp [Go.RowKit.intOf]; omega⟩
            · obtain rfl : k = B.length := by omega
              have j4 : ¬ (B.length : Int) < (B.length : Int) := by omega
              have hA := HA8.out
              rw [List.take_length] at hA
              have HA9 := Lib.hid hA
              clear hA HA8
              have f3 := free_at d0 (i := 3)
              go_upto_region 21 with fail
              refine wp_fill1 d0 fun W9 hb9 hT9 hS9 => ?_
              have g0 : W9.heap[w.heap.size]? = some (.cells #[.int .i64 h.base, .int .i64 h.half, .int .i64 h.space, .int .i64 (h.top + (nn : Int))] 24 (0, 0)) := hb9
              have g2 := (hT9.block (w.heap.size + 1 + 1) (Array.getElem?_eq_some_iff.1 d2).1 (by simp; omega)).trans d2
              have hpl := HH.out.lt.1
              have hbl := HH.out.lt.2.2
              have HA10 := Lib.hid (HA9.out.turn hT9 (by simp; omega) (by simp; omega) (by simp; omega))
              have hTg : Turn [g, w.heap.size] w W9 := (HT7.out.mono (by simp)).trans ((HT8.out.mono (by simp)).trans (hT9.mono (by simp)))
              have HTG := Lib.hid hTg
              clear hTg hT9 hb9 hS9 d0 d2 v0 v1 v2 v3 f3 hpl hbl
              obtain ⟨v0, v1, v2, v3⟩ := cells4 g0
              obtain ⟨y0, y1, y2, y3⟩ := cells4 g2
              have f0 := free_at g2 (i := 0)
              have f1 := free_at g2 (i := 1)
              have f2 := free_at g2 (i := 2)
              have f3 := free_at g2 (i := 3)
              refine wp_region_noPanic ?_
              refine wp_region_last 5 (S := (fun w' => w'.cell? ⟨w.heap.size, 0, none⟩ = some (.int .i64 h.base) ∧ w'.cell? ⟨w.heap.size, 1, none⟩ = some (.int .i64 h.half) ∧ w'.cell? ⟨w.heap.size, 2, none⟩ = some (.int .i64 h.space) ∧ w'.cell? ⟨w.heap.size, 3, none⟩ = some (.int .i64 (h.top + (nn : Int))))) (by kernel_rfl) (by kernel_rfl) _ rfl ?_ (fun hHeld => ?_)
              · (first | exact ⟨(Ext.drew _).cell v0, (Ext.drew _).cell v1, (Ext.drew _).cell v2, (Ext.drew _).cell v3⟩ | (refine ⟨?_, ?_, ?_, ?_⟩ <;> go_simp))
              simp only [List.take_succ_cons, List.take_zero]
              refine wpAnyH_take (i := 0) (v := ?v1) rfl (by kernel_rfl) (by kernel_rfl) (by kernel_rfl) (fun _ _ _ h => h) (Or.inl ⟨by rfl, ?y1⟩) (by assumption) ?r1
              case y1 => intro w hSw; (try dsimp only at hSw); go_simp; (try with_reducible rfl)
              (try simp only [Act.put, List.setIfInBounds_toArray, List.set_cons_zero, List.set_cons_succ, List.getElem_toArray, List.getElem_cons_zero, List.getElem_cons_succ])
              refine wpAnyH_take (i := 1) (v := ?v2) rfl (by kernel_rfl) (by kernel_rfl) (by kernel_rfl) (fun _ _ _ h => h) (Or.inl ⟨by rfl, ?y2⟩) (by assumption) ?r2
              case y2 => intro w hSw; (try dsimp only at hSw); go_simp; (try with_reducible rfl)
              (try simp only [Act.put, List.setIfInBounds_toArray, List.set_cons_zero, List.set_cons_succ, List.getElem_toArray, List.getElem_cons_zero, List.getElem_cons_succ])
              refine wpAnyH_ready (rs := [2]) (by kernel_rfl) (by simp) ?_
              refine AllReadyH.cons rfl (fun K hK => ?_) AllReadyH.nil
              go_simp
              refine (place_is (n := tp) (by omega) _).mono ?_
              rintro e w' ⟨rfl, rfl⟩
              refine hK.out _ _ ?s3 (fun hHeld => ?k3)
              case s3 => ((try dsimp only); (first | exact ⟨(Ext.drew _).cell v0, (Ext.drew _).cell v1, (Ext.drew _).cell v2, (Ext.drew _).cell v3⟩ | (refine ⟨?_, ?_, ?_, ?_⟩ <;> go_simp)))
              clear hK K
              (try simp only [Act.put, List.setIfInBounds_toArray, List.set_cons_zero, List.set_cons_succ, List.getElem_toArray, List.getElem_cons_zero, List.getElem_cons_succ])
              refine wpAnyH_ready (rs := [3]) (by kernel_rfl) (by simp) ?_
              refine AllReadyH.cons rfl (fun K hK => ?_) AllReadyH.nil
              go_simp
              refine hK.out _ _ ?s4 (fun hHeld => ?k4)
              case s4 => ((try dsimp only); (first | exact ⟨(Ext.drew _).cell v0, (Ext.drew _).cell v1, (Ext.drew _).cell v2, (Ext.drew _).cell v3⟩ | (refine ⟨?_, ?_, ?_, ?_⟩ <;> go_simp)))
              clear hK K
              (try simp only [Act.put, List.setIfInBounds_toArray, List.set_cons_zero, List.set_cons_succ, List.getElem_toArray, List.getElem_cons_zero, List.getElem_cons_succ])
              refine wpAnyH_take (i := 4) (v := ?v5) rfl (by kernel_rfl) (by kernel_rfl) (by kernel_rfl) (fun _ _ _ h => h) (Or.inl ⟨by rfl, ?y5⟩) (by assumption) ?r5
              case y5 => intro w hSw; (try dsimp only at hSw); go_simp; (try with_reducible rfl)
              (try simp only [Act.put, List.setIfInBounds_toArray, List.set_cons_zero, List.set_cons_succ, List.getElem_toArray, List.getElem_cons_zero, List.getElem_cons_succ])
              refine wpAnyH_done (by kernel_rfl) ?_ _
              show wpList _ _ _ _ _ _
              go_wp2
              refine NoPanic.normal ?_
              go_wp2
              have hf := fill4 (w := W9) g2 (.int .i64 h.base) (.int .i64 h.half) (.int .i64 h.space) (.int .i64 (h.top + (nn : Int)))
              refine post_gen (fun W => W.heap[w.heap.size + 1 + 1]? = some (.cells #[.int .i64 h.base, .int .i64 h.half, .int .i64 h.space, .int .i64 (h.top + (nn : Int))] 24 (0, 0)) ∧ Turn [w.heap.size + 1 + 1] W9 W) ⟨hf.1, hf.2.1.trans (Turn.of_ext (Ext.drew _))⟩ fun W10 hF10 => ?_
              obtain ⟨k2, hT10⟩ := hF10
              have HK2 := Lib.hid hT10
              clear hf hT10 y0 y1 y2 y3
              obtain ⟨y0, y1, y2, y3⟩ := cells4 k2
              refine bodyPost_ret (v := .tuple #[hpV ⟨h.base, h.half, h.space, h.top + (nn : Int)⟩, .int .u64 (2 * (tp : Int)), .bool true]) (by simp [results, Tryz.results19, go_sem, y0, y1, y2, y3, hpV]) rfl ?_
              unfold PutSaid
              rw [HYES.out]
              simp only [if_true]
              have hl := HH.out.lt
              refine ⟨?_, ?_, ?_⟩
              · rw [HTP.out]
                unfold hpUp
                rw [← HNN.out]
                rfl
              · unfold putWs layO
                rw [HTP.out, ← HB2.out]
                exact HA10.out.turn HK2.out (by simp; omega) (by simp; omega) (by simp; omega)
              · refine Turn.sub (bs := [g, w.heap.size, w.heap.size + 1 + 1]) ((HTG.out.mono (by simp)).trans (HK2.out.mono (by simp))) ?_
                intro b hb
                simp at hb
                rcases hb with rfl | rfl | rfl
                · exact .inl (.head _)
                · exact .inr (Nat.le_refl _)
                · exact .inr (by omega)
end Go.Proofs.YtppkgfcobnknfaaGreatDoor
/- A text's words and bytes, in plain Lean: words are a text's just if the bytes behind its last one are 0. -/
namespace Go.Proofs.YtppkgfcobnknfaaGreatDoor
theorem pk_append : ∀ (A B : List UInt8), pk (A ++ B) = pk A + 256 ^ A.length * pk B := by
  intro A
  induction A with
  | nil => intro B; simp [pk]
  | cons a A ih =>
    intro B
    rw [List.cons_append, pk, pk, ih, List.length_cons, Nat.pow_succ, Nat.mul_add]
    rw [show 256 * (256 ^ A.length * pk B) = 256 ^ A.length * 256 * pk B by rw [← Nat.mul_assoc, Nat.mul_comm 256]]
    omega
theorem pk_zero : ∀ (A : List UInt8), pk A = 0 ↔ A.all (· == 0) = true := by
  intro A
  induction A with
  | nil => simp [pk]
  | cons a A ih =>
    rw [pk, List.all_cons, Bool.and_eq_true, ← ih]
    constructor
    · intro h
      have h1 : a.toNat = 0 := by omega
      exact ⟨by rw [show a = 0 from UInt8.toNat_inj.1 h1]; rfl, by omega⟩
    · rintro ⟨h1, h2⟩
      have : a = 0 := by simpa using h1
      rw [this, h2]; rfl
theorem pk_bytes8 {x : Int} (h0 : 0 ≤ x) (h1 : x < 18446744073709551616) : (pk (bytes8 x) : Int) = x := by
  obtain ⟨n, rfl⟩ := Int.eq_ofNat_of_zero_le h0
  have hn : n < 18446744073709551616 := by omega
  unfold bytes8
  simp only [List.range_succ, List.range_zero, List.nil_append, List.map_cons, List.map_nil, List.cons_append, pk, Int.toNat_natCast]
  simp only [UInt8.toNat_ofNat']
  omega
theorem pieces_nil : pieces [] = [] := rfl
theorem pieces_short {A : List UInt8} (h1 : 1 ≤ A.length) (h8 : A.length ≤ 8) : pieces A = [(pk A : Int)] := by
  unfold pieces
  rw [show (A.length + 7) / 8 = 1 by omega]
  simp [pieceN, List.take_of_length_le h8]
theorem pieces_cons {A l : List UInt8} (h : A.length = 8) : pieces (A ++ l) = (pk A : Int) :: pieces l := by
  unfold pieces
  rw [List.length_append, show (A.length + l.length + 7) / 8 = (l.length + 7) / 8 + 1 by omega, List.range_succ_eq_map, List.map_cons, List.map_map]
  congr 1
  · unfold pieceN
    rw [Nat.mul_zero, List.drop_zero, List.take_append_of_le_length (by omega), List.take_of_length_le (by omega)]
  · refine List.map_congr_left fun j _ => ?_
    unfold pieceN
    simp only [Function.comp_apply, Nat.succ_eq_add_one]
    rw [show 8 * (j + 1) = A.length + 8 * j by omega, List.drop_append, List.drop_of_length_le (by omega), List.nil_append, Nat.add_sub_cancel_left]
theorem bytes8_length (x : Int) : (bytes8 x).length = 8 := by simp [bytes8]
theorem bytesOf_cons (x : Int) (W : List Int) : bytesOf (x :: W) = bytes8 x ++ bytesOf W := by simp [bytesOf]
theorem pieces_back : ∀ (W : List Int) (sz : Nat), (∀ x ∈ W, 0 ≤ x ∧ x < 18446744073709551616) → (sz + 7) / 8 = W.length → (pieces ((bytesOf W).take sz) = W ↔ ((bytesOf W).drop sz).all (· == 0) = true) := by
  intro W
  induction W with
  | nil =>
    intro sz _ hs
    have : sz = 0 := by simp at hs; omega
    subst this
    simp [bytesOf, pieces_nil]
  | cons x W ih =>
    intro sz hW hs
    rw [List.length_cons] at hs
    obtain ⟨hx0, hx1⟩ := hW x (.head _)
    rw [bytesOf_cons]
    have h8 := bytes8_length x
    by_cases hz : W = []
    · subst hz
      have hb : bytesOf [] = [] := rfl
      rw [hb, List.append_nil]
      have hsz : 1 ≤ sz ∧ sz ≤ 8 := by simp at hs; omega
      have hl : ((bytes8 x).take sz).length = sz := by rw [List.length_take]; omega
      rw [pieces_short (by omega) (by omega)]
      have hp := pk_append ((bytes8 x).take sz) ((bytes8 x).drop sz)
      rw [List.take_append_drop, hl] at hp
      have he := pk_bytes8 hx0 hx1
      rw [← pk_zero]
      constructor
      · intro h
        have h2 : (pk ((bytes8 x).take sz) : Int) = x := by simpa using h
        have h3 : pk ((bytes8 x).take sz) = pk (bytes8 x) := by omega
        rw [h3] at hp
        have h4 : 256 ^ sz * pk ((bytes8 x).drop sz) = 0 := by omega
        rcases Nat.mul_eq_zero.1 h4 with h5 | h5
        · have := Nat.pow_pos (n := sz) (show 0 < 256 by omega)
          omega
        · exact h5
      · intro h
        rw [h, Nat.mul_zero, Nat.add_zero] at hp
        rw [← hp, he]
    · have hl : 1 ≤ W.length := by cases W with | nil => exact absurd rfl hz | cons => simp
      have hs8 : 8 ≤ sz := by omega
      rw [List.take_append, List.drop_append, h8, List.take_of_length_le (l := bytes8 x) (by omega), List.drop_of_length_le (l := bytes8 x) (by omega), List.nil_append, pieces_cons h8, pk_bytes8 hx0 hx1]
      rw [← ih (sz - 8) (fun y hy => hW y (.tail _ hy)) (by omega)]
      constructor
      · intro h; exact (List.cons.inj h).2
      · intro h; rw [h]
end Go.Proofs.YtppkgfcobnknfaaGreatDoor
