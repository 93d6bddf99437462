/- Proved here: the contracts and laws of ObjLC, ObjLB, RowIn, ObjIn, HpP of this claim, each beneath its own remark; conditions: those that each theorem names. -/
import Derived.Test.YtlffmcadchbheaaM8
import Derived.Test.YtlffmcadchbheaaM2
import Derived.Test.YtlffmcadchbheaaM3
import Derived.Test.YtlffmcadchbheaaM6
import Derived.Deep.CutBlock
import Derived.Deep.Light
/- What stays of a region's words while objects are put: plain. -/
namespace Go.Proofs.Ytlffmcadchbheaa
open Go.RowKit Go.Maps Arena
set_option maxRecDepth 100000
theorem piece_64 (l : List UInt8) (j : Nat) : W64 (pieceN l j) := by
  unfold pieceN W64
  have h := pk_lt ((l.drop (8 * j)).take 8)
  have h8 : ((l.drop (8 * j)).take 8).length ≤ 8 := by rw [List.length_take]; omega
  have h2 : 256 ^ ((l.drop (8 * j)).take 8).length ≤ 256 ^ 8 := Nat.pow_le_pow_right (by omega) h8
  have e : (256 : Nat) ^ 8 = 18446744073709551616 := by decide
  constructor
  · omega
  · omega
theorem layO_64 {o : Ob} (hm : mayO o = true) (hF : ∀ x ∈ o.fields, W64 x) : ∀ x ∈ layO o, W64 x := by
  intro x hx
  unfold layO at hx
  rcases List.mem_cons.1 hx with rfl | hx
  · unfold mayO at hm
    obtain ⟨h1, h2, h3, h4, _, _, h5, _⟩ := mayK_bounds hm
    unfold headO headK W64
    omega
  · unfold bodyO at hx
    split at hx
    · unfold pieces at hx
      obtain ⟨j, _, rfl⟩ := List.mem_map.1 hx
      exact piece_64 _ _
    · exact hF x hx
theorem putB_may {ws : List Int} {R : List (Nat × Nat)} {h : Hp} {o : Ob} (hb : putB ws R h o = true) : mayO o = true := by
  cases hm : mayO o with
  | true => rfl
  | false =>
    unfold putB at hb
    split at hb
    · cases hb
    · simp [hm] at hb
theorem putWs_64 {ws : List Int} {R : List (Nat × Nat)} {h : Hp} {o : Ob} (hb : putB ws R h o = true) (hW : ∀ x ∈ ws, W64 x) (hF : ∀ x ∈ o.fields, W64 x) : ∀ x ∈ putWs ws R h o, W64 x := by
  intro x hx
  rcases setRun_mem hx with h1 | h1
  · exact hW x h1
  · exact layO_64 (putB_may hb) hF x h1
theorem wsOf_64 {ws : List Int} {R : List (Nat × Nat)} {ba : Int} {k : Option Int} {v : Int} (hW : ∀ x ∈ ws, W64 x) (hv : W64 v) : ∀ x ∈ wsOf ws R ba k v, W64 x := by
  intro x hx
  unfold wsOf at hx
  split at hx
  · exact hW x hx
  · rcases setWs_mem hx with h1 | rfl
    · exact hW x h1
    · exact hv
theorem setWs_take {ws : List Int} {R : List (Nat × Nat)} {a v : Int} : (setWs ws R 3 a v).take 3 = ws.take 3 := by
  unfold setWs
  split
  · rename_i hw
    unfold within at hw
    have hw := of_decide_eq_true hw
    rw [List.take_set_of_le (by omega)]
  · rfl
theorem setRun_take {R : List (Nat × Nat)} : ∀ (l ws : List Int) (k : Nat), (setRun ws R 3 k l).take 3 = ws.take 3 := by
  intro l
  induction l with
  | nil => intro ws k; rfl
  | cons v l ih => intro ws k; rw [setRun, ih, setWs_take]
theorem putWs_take {ws : List Int} {R : List (Nat × Nat)} {h : Hp} {o : Ob} (h3 : h.base = 3) : (putWs ws R h o).take 3 = ws.take 3 := by
  unfold putWs; rw [h3]; exact setRun_take _ _ _
theorem wsOf_take {ws : List Int} {R : List (Nat × Nat)} {ba : Int} {k : Option Int} {v : Int} (h3 : ba = 3) : (wsOf ws R ba k v).take 3 = ws.take 3 := by
  subst h3
  unfold wsOf
  split
  · rfl
  · exact setWs_take
theorem rigW_take (l : List Int) (j : Nat) : (rigW l j).take 3 = [0, 0, 0] := by
  unfold rigW
  rw [List.take_append_of_le_length (by simp)]
  rfl
end Go.Proofs.Ytlffmcadchbheaa
/- wakes of package object's statements: the walk (under way). -/
namespace Go.Proofs.Ytlffmcadchbheaa
open Go.RowKit Go.Maps Arena
set_option maxHeartbeats 8000000
set_option maxRecDepth 100000
theorem make_words (w : World) (n : Nat) (hn : n ≤ 1000) (T : TypeId) : WordSl (w.alloc (.cells (madeCells #[.int .u64 0] n) T)) (.slice (some ⟨w.heap.size, 0, none⟩) n n) (List.replicate n 0) := by
  refine ⟨_, n, by rw [List.length_replicate], by simp, by unfold maxLen; omega, fun i x hx => ⟨_, 0, rfl, ?_⟩⟩
  rw [List.getElem?_replicate] at hx
  split at hx
  · cases hx
    have h0 := heap_alloc_new w (.cells (madeCells #[Value.int .u64 0] n) T)
    rw [made_zeros] at h0 ⊢
    unfold World.cell?
    rw [h0]
    simp [*]
  · cases hx
/-- a row of words as it is written out, of the call's own -/
theorem lit_at {W : World} {g : Nat} (l : List Int) {T : TypeId} {B : Nat} (h : W.heap[g]? = some (.cells (l.map fun x => Value.int .u64 x).toArray T (0, 0))) (hl : l.length ≤ 1000) (hB : B ≤ g) : OwnP W B T (.slice (some ⟨g, 0, none⟩) l.length l.length) 1 (l.map wordC) := by
  have := OwnP.of_form (w := W) (base := B) (cap := l.length) (l := l.map wordC) (s := 1) (fun cs hm => by obtain ⟨y, _, rfl⟩ := List.mem_map.1 hm; exact ⟨rfl, fun u hu => by rw [List.mem_singleton.1 hu]; rfl⟩) hB h (by rw [List.length_map]; omega) (by unfold maxLen; omega) (by simp) (by
    rw [List.length_map, Nat.mul_one, List.take_of_length_le (by simp)]
    clear h hl
    induction l with
    | nil => rfl
    | cons a l ih => simp [wordC] at ih ⊢; exact ih)
  rw [List.length_map] at this
  exact this
theorem OwnP.rowStay {w : World} {base g : Nat} {T : TypeId} {v : Value} {l : List (List Value)} (h : OwnP w base T v 1 l) (hg : g < base) : RowStay w g v l := fun W t => (h.turn t (fun b hb hm => by
  have := (h.own b hb).1
  rw [List.mem_singleton.1 hm] at this
  omega)).p
theorem Turn.keep {w w' : World} {g b : Nat} {o : Obj} (t : Turn [g] w w') (h : w.heap[b]? = some o) (hb : b ≠ g) : w'.heap[b]? = some o :=
  (t.block b (Array.getElem?_eq_some_iff.1 h).1 (by simp [hb])).trans h
theorem put_yes {w : World} {p g bm n : Nat} {ws ws' : List Int} {R : List (Nat × Nat)} (H : ArenaAt w p g bm n ws R) (h h' : Hp) (hw : (Lit.int .i64 h.base).wf = true) (hW : ∀ x ∈ ws, W64 x) (o : Ob) (c : Nat) (q : Option Addr) (hF : RowStay w g (.slice q o.fields.length c) (o.fields.map wordC)) (hF64 : ∀ x ∈ o.fields, W64 x) (hFn : o.fields.length ≤ 1000)
    (hb : putB ws R h o = true) (hh : hpUp h o = h') (hws : putWs ws R h o = ws') (k : Int) (hk : ((2 * topN h : Nat) : Int) = k) :
    Calls Try.prog 26 #[.pointer (some ⟨p, 0, none⟩), .agg #[.int .i64 h.base, .int .i64 h.half, .int .i64 h.space, .int .i64 h.top], .agg #[.int .i64 o.kind, .int .i64 o.tag, .slice q o.fields.length c, .string o.text]] w fun e w' =>
      e = .returned (.tuple #[.agg #[.int .i64 h'.base, .int .i64 h'.half, .int .i64 h'.space, .int .i64 h'.top], .int .u64 k, .bool true]) ∧ ArenaAt w' p g bm n ws' R ∧ Turn [g] w w' := by
  subst hh hws hk
  have := put_is H h hw hW o c q hF hF64 hFn
  unfold PutSaid at this
  rw [hb] at this
  exact this
theorem put_nay {w : World} {p g bm n : Nat} {ws : List Int} {R : List (Nat × Nat)} (H : ArenaAt w p g bm n ws R) (h : Hp) (hw : (Lit.int .i64 h.base).wf = true) (hW : ∀ x ∈ ws, W64 x) (o : Ob) (c : Nat) (q : Option Addr) (hF : RowStay w g (.slice q o.fields.length c) (o.fields.map wordC)) (hF64 : ∀ x ∈ o.fields, W64 x) (hFn : o.fields.length ≤ 1000)
    (hb : putB ws R h o = false) :
    Calls Try.prog 26 #[.pointer (some ⟨p, 0, none⟩), .agg #[.int .i64 h.base, .int .i64 h.half, .int .i64 h.space, .int .i64 h.top], .agg #[.int .i64 o.kind, .int .i64 o.tag, .slice q o.fields.length c, .string o.text]] w fun e w' =>
      e = .returned (.tuple #[.agg #[.int .i64 0, .int .i64 0, .int .i64 0, .int .i64 0], .int .u64 0, .bool false]) ∧ ArenaAt w' p g bm n ws R ∧ Turn [g] w w' := by
  have := put_is H h hw hW o c q hF hF64 hFn
  unfold PutSaid at this
  rw [hb] at this
  exact this
theorem wk0_64 : ∀ x ∈ wk0, W64 x := rigW_mem (by intro x hx; rw [(List.mem_replicate.1 hx).2]; exact w64_zero) _
/-- an arena, a heap's number cells, beside one another -/
structure Wk (w1 W : World) (p g bm t0 t1 q n : Nat) (ws : List Int) (R : List (Nat × Nat)) (h : Hp) : Prop where
  a : ArenaAt W p g bm n ws R
  t : Turn [g, t1] w1 W
  two : W.heap[t0]? = some (.cells #[.pointer (some ⟨p, 0, none⟩), .pointer (some ⟨q, 0, none⟩)] 36 (0, 0))
  hp : W.heap[t1]? = some (.cells #[.int .i64 h.base, .int .i64 h.half, .int .i64 h.space, .int .i64 h.top] 24 (0, 0))
  lt : p < t0 ∧ g < t0 ∧ bm < t0 ∧ t0 < t1
theorem Wk.ext {w1 W W' : World} {p g bm t0 t1 q n : Nat} {ws : List Int} {R : List (Nat × Nat)} {h : Hp} (k : Wk w1 W p g bm t0 t1 q n ws R h) (e : Ext W W') : Wk w1 W' p g bm t0 t1 q n ws R h :=
  ⟨k.a.ext e, k.t.trans (Turn.of_ext e), (Below.block e _ (Array.getElem?_eq_some_iff.1 k.two).1).trans k.two, (Below.block e _ (Array.getElem?_eq_some_iff.1 k.hp).1).trans k.hp, k.lt⟩
theorem Wk.put {w1 W W' : World} {p g bm t0 t1 q n : Nat} {ws ws' : List Int} {R : List (Nat × Nat)} {h : Hp} (k : Wk w1 W p g bm t0 t1 q n ws R h) (a : ArenaAt W' p g bm n ws' R) (t : Turn [g] W W') : Wk w1 W' p g bm t0 t1 q n ws' R h := by
  obtain ⟨l1, l2, l3, l4⟩ := k.lt
  exact ⟨a, k.t.trans (t.mono (by simp)), t.keep k.two (by omega), t.keep k.hp (by omega), k.lt⟩
theorem Wk.fill {w1 W W' : World} {p g bm t0 t1 q n : Nat} {ws : List Int} {R : List (Nat × Nat)} {h h' : Hp} (k : Wk w1 W p g bm t0 t1 q n ws R h) (c : W'.heap[t1]? = some (.cells #[.int .i64 h'.base, .int .i64 h'.half, .int .i64 h'.space, .int .i64 h'.top] 24 (0, 0))) (t : Turn [t1] W W') : Wk w1 W' p g bm t0 t1 q n ws R h' := by
  obtain ⟨l1, l2, l3, l4⟩ := k.lt
  exact ⟨k.a.turn t (by simp; omega) (by simp; omega) (by simp; omega), k.t.trans (t.mono (by simp)), t.keep k.two (by omega), c, k.lt⟩
/-- a number as a row of one cell -/
def numC (x : Int) : List Value := [.int .i64 x]
theorem NumSl.of_rows {w : World} {v : Value} {l : List Int} (h : RowsP w v 1 (l.map numC)) : NumSl w v l := by
  have hf : (l.map numC).flatten = l.map (Value.int .i64) := by
    clear h
    induction l with
    | nil => rfl
    | cons a l ih => rw [List.map_cons, List.flatten_cons, ih]; rfl
  obtain ⟨q, c, rfl, h1, h2, h3⟩ := RowsP.at h
  rw [List.length_map] at h1 ⊢
  clear h3
  refine ⟨q, c, rfl, h1, h2, fun i x hx => ?_⟩
  rcases h.2 with ⟨_, he⟩ | ⟨b, off, c', e, _, _, hc⟩
  · rw [List.map_eq_nil_iff.1 he] at hx
    simp at hx
  · obtain ⟨rfl, _, _⟩ := Value.slice.inj e
    exact ⟨b, off, rfl, hc i _ (by rw [hf, List.getElem?_map, hx]; rfl)⟩
theorem w64_lits {l : List Int} (h : l.all (fun x => decide (0 ≤ x) && decide (x < 18446744073709551616)) = true) : ∀ x ∈ l, W64 x := by
  intro x hx
  have := List.all_eq_true.1 h x hx
  simp only [Bool.and_eq_true, decide_eq_true_eq] at this
  exact this
theorem wk1_64 : ∀ x ∈ wk1, W64 x := putWs_64 wk_put1 wk0_64 (by simp [wkS])
theorem wk2_64 : ∀ x ∈ wk2, W64 x := putWs_64 wk_put2 wk1_64 (w64_lits (by decide))
theorem wk3_64 : ∀ x ∈ wk3, W64 x := wsOf_64 wk2_64 (w64_lits (l := [6]) (by decide) 6 (by simp))
theorem wakes3 (w : World) : Calls Try.prog 10 #[] w fun e w' => e = .returned (.bool true) ∧ Ext w w' := by
  have hmk := run_make_row' (P := Try.prog) 22 29 (.int .u64 0) 8 Try.underlying22 info_u64 rfl .i64 .i64 40 (by omega) (by omega)
  simp only [Int.cast_ofNat_Int] at hmk
  go_enter Try.func10, Try.ntmps10
  go_wp2_with fail
  refine (lay_words (make_words w 40 (by omega) _) (by simp)).mono ?_; rintro e w1 ⟨p, g, bm, q, gq, B, rfl, hB⟩
  have HB := Lib.hid hB
  clear hB hmk
  go_wp2_with fail
  refine at_alloc2 fun W hE hS b0 b1 => ?_
  have hlt := HB.out.a.lt
  have K0 := Lib.hid (show Wk w1 W p g bm w1.heap.size (w1.heap.size + 1) q 50 wk0 (rigR 40) wkH from ⟨HB.out.a.ext hE, Turn.of_ext hE, b0, b1, by omega, by omega, by omega, by omega⟩)
  have HSZ := Lib.hid (show w1.heap.size + 1 < W.heap.size by omega)
  clear hE hS b0 b1 hlt
  have HT0' := Lib.hid (Nat.le_refl w1.heap.size)
  generalize hgt0 : w1.heap.size = t0 at K0 HSZ ⊢
  have HT0 := Lib.hid hgt0
  clear hgt0 HT0'
  generalize ht1 : t0 + 1 = t1 at K0 HSZ ⊢
  have HT1 := Lib.hid ht1
  clear ht1
  have hrow : RowStay W g (.slice none 0 0) (([] : List Int).map wordC) := fun _ _ => RowsP.nil _ _
  refine (put_yes (h' := wkH1) (ws' := wk1) K0.out.a wkH (by decide) wk0_64 wkS 0 none hrow (by simp [wkS]) (by simp [wkS]) wk_put1 rfl rfl 0 (by rw [wk_top1]; rfl)).mono ?_
  rintro e w2 ⟨rfl, hA2, hT2⟩
  have K1 := Lib.hid (K0.out.put hA2 hT2)
  clear hrow hT2 hA2 K0 HSZ
  obtain ⟨x0, x1⟩ := cells2 K1.out.two
  obtain ⟨y0, y1, y2, y3⟩ := cells4 K1.out.hp
  have f0 := free_at K1.out.hp (i := 0)
  have f1 := free_at K1.out.hp (i := 1)
  have f2 := free_at K1.out.hp (i := 2)
  have f3 := free_at K1.out.hp (i := 3)
  have n0 := (Array.getElem?_eq_some_iff.1 K1.out.two).1
  have n1 := (Array.getElem?_eq_some_iff.1 K1.out.hp).1
  go_upto_region 6 with fail
  refine wp_fill4 K1.out.hp fun W3 c3 hT3 hS3 => ?_
  clear hS3
  have K2 := Lib.hid (K1.out.fill (h' := wkH1) c3 hT3)
  clear x0 x1 y0 y1 y2 y3 f0 f1 f2 f3 n0 n1
  clear c3 hT3 K1
  obtain ⟨x0, x1⟩ := cells2 K2.out.two
  obtain ⟨y0, y1, y2, y3⟩ := cells4 K2.out.hp
  have f0 := free_at K2.out.hp (i := 0)
  have f1 := free_at K2.out.hp (i := 1)
  have f2 := free_at K2.out.hp (i := 2)
  have f3 := free_at K2.out.hp (i := 3)
  have n0 := (Array.getElem?_eq_some_iff.1 K2.out.two).1
  have n1 := (Array.getElem?_eq_some_iff.1 K2.out.hp).1
  go_wp2_with fail
  refine at_alloc1 fun W4 hE4 hS4 b4 => ?_
  clear hS4
  have K3 := Lib.hid (K2.out.ext hE4)
  have hl := lit_at (B := W3.heap.size) [0, 3] b4 (by simp) (by omega)
  have hgl : g < W3.heap.size := by have := K2.out.a.lt; omega
  refine (put_yes (h' := wkH2) (ws' := wk2) K3.out.a wkH1 (by decide) wk1_64 wkB 2 _ (hl.rowStay hgl) (w64_lits (by decide)) (by simp [wkB]) wk_put2 rfl rfl 6 (by rw [wk_top2]; rfl)).mono ?_
  rintro e w5 ⟨rfl, hA5, hT5⟩
  have K4 := Lib.hid (K3.out.put hA5 hT5)
  clear x0 x1 y0 y1 y2 y3 f0 f1 f2 f3 n0 n1
  clear K2 K3 hE4 b4 hl hgl hA5 hT5
  obtain ⟨x0, x1⟩ := cells2 K4.out.two
  obtain ⟨y0, y1, y2, y3⟩ := cells4 K4.out.hp
  have f0 := free_at K4.out.hp (i := 0)
  have f1 := free_at K4.out.hp (i := 1)
  have f2 := free_at K4.out.hp (i := 2)
  have f3 := free_at K4.out.hp (i := 3)
  have n0 := (Array.getElem?_eq_some_iff.1 K4.out.two).1
  have n1 := (Array.getElem?_eq_some_iff.1 K4.out.hp).1
  go_upto_region 7 with fail
  refine wp_fill4 K4.out.hp fun W6 c6 hT6 hS6 => ?_
  clear hS6
  have K5 := Lib.hid (K4.out.fill (h' := wkH2) c6 hT6)
  clear x0 x1 y0 y1 y2 y3 f0 f1 f2 f3 n0 n1
  clear c6 hT6 K4
  obtain ⟨x0, x1⟩ := cells2 K5.out.two
  obtain ⟨y0, y1, y2, y3⟩ := cells4 K5.out.hp
  have f0 := free_at K5.out.hp (i := 0)
  have f1 := free_at K5.out.hp (i := 1)
  have f2 := free_at K5.out.hp (i := 2)
  have f3 := free_at K5.out.hp (i := 3)
  have n0 := (Array.getElem?_eq_some_iff.1 K5.out.two).1
  have n1 := (Array.getElem?_eq_some_iff.1 K5.out.hp).1
  go_wp2_with fail
  refine at_alloc1 fun W7 hE7 hS7 b7 => ?_
  clear hS7
  have K6 := Lib.hid (K5.out.ext hE7)
  have hl := lit_at (B := W6.heap.size) [2] b7 (by simp) (by omega)
  have hgl : g < W6.heap.size := by have := K5.out.a.lt; omega
  refine (put_nay K6.out.a wkH2 (by decide) wk2_64 wkN 1 _ (hl.rowStay hgl) (w64_lits (by decide)) (by simp [wkN]) wk_put3).mono ?_
  rintro e w8 ⟨rfl, hA8, hT8⟩
  have K7 := Lib.hid (K6.out.put hA8 hT8)
  clear x0 x1 y0 y1 y2 y3 f0 f1 f2 f3 n0 n1
  clear K5 K6 hE7 b7 hl hgl hA8 hT8
  obtain ⟨x0, x1⟩ := cells2 K7.out.two
  obtain ⟨y0, y1, y2, y3⟩ := cells4 K7.out.hp
  have f0 := free_at K7.out.hp (i := 0)
  have f1 := free_at K7.out.hp (i := 1)
  have f2 := free_at K7.out.hp (i := 2)
  have f3 := free_at K7.out.hp (i := 3)
  have n0 := (Array.getElem?_eq_some_iff.1 K7.out.two).1
  have n1 := (Array.getElem?_eq_some_iff.1 K7.out.hp).1
  go_wp2_with fail
  refine at_alloc1 fun W9 hE9 hS9 b9 => ?_
  clear hS9
  have K8 := Lib.hid (K7.out.ext hE9)
  refine (get_is K8.out.a wkH2 (by decide) wk2_64 (x := 6) (w64_lits (l := [6]) (by decide) 6 (by simp))).mono ?_
  rintro e w10 ⟨vo, rfl, hx10, _, hy⟩
  obtain ⟨qo, co, rfl, ho⟩ := hy (3, wkB) wk_get
  rw [show (getH wk2 (rigR 40) wkH2 6).isSome = true by rw [wk_get]; rfl]
  have K9 := Lib.hid (K8.out.ext hx10)
  have HO := Lib.hid (ho.mono (base' := W9.heap.size) (Nat.le_refl _))
  have HG8 := Lib.hid (show g < W9.heap.size from K8.out.a.lt.2.1)
  clear x0 x1 y0 y1 y2 y3 f0 f1 f2 f3 n0 n1
  clear K7 K8 hE9 hx10 hy ho
  obtain ⟨x0, x1⟩ := cells2 K9.out.two
  obtain ⟨y0, y1, y2, y3⟩ := cells4 K9.out.hp
  have f0 := free_at K9.out.hp (i := 0)
  have f1 := free_at K9.out.hp (i := 1)
  have f2 := free_at K9.out.hp (i := 2)
  have f3 := free_at K9.out.hp (i := 3)
  have n0 := (Array.getElem?_eq_some_iff.1 K9.out.two).1
  have n1 := (Array.getElem?_eq_some_iff.1 K9.out.hp).1
  go_wp2_with fail
  refine at_alloc1 fun W11 hE11 hS11 b11 => ?_
  clear hS11
  have K10 := Lib.hid (K9.out.ext hE11)
  have hg10 : g < w10.heap.size := by have := K9.out.a.lt; omega
  refine (oset_is K10.out.a wkH2 (by decide) wk2_64 (x := 6) (v := 6) (i := 1) (w64_lits (l := [6]) (by decide) 6 (by simp)) (w64_lits (l := [6]) (by decide) 6 (by simp)) (by decide)).mono ?_
  rintro e w12 ⟨rfl, hA12, hT12⟩
  rw [wk_set]
  have K11 := Lib.hid (show Wk w1 w12 p g bm t0 t1 q 50 wk3 (rigR 40) wkH2 from K10.out.put hA12 hT12)
  have B11 := Lib.hid (show w12.heap[w10.heap.size]? = some (.cells #[.int .i64 1, .int .i64 1, .slice qo 2 co, .string ⟨#[]⟩] 28 (0, 0)) from hT12.keep b11 (by omega))
  have HO2 := Lib.hid (show OwnP w12 W9.heap.size 29 (.slice qo 2 co) 1 ([0, 3].map wordC) from (HO.out.ext hE11).turn hT12 (fun b hb hm => by
    have := (HO.out.own b hb).1
    have h8 := HG8.out
    rw [List.mem_singleton.1 hm] at this
    omega))
  clear x0 x1 y0 y1 y2 y3 f0 f1 f2 f3 n0 n1
  generalize hn2 : w10.heap.size = t2 at *
  clear K9 K10 hE11 b11 hA12 hT12 hg10 HO hn2 HG8
  obtain ⟨x0, x1⟩ := cells2 K11.out.two
  obtain ⟨y0, y1, y2, y3⟩ := cells4 K11.out.hp
  have f0 := free_at K11.out.hp (i := 0)
  have f1 := free_at K11.out.hp (i := 1)
  have f2 := free_at K11.out.hp (i := 2)
  have f3 := free_at K11.out.hp (i := 3)
  have n0 := (Array.getElem?_eq_some_iff.1 K11.out.two).1
  have n1 := (Array.getElem?_eq_some_iff.1 K11.out.hp).1
  go_wp2_with fail
  refine (oall_is K11.out.a wkH2 (by decide) wk3_64).mono ?_
  rintro e w13 ⟨ql, ll, cl, rfl, hx13, _, hl⟩
  obtain ⟨L3, hL3⟩ : ∃ L, allH wk3 (rigR 40) wkH2 = some L ∧ L.map (fun y => y.1) = [0, 3] := by
    have := wk_all3
    cases h : allH wk3 (rigR 40) wkH2 with
    | none => rw [h] at this; cases this
    | some L => rw [h] at this; exact ⟨L, rfl, by simpa using this⟩
  obtain ⟨rfl, hO13⟩ := hl L3 hL3.1
  rw [show (allH wk3 (rigR 40) wkH2).isSome = true by rw [hL3.1]; rfl]
  have hlen : L3.length = 2 := by have := congrArg List.length hL3.2; simpa using this
  have hpl : L3.map (plC (firstN wkH2)) = [0, 3].map numC := by
    have h3 : L3.map (plC (firstN wkH2)) = (L3.map (fun y => y.1)).map (fun k => [Value.int .i64 ((firstN wkH2 + k : Nat) : Int)]) := by rw [List.map_map]; rfl
    rw [h3, hL3.2]
    rfl
  rw [hpl, hlen] at hO13
  rw [hlen]
  have K12 := Lib.hid (K11.out.ext hx13)
  have HO3 := Lib.hid (HO2.out.ext hx13)
  have B12 := Lib.hid ((Below.block hx13 _ (Array.getElem?_eq_some_iff.1 B11.out).1).trans B11.out)
  have HN := Lib.hid hO13
  clear x0 x1 y0 y1 y2 y3 f0 f1 f2 f3 n0 n1
  clear K11 hx13 hl hL3 hO13 hlen hpl HO2 B11
  obtain ⟨x0, x1⟩ := cells2 K12.out.two
  obtain ⟨y0, y1, y2, y3⟩ := cells4 K12.out.hp
  have f0 := free_at K12.out.hp (i := 0)
  have f1 := free_at K12.out.hp (i := 1)
  have f2 := free_at K12.out.hp (i := 2)
  have f3 := free_at K12.out.hp (i := 3)
  have n0 := (Array.getElem?_eq_some_iff.1 K12.out.two).1
  have n1 := (Array.getElem?_eq_some_iff.1 K12.out.hp).1
  go_wp2_with fail
  refine at_alloc1 fun W14 hE14 hS14 b14 => ?_
  clear hS14
  refine (head_yes 1 1 2 2 _ ⟨#[]⟩ W14 (by omega) (by decide)).mono ?_
  rintro e w15 ⟨rfl, hx15⟩
  have HX15 := hE14.trans hx15
  have K13 := Lib.hid (K12.out.ext HX15)
  have HO4 := Lib.hid (HO3.out.ext HX15)
  have HN4 := Lib.hid (HN.out.ext HX15)
  have B13 := Lib.hid ((Below.block HX15 _ (Array.getElem?_eq_some_iff.1 B12.out).1).trans B12.out)
  clear x0 x1 y0 y1 y2 y3 f0 f1 f2 f3 n0 n1
  clear K12 hx15 hE14 HX15 HO3 HN B12 b14
  rw [show headK 1 1 2 (⟨#[]⟩ : ByteArray).size = 8589934849 by decide]
  have htop : wkH2.top = 6 := by rw [wk_H2]
  obtain ⟨x0, x1⟩ := cells2 K13.out.two
  obtain ⟨y0, y1, y2, y3⟩ := cells4 K13.out.hp
  rw [htop] at y3
  obtain ⟨z0, z1, z2, z3⟩ := cells4 B13.out
  have n0 := (Array.getElem?_eq_some_iff.1 K13.out.two).1
  have n1 := (Array.getElem?_eq_some_iff.1 K13.out.hp).1
  have HTP := Lib.hid htop
  clear htop
  go_wp2_with fail
  refine at_alloc1 fun W16 hE16 hS16 b16 => ?_
  clear hS16
  refine (keep_object (WordSl.of_rows (HO4.out.ext hE16).p) (WordSl.of_rows (lit_at (B := 0) [0, 3] b16 (by simp) (by omega)).p)).mono ?_
  rintro e w17 ⟨rfl, hx17⟩
  rw [show decide ((1 : Int) = 1 ∧ (1 : Int) = 1 ∧ (⟨#[]⟩ : ByteArray) = ⟨#[]⟩ ∧ ([0, 3] : List Int) = [0, 3]) = true by simp]
  have HX17 := hE16.trans hx17
  have K14 := Lib.hid (K13.out.ext HX17)
  have HN5 := Lib.hid (HN4.out.ext HX17)
  clear x0 x1 y0 y1 y2 y3 z0 z1 z2 z3 n0 n1 K13 hx17 hE16 HX17 HO4 HN4 b16 B13
  obtain ⟨x0, x1⟩ := cells2 K14.out.two
  obtain ⟨y0, y1, y2, y3⟩ := cells4 K14.out.hp
  have n0 := (Array.getElem?_eq_some_iff.1 K14.out.two).1
  have n1 := (Array.getElem?_eq_some_iff.1 K14.out.hp).1
  go_wp2_with fail
  refine at_alloc1 fun W18 hE18 hS18 b18 => ?_
  clear hS18
  have hlit : NumSl W18 (.slice (some ⟨w17.heap.size, 0, none⟩) 2 2) [0, 3] := ⟨_, 2, rfl, by simp, by unfold maxLen; omega, fun i x hx => ⟨w17.heap.size, 0, rfl, by
    match i, hx with
    | 0, hx => cases hx; exact (cells2 b18).1
    | 1, hx => cases hx; exact (cells2 b18).2
    | i + 2, hx => simp at hx⟩⟩
  refine (keep_ints (NumSl.of_rows (HN5.out.ext hE18).p) hlit).mono ?_
  rintro e w19 ⟨rfl, hx19⟩
  rw [show decide (([0, 3] : List Int) = [0, 3]) = true by simp]
  have HX19 := hE18.trans hx19
  have K15 := Lib.hid (K14.out.ext HX19)
  clear x0 x1 y0 y1 y2 y3 n0 n1 K14 hx19 hE18 HX19 HN5 b18 hlit
  obtain ⟨x0, x1⟩ := cells2 K15.out.two
  obtain ⟨y0, y1, y2, y3⟩ := cells4 K15.out.hp
  have n0 := (Array.getElem?_eq_some_iff.1 K15.out.two).1
  have n1 := (Array.getElem?_eq_some_iff.1 K15.out.hp).1
  go_wp2_with fail
  refine (good_is K15.out.a wkH2 (by decide) wk3_64).mono ?_
  rintro e w20 ⟨rfl, hx20⟩
  rw [show (allH wk3 (rigR 40) wkH2).isSome = true by
    have := wk_all3
    cases h : allH wk3 (rigR 40) wkH2 with
    | none => rw [h] at this; cases this
    | some L => rfl]
  have K16 := Lib.hid (K15.out.ext hx20)
  clear x0 x1 y0 y1 y2 y3 n0 n1 K15 hx20
  go_wp2_with fail
  refine (owords_yes 3 0 0 0 none ⟨#[]⟩ _ (by omega) (by decide)).mono ?_
  rintro e w21 ⟨rfl, hx21⟩
  rw [show ((1 + bodyK 3 0 (⟨#[]⟩ : ByteArray).size : Nat) : Int) = 1 by decide]
  have K17 := Lib.hid (K16.out.ext hx21)
  clear K16 hx21
  go_wp2
  go_ret
  refine ⟨by first | rfl | trivial | simp, ?_⟩
  have hge := HB.out.ge.2.1
  have hsz := HB.out.ext.size
  have hlt := K17.out.lt
  exact (Ext.alloc _ _).trans (Turn.after HB.out.ext K17.out.t (by
    intro b hb
    have h1 := HT1.out
    have h0 := HT0.out
    simp only [List.mem_cons, List.not_mem_nil, or_false] at hb
    rcases hb with rfl | rfl <;> omega))
end Go.Proofs.Ytlffmcadchbheaa
/- A row of rows among the arguments: general. -/
namespace Go.Proofs.Ytlffmcadchbheaa
open Go Go.ChangeShapes Go.WideShapes Go.ChangeAt Go.RowKit Go.Deep
set_option maxHeartbeats 4000000
set_option maxRecDepth 100000
theorem flat_inv {s : Nat} (hs : 1 ≤ s) : ∀ (l : List (List Value)), (∀ cs ∈ l, cs.length = s) → ∀ (j : Nat) (u : Value), l.flatten[j]? = some u → ∃ i f cs, j = i * s + f ∧ l[i]? = some cs ∧ cs[f]? = some u
  | [], _, j, u, h => by simp at h
  | c :: l, hl, j, u, h => by
    have hc := hl c (.head _)
    rw [List.flatten_cons] at h
    by_cases hj : j < s
    · rw [List.getElem?_append_left (by omega)] at h
      exact ⟨0, j, c, by omega, rfl, h⟩
    · rw [List.getElem?_append_right (by omega), hc] at h
      obtain ⟨i, f, cs, h1, h2, h3⟩ := flat_inv hs l (fun cs hm => hl cs (.tail _ hm)) (j - s) u h
      exact ⟨i + 1, f, cs, by rw [Nat.add_mul]; omega, h2, h3⟩
theorem rows_p {w : World} {v : Value} {s : Nat} {l : List (List Value)} (hs : 1 ≤ s) (h : RowsSl w v s l) (h1 : Rows1 s l) (hn : l ≠ []) : RowsP w v s l := by
  obtain ⟨q, c, rfl, h2, h3, h4⟩ := h
  refine ⟨h1, .inr ?_⟩
  obtain ⟨cs0, hcs0⟩ : ∃ cs, l[0]? = some cs := by cases l with | nil => exact absurd rfl hn | cons a l => exact ⟨a, rfl⟩
  obtain ⟨_, b, off, rfl, _⟩ := h4 0 cs0 hcs0
  refine ⟨b, off, c, rfl, h2, h3, fun j u hu => ?_⟩
  obtain ⟨i, f, cs, rfl, hi, hf⟩ := flat_inv hs l (fun cs hm => (h1 cs hm).1) j u hu
  obtain ⟨_, b', off', e, hc⟩ := h4 i cs hi
  obtain ⟨rfl, rfl, _⟩ := Addr.mk.inj (Option.some.inj e)
  rw [← Nat.add_assoc]
  exact hc f u hf
/-- one cell that reads as a slice -/
theorem rows_cell {H : Type} {enc : TypeId × Value → H} {P : Program} {w : World} {t e : TypeId} {s : Nat} {cs : List Value} (ht : P.underlying t = some (.slice e)) (hs : P.cellsOf e = s) (h1 : 1 ≤ s)
    (h : ReadsAs enc P w t cs) : ∃ v l, cs = [v] ∧ RowsSl w v s l ∧ (l = [] → EmptyV v) ∧ ∀ cs ∈ l, ReadsAs enc P w e cs := by
  obtain ⟨fuel, x, hf⟩ := h
  rcases open_slice ht hf with ⟨hcs, _⟩ | ⟨a, len, cap, m, n, D, Pl, hcs, _, hlc, hcm, hm, _, hel⟩
  · exact ⟨_, [], hcs, ⟨none, 0, rfl, Nat.le_refl _, Nat.zero_le _, fun i cs h => by simp at h⟩, fun _ => .inl rfl, fun cs h => by cases h⟩
  · simp only [if_true] at hm
    rw [hs] at hel
    rw [hm] at hel
    obtain ⟨V, hV⟩ := choose_lt (n := cap) (p := fun i cs => w.cells? 0 (a.add (i * s)) s = some cs ∧ DataW.trod enc P w 0 (fun _ => true) true n e cs = some (D i, Pl i)) (fun i hi => hel i hi)
    have hl : ((List.range len).map V).length = len := by simp
    refine ⟨_, (List.range len).map V, hcs, ⟨some a, cap, by rw [hl], by rw [hl]; exact hlc, hcm, fun i cs hi => ?_⟩, fun he => ?_, fun cs hcs => ?_⟩
    · have hil : i < len := by have := (List.getElem?_eq_some_iff.1 hi).1; simpa using this
      have hcs : V i = cs := by simpa [hil] using hi
      subst hcs
      obtain ⟨_, hlen, hcell⟩ := World.cells?_some (hV i (by omega)).1
      obtain ⟨_, hlen0, hcell0⟩ := World.cells?_some (hV 0 (by omega)).1
      have hc0 := hcell0 0 (by omega)
      rw [List.getElem?_eq_getElem (by omega : 0 < (V 0).length), Go.Deep.add_add] at hc0
      obtain ⟨b, off, spot⟩ := a
      have hspot : spot = none := by simpa [Addr.add] using World.cell?_spot hc0
      subst hspot
      refine ⟨hlen, b, off, rfl, fun f u hu => ?_⟩
      have hfl : f < s := by rw [← hlen]; exact (List.getElem?_eq_some_iff.1 hu).1
      have := hcell f hfl
      rw [Go.Deep.add_add, add_plain, hu] at this
      rw [Nat.add_assoc]
      exact this
    · have h0 : len = 0 := by have := congrArg List.length he; simpa using this
      subst h0
      exact .inr ⟨a, cap, rfl, hcm⟩
    · obtain ⟨i, hi, rfl⟩ := List.mem_map.1 hcs
      have hil := List.mem_range.1 hi
      exact ⟨n, _, (hV i (by omega)).2⟩
/-- rows whose cells are all of a form -/
theorem choose_form {α : Type} [Inhabited α] (f : α → List Value) : ∀ (l : List (List Value)), (∀ cs ∈ l, ∃ x, cs = f x) → ∃ M : List α, l = M.map f
  | [], _ => ⟨[], rfl⟩
  | c :: l, h => by
    obtain ⟨x, rfl⟩ := h c (.head _)
    obtain ⟨M, rfl⟩ := choose_form f l (fun cs hm => h cs (.tail _ hm))
    exact ⟨x :: M, rfl⟩
end Go.Proofs.Ytlffmcadchbheaa
/- Objects, rows of words, heaps, steps among the arguments, as a walk wants them. -/
namespace Go.Proofs.Ytlffmcadchbheaa
open Go Go.ChangeShapes Go.WideShapes Go.ChangeAt Go.RowKit Go.Deep Arena
set_option maxHeartbeats 4000000
set_option maxRecDepth 100000
theorem w64_of_wf {x : Int} (h : (Lit.int .u64 x).wf = true) : W64 x := by
  have h3 : IntKind.u64.min ≤ x ∧ x ≤ IntKind.u64.max := by simpa [Lit.wf] using h
  have e1 : IntKind.u64.min = 0 := by decide
  have e2 : IntKind.u64.max = 18446744073709551615 := by decide
  unfold W64
  omega
theorem word_reads {H : Type} {enc : TypeId × Value → H} {w : World} {cs : List Value} (h : ReadsAs enc Try.prog w 29 cs) : ∃ x : {x : Int // W64 x}, cs = wordC x.1 := by
  obtain ⟨n, y, h⟩ := h
  obtain ⟨a, rfl, _, hw⟩ := DataW.trod_int Try.underlying29 h
  exact ⟨⟨a, w64_of_wf hw⟩, rfl⟩
instance : Inhabited {x : Int // W64 x} := ⟨⟨0, w64_zero⟩⟩
/-- a slice of words that came in -/
def WdsP (w : World) (v : Value) (l : List Int) : Prop := RowsP w v 1 (l.map wordC) ∧ ∀ x ∈ l, W64 x
theorem WdsP.ext {w w' : World} {v : Value} {l : List Int} (h : WdsP w v l) (e : Ext w w') : WdsP w' v l := ⟨h.1.ext e, h.2⟩
theorem words_reads {H : Type} {enc : TypeId × Value → H} {w : World} {cs : List Value} (h : ReadsAs enc Try.prog w 22 cs) : ∃ v l, cs = [v] ∧ WdsP w v l := by
  obtain ⟨v, l, rfl, hr, he, hl⟩ := rows_cell Try.underlying22 (show Try.prog.cellsOf 29 = 1 by kernel_rfl) (by omega) h
  obtain ⟨M, rfl⟩ := choose_form (fun x : {x : Int // W64 x} => wordC x.1) l (fun cs hm => word_reads (hl cs hm))
  refine ⟨v, M.map (·.1), rfl, ?_, fun x hx => ?_⟩
  · rw [List.map_map]
    cases M with
    | nil => exact ⟨Rows1.nil 1, .inl ⟨he rfl, rfl⟩⟩
    | cons x M => exact rows_p (by omega) hr (fun cs hm => by obtain ⟨y, _, rfl⟩ := List.mem_map.1 hm; exact ⟨rfl, fun u hu => by rw [List.mem_singleton.1 hu]; rfl⟩) (by simp)
  · obtain ⟨y, _, rfl⟩ := List.mem_map.1 hx
    exact y.2
theorem open_words {H : Type} {enc : TypeId × Value → H} {W : World} {v : Value} {d : DataW H} {ps : List MemPlace} {base : Nat} (hval : Value.okWide Try.prog W .any base 22 v) (h : DataW.Trod enc Try.prog W 0 (fun _ => true) true 22 v d ps) : ∃ l, WdsP W v l := by
  obtain ⟨a0, len, cap, rfl⟩ := okWide_slice Try.underlying22 hval
  obtain ⟨fuel, hf⟩ := h
  obtain ⟨v', l, e, hp⟩ := words_reads ⟨fuel, _, hf⟩
  obtain rfl : v' = _ := (List.cons.inj e).1.symm
  exact ⟨l, hp⟩
/-- an object that came in -/
structure ObI where
  o : Ob
  v : Value
def obiC (x : ObI) : List Value := [.int .i64 x.o.kind, .int .i64 x.o.tag, x.v, .string x.o.text]
structure ObiP (w : World) (x : ObI) : Prop where
  p : WdsP w x.v x.o.fields
  text : x.o.text.size ≤ maxLen
  kind : (Lit.int .i64 x.o.kind).wf = true
  tag : (Lit.int .i64 x.o.tag).wf = true
theorem ObiP.ext {w w' : World} {x : ObI} (h : ObiP w x) (e : Ext w w') : ObiP w' x := ⟨h.p.ext e, h.text, h.kind, h.tag⟩
theorem obj_reads {H : Type} {enc : TypeId × Value → H} {w : World} {cs : List Value} (h : ReadsAs enc Try.prog w 28 cs) : ∃ x, cs = obiC x ∧ ObiP w x := by
  obtain ⟨n, y, h⟩ := h
  obtain ⟨xs, k, rfl, _, hlen, hxl, hf⟩ := DataW.trod_struct Try.underlying28 h
  have hc : Try.prog.cellsOf 28 = 4 := by kernel_rfl
  rw [hc] at hlen
  match cs, hlen, xs, hxl with
  | [v0, v1, v2, v3], _, [y0, y1, y2, y3], _ =>
    have g0 := hf 0 _ rfl
    have g1 := hf 1 _ rfl
    have g2 := hf 2 _ rfl
    have g3 := hf 3 _ rfl
    have ci : Try.prog.cellsOf 3 = 1 := by kernel_rfl
    have ci6 : Try.prog.cellsOf 22 = 1 := by kernel_rfl
    have cs1 : Try.prog.cellsOf 9 = 1 := by kernel_rfl
    simp [ci, ci6, cs1] at g0 g1 g2 g3
    obtain ⟨a0, e0, _, w0⟩ := DataW.trod_int Try.underlying3 g0
    obtain ⟨a1, e1, _, w1⟩ := DataW.trod_int Try.underlying3 g1
    obtain ⟨v, l, e2, hp⟩ := words_reads ⟨_, _, g2⟩
    obtain ⟨a3, e3, _, w3⟩ := DataW.trod_string Try.underlying9 g3
    simp at e0 e1 e2 e3
    subst e0; subst e1; subst e2; subst e3
    exact ⟨⟨⟨a0, a1, l, a3⟩, v2⟩, rfl, hp, by first | exact w3 | simpa [Lit.wf] using w3, w0, w1⟩
theorem open_obj {H : Type} {enc : TypeId × Value → H} {W : World} {v : Value} {d : DataW H} {ps : List MemPlace} {base : Nat} (hval : Value.okWide Try.prog W .any base 28 v) (h : DataW.Trod enc Try.prog W 0 (fun _ => true) true 28 v d ps) : ∃ x, v = .agg (obiC x).toArray ∧ ObiP W x := by
  obtain ⟨cs, rfl, _⟩ := okWide_struct Try.underlying28 hval
  obtain ⟨fuel, hf⟩ := h
  obtain ⟨x, e, hp⟩ := obj_reads ⟨fuel, _, hf⟩
  refine ⟨x, ?_, hp⟩
  rw [← e]
  rfl
/-- objects that came in, side by side -/
def ObsP (w : World) (v : Value) (L : List ObI) : Prop := RowsSl w v 4 (L.map obiC) ∧ ∀ x ∈ L, ObiP w x
theorem ObsP.ext {w w' : World} {v : Value} {L : List ObI} (h : ObsP w v L) (e : Ext w w') : ObsP w' v L := ⟨h.1.ext e, fun x hx => (h.2 x hx).ext e⟩
theorem choose_with {α : Type} (p : α → Prop) (f : α → List Value) : ∀ (l : List (List Value)), (∀ cs ∈ l, ∃ x, cs = f x ∧ p x) → ∃ M : List α, l = M.map f ∧ ∀ x ∈ M, p x
  | [], _ => ⟨[], rfl, fun x h => by cases h⟩
  | c :: l, h => by
    obtain ⟨x, rfl, hx⟩ := h c (.head _)
    obtain ⟨M, rfl, hM⟩ := choose_with p f l (fun cs hm => h cs (.tail _ hm))
    exact ⟨x :: M, rfl, fun y hy => by rcases List.mem_cons.1 hy with rfl | hy; exact hx; exact hM y hy⟩
theorem open_objs {H : Type} {enc : TypeId × Value → H} {W : World} {v : Value} {d : DataW H} {ps : List MemPlace} {base : Nat} (hval : Value.okWide Try.prog W .any base 71 v) (h : DataW.Trod enc Try.prog W 0 (fun _ => true) true 71 v d ps) : ∃ L, ObsP W v L := by
  obtain ⟨l, hr, hl⟩ := open_rows Try.underlying71 (show Try.prog.cellsOf 28 = 4 by kernel_rfl) (by omega) hval h
  obtain ⟨M, rfl, hM⟩ := choose_with (ObiP W) obiC l (fun cs hm => obj_reads (hl cs hm))
  exact ⟨M, hr, hM⟩
/-- a region's words and a heap that came in -/
structure RawI where
  v : Value
  l : List Int
  h : Hp
def rawC (x : RawI) : List Value := [x.v, .int .i64 x.h.base, .int .i64 x.h.half, .int .i64 x.h.space, .int .i64 x.h.top]
structure HpWf (h : Hp) : Prop where
  half : (Lit.int .i64 h.half).wf = true
  space : (Lit.int .i64 h.space).wf = true
  top : (Lit.int .i64 h.top).wf = true
structure RawP (w : World) (x : RawI) : Prop where
  p : WdsP w x.v x.l
  h : HpWf x.h
theorem open_raw {H : Type} {enc : TypeId × Value → H} {W : World} {v : Value} {d : DataW H} {ps : List MemPlace} {base : Nat} (hval : Value.okWide Try.prog W .any base 26 v) (h : DataW.Trod enc Try.prog W 0 (fun _ => true) true 26 v d ps) : ∃ x, v = .agg (rawC x).toArray ∧ RawP W x := by
  obtain ⟨cs, rfl, _⟩ := okWide_struct Try.underlying26 hval
  obtain ⟨fuel, hf⟩ := h
  obtain ⟨xs, k, _, _, hlen, hxl, hf⟩ := DataW.trod_struct Try.underlying26 hf
  have hc : Try.prog.cellsOf 26 = 5 := by kernel_rfl
  rw [hc] at hlen
  obtain ⟨cs⟩ := cs
  simp only [Value.cells] at hlen hf
  match cs, hlen, xs, hxl with
  | [v0, v1, v2, v3, v4], _, [y0, y1], _ =>
    have g0 := hf 0 _ rfl
    have g1 := hf 1 _ rfl
    have ci : Try.prog.cellsOf 22 = 1 := by kernel_rfl
    have ch : Try.prog.cellsOf 24 = 4 := by kernel_rfl
    simp [ci, ch] at g0 g1
    obtain ⟨v, l, e0, hp⟩ := words_reads ⟨_, _, g0⟩
    simp at e0
    subst e0
    obtain ⟨zs, m, _, _, _, hzl, hg⟩ := DataW.trod_struct Try.underlying24 g1
    match zs, hzl with
    | [z0, z1, z2, z3], _ =>
      have k0 := hg 0 _ rfl
      have k1 := hg 1 _ rfl
      have k2 := hg 2 _ rfl
      have k3 := hg 3 _ rfl
      have cn : Try.prog.cellsOf 3 = 1 := by kernel_rfl
      simp [cn] at k0 k1 k2 k3
      obtain ⟨a0, e0, _, w0⟩ := DataW.trod_int Try.underlying3 k0
      obtain ⟨a1, e1, _, w1⟩ := DataW.trod_int Try.underlying3 k1
      obtain ⟨a2, e2, _, w2⟩ := DataW.trod_int Try.underlying3 k2
      obtain ⟨a3, e3, _, w3⟩ := DataW.trod_int Try.underlying3 k3
      simp at e0 e1 e2 e3
      subst e0; subst e1; subst e2; subst e3
      exact ⟨⟨v0, l, ⟨a0, a1, a2, a3⟩⟩, rfl, hp, w1, w2, w3⟩
end Go.Proofs.Ytlffmcadchbheaa
/- Objects that are put, fields that are set: what a heap's objects are then. Plain. -/
namespace Go.Proofs.Ytlffmcadchbheaa
open Go.RowKit Go.Maps Arena
set_option maxRecDepth 100000
theorem pk_digit : ∀ (A : List UInt8) (j : Nat), pk A / 256 ^ j % 256 = (A[j]?.map UInt8.toNat).getD 0
  | [], j => by simp [pk]
  | b :: A, 0 => by
    have := b.toNat_lt
    simp only [pk, Nat.pow_zero, Nat.div_one, List.getElem?_cons_zero, Option.map_some, Option.getD_some]
    omega
  | b :: A, j + 1 => by
    have := b.toNat_lt
    rw [List.getElem?_cons_succ, ← pk_digit A j, pk, Nat.pow_succ, Nat.mul_comm (256 ^ j) 256, ← Nat.div_div_eq_div_mul]
    congr 2
    omega
theorem bytes8_pk {A : List UInt8} (h : A.length ≤ 8) : bytes8 (pk A : Int) = A ++ List.replicate (8 - A.length) 0 := by
  apply List.ext_getElem?
  intro j
  unfold bytes8
  rw [List.getElem?_map, Int.toNat_natCast]
  by_cases hj : j < 8
  · rw [List.getElem?_range hj]
    simp only [Option.map_some]
    rw [pk_digit]
    by_cases hA : j < A.length
    · rw [List.getElem?_append_left hA, List.getElem?_eq_getElem hA]
      simp
    · rw [List.getElem?_append_right (by omega), List.getElem?_replicate, if_pos (by omega), List.getElem?_eq_none (by omega)]
      rfl
  · rw [List.getElem?_eq_none (by simp; omega), List.getElem?_eq_none (by simp; omega)]
    rfl
/-- a text's words hold its bytes, and 0 behind them -/
theorem bytes_pieces : ∀ (n : Nat) (l : List UInt8), l.length ≤ n → ∃ z, bytesOf (pieces l) = l ++ z ∧ z.all (· == 0) = true := by
  intro n
  induction n with
  | zero =>
    intro l h
    obtain rfl := List.eq_nil_of_length_eq_zero (Nat.le_zero.1 h)
    exact ⟨[], rfl, rfl⟩
  | succ n ih =>
    intro l h
    by_cases h0 : l.length = 0
    · obtain rfl := List.eq_nil_of_length_eq_zero h0
      exact ⟨[], rfl, rfl⟩
    · by_cases h8 : l.length ≤ 8
      · rw [pieces_short (by omega) h8, bytesOf_cons, bytes8_pk h8]
        exact ⟨List.replicate (8 - l.length) 0, by simp [bytesOf], by simp⟩
      · obtain ⟨z, hz, hz0⟩ := ih (l.drop 8) (by rw [List.length_drop]; omega)
        have ht : (l.take 8).length = 8 := by rw [List.length_take]; omega
        refine ⟨z, ?_, hz0⟩
        have h8e : pieces l = (pk (l.take 8) : Int) :: pieces (l.drop 8) := by
          have := pieces_cons (l := l.drop 8) ht
          rw [List.take_append_drop] at this
          exact this
        rw [h8e, bytesOf_cons, bytes8_pk (by omega), hz, ht]
        simp only [Nat.sub_self, List.replicate_zero, List.append_nil]
        rw [← List.append_assoc, List.take_append_drop]
theorem layO_len {o : Ob} (hm : mayO o = true) : (layO o).length = wordsO o := by
  have := body_len hm; unfold layO; rw [List.length_cons]; omega
theorem ob_text {kd tg : Int} {F : List Int} {t : ByteArray} (hm : mayK kd tg F.length t.size = true) (h : kd ≠ 2) : t = ByteArray.empty := by
  have h0 : t.size = 0 := by
    rcases mayK_cases hm with ⟨_, h⟩ | ⟨h1, _⟩ | ⟨_, h⟩ | ⟨_, h⟩
    · exact h.2.2.2.2
    · exact absurd h1 h
    · exact h.2.2
    · exact h.2.2.2
  obtain ⟨⟨l⟩⟩ := t
  cases l with
  | nil => rfl
  | cons a l => simp [ByteArray.size] at h0
/-- what is laid is read -/
theorem readS_lay {o : Ob} (hm : mayO o = true) (T : List Int) : readS (layO o ++ T) = some o := by
  have hbl := body_len hm
  have hmk := hm
  unfold mayO at hmk
  obtain ⟨b1, b2, b3, b4, b5, b6, b7, b8⟩ := mayK_bounds hmk
  have d1 : headO o % 256 = o.kind := by unfold headO headK; omega
  have d2 : headO o / 256 % 16777216 = o.tag := by unfold headO headK; omega
  have d3 : (headO o / 4294967296).toNat = sizeK o.kind o.fields.length o.text.size := by unfold headO headK; omega
  have hbd : bodyK o.kind (sizeK o.kind o.fields.length o.text.size) (sizeK o.kind o.fields.length o.text.size) = (bodyO o).length := by
    unfold wordsO at hbl
    have : bodyK o.kind (sizeK o.kind o.fields.length o.text.size) (sizeK o.kind o.fields.length o.text.size) = bodyK o.kind o.fields.length o.text.size := by
      unfold bodyK sizeK
      by_cases h2 : o.kind = 2
      · rw [if_pos h2, if_pos h2, if_pos h2]
      · rw [if_neg h2, if_neg h2, if_neg h2]
    omega
  unfold layO
  rw [List.cons_append]
  unfold readS
  simp only [d1, d2, d3, hbd]
  rw [if_pos ⟨b1, b2, b7, by rw [List.length_append]; omega⟩]
  rw [List.take_append_of_le_length (Nat.le_refl _), List.take_length]
  obtain ⟨kd, tg, F, t⟩ := o
  dsimp only at *
  by_cases h2 : kd = 2
  · subst h2
    have hF : F = [] := by
      rcases mayK_cases hmk with ⟨h1, _⟩ | ⟨_, _, h, _⟩ | ⟨h1, _⟩ | ⟨h1, _⟩
      · omega
      · exact List.eq_nil_of_length_eq_zero h
      · omega
      · omega
    subst hF
    have hb : bodyO ⟨2, tg, [], t⟩ = pieces t.data.toList := rfl
    have hs : sizeK 2 ([] : List Int).length t.size = t.size := rfl
    obtain ⟨z, hz, hz0⟩ := bytes_pieces _ t.data.toList (Nat.le_refl _)
    rw [if_pos rfl, hb, hs, hz]
    have htl : t.data.toList.length = t.size := by rw [Array.length_toList]; rfl
    rw [List.drop_append_of_le_length (by omega), List.drop_eq_nil_of_le (by omega), List.nil_append, List.take_append_of_le_length (by omega), List.take_of_length_le (by omega)]
    have ho : (⟨2, tg, [], ⟨t.data.toList.toArray⟩⟩ : Ob) = ⟨2, tg, [], t⟩ := by obtain ⟨⟨l⟩⟩ := t; rfl
    rw [if_pos ⟨fun _ => hz0, by rw [ho]; exact hm⟩, ho]
  · have hb : bodyO ⟨kd, tg, F, t⟩ = F := if_neg h2
    have ht := ob_text hmk h2
    subst ht
    rw [if_neg h2, hb, if_pos ⟨fun h => absurd h h2, hm⟩]
theorem readS_app {S : List Int} {o : Ob} (h : readS S = some o) (T : List Int) : readS (S ++ T) = some o := by
  cases S with
  | nil => cases h
  | cons hd r =>
    rw [List.cons_append]
    unfold readS at h ⊢
    simp only at h ⊢
    split at h
    · rename_i hc
      obtain ⟨c1, c2, c3, c4⟩ := hc
      rw [if_pos ⟨c1, c2, c3, by rw [List.length_append]; omega⟩, List.take_append_of_le_length c4]
      exact h
    · cases h
theorem objs_app : ∀ (n : Nat) (S : List Int) (a : Nat) (L : List (Nat × Ob)) (T : List Int) (M : List (Nat × Ob)), S.length ≤ n → objs S a = some L → objs T (a + S.length) = some M → objs (S ++ T) a = some (L ++ M) := by
  intro n
  induction n with
  | zero =>
    intro S a L T M hn h hT
    obtain rfl := List.eq_nil_of_length_eq_zero (Nat.le_zero.1 hn)
    rw [objs_nil] at h
    obtain rfl := Option.some.inj h
    exact hT
  | succ n ih =>
    intro S a L T M hn h hT
    by_cases hS : S = []
    · subst hS
      rw [objs_nil] at h
      obtain rfl := Option.some.inj h
      exact hT
    · rw [objs_cons hS] at h
      cases hr : readS S with
      | none => rw [hr] at h; cases h
      | some o =>
        rw [hr] at h
        simp only at h
        cases hd : objs (S.drop (wordsO o)) (a + wordsO o) with
        | none => rw [hd] at h; cases h
        | some L' =>
          rw [hd] at h
          obtain rfl := Option.some.inj h
          obtain ⟨w1, w2, _⟩ := readS_words hr
          have hl : (S.drop (wordsO o)).length = S.length - wordsO o := List.length_drop
          have := ih (S.drop (wordsO o)) (a + wordsO o) L' T M (by omega) hd (by rw [show a + wordsO o + (S.drop (wordsO o)).length = a + S.length by omega]; exact hT)
          rw [objs_cons (by simp [hS]), readS_app hr]
          simp only
          rw [List.drop_append_of_le_length w1, this]
          rfl
theorem objs_one {o : Ob} (hm : mayO o = true) (a : Nat) : objs (layO o) a = some [(a, o)] := by
  have hl := layO_len hm
  have hr := readS_lay hm []
  rw [List.append_nil] at hr
  rw [objs_cons (by unfold layO; simp), hr]
  simp only
  rw [List.drop_eq_nil_of_le (by omega), objs_nil]
  rfl
theorem fieldOK_mono {P Q : List Nat} {first : Nat} {x : Int} (hs : ∀ a ∈ P, a ∈ Q) (h : fieldOK P first x = true) : fieldOK Q first x = true := by
  unfold fieldOK at h ⊢
  simp only [Bool.or_eq_true, Bool.and_eq_true, List.any_eq_true] at h ⊢
  rcases h with h | ⟨h1, a, h2, h3⟩
  · exact .inl h
  · exact .inr ⟨h1, a, hs a h2, h3⟩
theorem fieldsOK_app {first : Nat} {L : List (Nat × Ob)} {y : Nat × Ob} (h : fieldsOK first L = true) (hy : y.2.fields.all (fieldOK (L.map (·.1)) first) = true) : fieldsOK first (L ++ [y]) = true := by
  unfold fieldsOK at h ⊢
  rw [List.all_append, Bool.and_eq_true]
  have hs : ∀ a ∈ L.map (·.1), a ∈ (L ++ [y]).map (·.1) := fun a ha => by rw [List.map_append]; exact List.mem_append_left _ ha
  refine ⟨List.all_eq_true.2 fun x hx => List.all_eq_true.2 fun f hf => fieldOK_mono hs ?_, ?_⟩
  · exact List.all_eq_true.1 (List.all_eq_true.1 h x hx) f hf
  · simp only [List.all_cons, List.all_nil, Bool.and_true]
    exact List.all_eq_true.2 fun f hf => fieldOK_mono hs (List.all_eq_true.1 hy f hf)
theorem allS_put {first : Nat} {S : List Int} {L : List (Nat × Ob)} {o : Ob} (h : allS first S = some L) (hm : mayO o = true) (hF : o.fields.all (fieldOK (L.map (·.1)) first) = true) : allS first (S ++ layO o) = some (L ++ [(S.length, o)]) := by
  obtain ⟨h1, h2⟩ := allS_some h
  have h3 := objs_app S.length S 0 L (layO o) _ (Nat.le_refl _) h1 (objs_one hm _)
  unfold allS
  rw [h3]
  simp only
  rw [Nat.zero_add, if_pos (fieldsOK_app h2 hF)]
/-! ### the words of a region -/
theorem setMany_eq : ∀ (l V : List Int) (k : Nat), k + l.length ≤ V.length → setMany V k l = V.take k ++ (l ++ V.drop (k + l.length))
  | [], V, k, h => by simp [setMany]
  | x :: l, V, k, h => by
    rw [List.length_cons] at h
    rw [setMany, setMany_eq l (V.set k x) (k + 1) (by rw [List.length_set]; omega), List.length_cons, List.drop_set_of_lt (by omega), List.take_succ_eq_append_getElem (by rw [List.length_set]; omega), List.getElem_set_self, List.take_set_of_le (Nat.le_refl _), show k + 1 + l.length = k + (l.length + 1) by omega]
    simp
theorem wordsAt_set {n : Nat} {ws : List Int} {R : List (Nat × Nat)} (_hg : Arena.Good n R) (_hl : ws.length = n) {x v : Int} {a : Nat} (ha : a < lenAt R x) : wordsAt (setWs ws R x a v) R x = (wordsAt ws R x).set a v := by
  obtain ⟨r, hr, h1, h2⟩ := lenAt_some (show lenAt R x ≠ 0 by omega)
  unfold setWs within
  rw [decide_eq_true (show (0 : Int) ≤ a ∧ (a : Int) < lenAt R x by omega), if_pos rfl]
  unfold wordsAt
  rw [show (x + (a : Int)).toNat = x.toNat + a by omega, List.drop_set, if_neg (by omega), Nat.add_sub_cancel_left, List.take_set]
theorem wordsAt_run {n : Nat} {R : List (Nat × Nat)} (hg : Arena.Good n R) {x : Int} : ∀ (l ws : List Int) (k : Nat), ws.length = n → k + l.length ≤ lenAt R x → wordsAt (setRun ws R x k l) R x = setMany (wordsAt ws R x) k l
  | [], ws, k, _, _ => rfl
  | v :: l, ws, k, hl, h => by
    rw [List.length_cons] at h
    rw [setRun, wordsAt_run hg l _ (k + 1) (by rw [setWs_len]; exact hl) (by omega), wordsAt_set hg hl (by omega)]
    rfl
theorem semi_put {n : Nat} {ws : List Int} {R : List (Nat × Nat)} {h : Hp} {o : Ob} (hg : Arena.Good n R) (hl : ws.length = n) (ht : thereB R h = true) (hm : mayO o = true) (hfit : h.top + (wordsO o : Nat) ≤ h.half) : semi (putWs ws R h o) R (hpUp h o) = semi ws R h ++ layO o := by
  obtain ⟨hok, h2⟩ := thereB_ok ht
  have hf := firstN_is hok
  have hll := layO_len hm
  have hwl := wordsAt_len hg hl h.base
  obtain ⟨a1, a2, a3, a4, a5, a6⟩ := hok
  have hff : firstN (hpUp h o) = firstN h := rfl
  have htn : (hpUp h o).top.toNat = h.top.toNat + wordsO o := by unfold hpUp; dsimp only; omega
  unfold semi
  rw [hff, htn]
  show ((wordsAt (setRun ws R h.base (topN h) (layO o)) R h.base).drop (firstN h)).take _ = _
  rw [wordsAt_run hg _ _ _ hl (by unfold topN; omega), setMany_eq _ _ _ (by unfold topN; omega)]
  generalize wordsAt ws R h.base = V at hwl ⊢
  have e1 : (V.take (topN h) ++ (layO o ++ V.drop (topN h + (layO o).length))).drop (firstN h) = (V.drop (firstN h)).take h.top.toNat ++ (layO o ++ V.drop (topN h + (layO o).length)) := by
    unfold topN
    rw [List.drop_append_of_le_length (by rw [List.length_take]; omega), List.drop_take, Nat.add_sub_cancel_left]
  rw [e1, ← List.append_assoc, List.take_left' (by rw [List.length_append, List.length_take, List.length_drop]; omega)]
theorem thereB_up {R : List (Nat × Nat)} {h : Hp} {o : Ob} (ht : thereB R h = true) (hfit : h.top + (wordsO o : Nat) ≤ h.half) : thereB R (hpUp h o) = true := by
  obtain ⟨⟨a1, a2, a3, a4, a5, a6⟩, h2⟩ := thereB_ok ht
  unfold thereB hpUp
  simp only [Bool.and_eq_true, decide_eq_true_eq]
  exact ⟨⟨a1, a2, a3, a4, by dsimp only; omega, hfit⟩, h2⟩
theorem putB_some {ws : List Int} {R : List (Nat × Nat)} {h : Hp} {o : Ob} {L : List (Nat × Ob)} (ha : allH ws R h = some L) : putB ws R h o = (mayO o && decide (h.top + (wordsO o : Nat) ≤ h.half) && o.fields.all (fieldOK (L.map (·.1)) (firstN h))) := by
  unfold putB; rw [ha]
/-- an object that is put stands behind all others -/
theorem allH_put {n : Nat} {ws : List Int} {R : List (Nat × Nat)} {h : Hp} {o : Ob} {L : List (Nat × Ob)} (hg : Arena.Good n R) (hl : ws.length = n) (ha : allH ws R h = some L) (hb : putB ws R h o = true) : allH (putWs ws R h o) R (hpUp h o) = some (L ++ [(h.top.toNat, o)]) := by
  rw [putB_some ha] at hb
  simp only [Bool.and_eq_true, decide_eq_true_eq] at hb
  obtain ⟨⟨hm, hfit⟩, hF⟩ := hb
  obtain ⟨ht, hS⟩ := allH_there ha
  unfold allH
  rw [if_pos (thereB_up ht hfit), semi_put hg hl ht hm hfit]
  have := allS_put hS hm hF
  rw [semi_len hg hl ht] at this
  exact this
/-! ### a field that is set -/
def updF (a i : Nat) (v : Int) (y : Nat × Ob) : Nat × Ob := if y.1 = a then (y.1, { y.2 with fields := y.2.fields.set i v }) else y
theorem updF_fst (a i : Nat) (v : Int) (y : Nat × Ob) : (updF a i v y).1 = y.1 := by unfold updF; split <;> rfl
theorem updF_words (a i : Nat) (v : Int) (y : Nat × Ob) : wordsO (updF a i v y).2 = wordsO y.2 := by
  unfold updF
  split
  · unfold wordsO; simp
  · rfl
theorem readS_size {hd : Int} {r : List Int} {o : Ob} (h : readS (hd :: r) = some o) : wordsO o = bodyK (hd % 256) (hd / 4294967296).toNat (hd / 4294967296).toNat + 1 := by
  by_cases h2 : hd % 256 = 2
  · unfold readS at h
    simp only [h2, if_true] at h
    split at h
    · rename_i hc
      obtain ⟨_, _, hs, hb⟩ := hc
      split at h
      · obtain rfl := Option.some.inj h
        rw [h2]
        unfold wordsO
        dsimp only
        have hl : (ByteArray.mk ((bytesOf (r.take (bodyK 2 (hd / 4294967296).toNat (hd / 4294967296).toNat))).take (hd / 4294967296).toNat).toArray).size = (hd / 4294967296).toNat := by
          unfold bodyK at hb ⊢
          simp only [if_true] at hb ⊢
          rw [ByteArray.size, List.size_toArray, List.length_take, bytesOf_len, List.length_take]; omega
        rw [hl]
        unfold bodyK
        simp only [if_true]
        omega
      · cases h
    · cases h
  · unfold readS at h
    simp only [h2, if_false, false_implies, true_and] at h
    split at h
    · rename_i hc
      obtain ⟨_, _, hs, hb⟩ := hc
      split at h
      · obtain rfl := Option.some.inj h
        unfold wordsO
        unfold bodyK at hb ⊢
        simp only [h2, if_false] at hb ⊢
        rw [List.length_take]
        omega
      · cases h
    · cases h
theorem readS_take {S : List Int} {o : Ob} (h : readS S = some o) : readS (S.take (wordsO o)) = some o := by
  cases S with
  | nil => cases h
  | cons hd r =>
    rw [readS_size h, List.take_succ_cons]
    unfold readS at h ⊢
    simp only at h ⊢
    split at h
    · rename_i hc
      obtain ⟨c1, c2, c3, c4⟩ := hc
      rw [if_pos ⟨c1, c2, c3, by rw [List.length_take]; omega⟩, List.take_take, Nat.min_self]
      exact h
    · cases h
/-- a field of the first object is set -/
theorem readS_set {S : List Int} {o : Ob} (h : readS S = some o) {i : Nat} (hi : i < o.fields.length) (v : Int) : readS (S.set (1 + i) v) = some { o with fields := o.fields.set i v } := by
  cases S with
  | nil => cases h
  | cons hd r =>
    rw [Nat.add_comm 1 i, List.set_cons_succ]
    by_cases h2 : hd % 256 = 2
    · exfalso
      unfold readS at h
      simp only [h2, if_true] at h
      split at h
      · split at h
        · obtain rfl := Option.some.inj h
          simp at hi
        · cases h
      · cases h
    · have hm := (readS_words h).2.2
      unfold readS at h ⊢
      simp only [h2, if_false, false_implies, true_and] at h ⊢
      split at h
      · rename_i hc
        obtain ⟨c1, c2, c3, c4⟩ := hc
        rw [if_pos ⟨c1, c2, c3, by rw [List.length_set]; exact c4⟩]
        split at h
        · rename_i hm2
          obtain rfl := Option.some.inj h
          rw [List.take_set]
          rw [if_pos (by unfold mayO at hm2 ⊢; dsimp only at hm2 ⊢; rw [List.length_set]; exact hm2)]
        · cases h
      · cases h
theorem objs_ge {S : List Int} {a : Nat} {L : List (Nat × Ob)} (h : objs S a = some L) : ∀ y ∈ L, a ≤ y.1 ∧ y.1 + wordsO y.2 ≤ a + S.length :=
  objs_ind (P := fun S a L => ∀ y ∈ L, a ≤ y.1 ∧ y.1 + wordsO y.2 ≤ a + S.length) (fun a y hy => by cases hy)
    (fun S a o L hS hr ih y hy => by
      have hw := (readS_words hr).1
      rcases List.mem_cons.1 hy with rfl | hy
      · dsimp only; omega
      · have := ih y hy
        rw [List.length_drop] at this
        omega) S.length (Nat.le_refl _) h
theorem objs_set (i : Nat) (v : Int) : ∀ (n : Nat) (S : List Int) (b : Nat) (L : List (Nat × Ob)) (y : Nat × Ob), S.length ≤ n → objs S b = some L → y ∈ L → i < y.2.fields.length → objs (S.set (y.1 - b + 1 + i) v) b = some (L.map (updF y.1 i v)) := by
  intro n
  induction n with
  | zero =>
    intro S b L y hn h hy
    obtain rfl := List.eq_nil_of_length_eq_zero (Nat.le_zero.1 hn)
    rw [objs_nil] at h
    obtain rfl := Option.some.inj h
    cases hy
  | succ n ih =>
    intro S b L y hn h hy hi
    by_cases hS : S = []
    · subst hS
      rw [objs_nil] at h
      obtain rfl := Option.some.inj h
      cases hy
    · have h0 := h
      rw [objs_cons hS] at h
      cases hr : readS S with
      | none => rw [hr] at h; cases h
      | some o =>
        rw [hr] at h
        simp only at h
        cases hd : objs (S.drop (wordsO o)) (b + wordsO o) with
        | none => rw [hd] at h; cases h
        | some L' =>
          rw [hd] at h
          obtain rfl := Option.some.inj h
          obtain ⟨w1, w2, hmay⟩ := readS_words hr
          have hge := objs_ge hd
          have hne : S.set (y.1 - b + 1 + i) v ≠ [] := by simp [hS]
          rw [List.map_cons]
          rcases List.mem_cons.1 hy with rfl | hy
          · dsimp only at hi ⊢
            have hfw : wordsO o = 1 + o.fields.length := fields_words hmay (by intro e; rw [e] at hi; simp at hi)
            rw [Nat.sub_self, Nat.zero_add] at hne ⊢
            rw [objs_cons hne, readS_set hr hi v]
            simp only
            have hwo : wordsO { o with fields := o.fields.set i v } = wordsO o := by unfold wordsO; simp
            rw [hwo, List.drop_set_of_lt (by omega), hd]
            simp only [Option.map_some]
            congr 1
            congr 1
            · unfold updF; rw [if_pos rfl]
            · symm
              refine (List.map_congr_left fun z hz => ?_).trans (List.map_id _)
              unfold updF
              rw [if_neg (by have := (hge z hz).1; omega)]
              rfl
          · have hyg := hge y hy
            have hse : S.set (y.1 - b + 1 + i) v = S.take (wordsO o) ++ (S.drop (wordsO o)).set (y.1 - (b + wordsO o) + 1 + i) v := by
              have e0 : S = S.take (wordsO o) ++ S.drop (wordsO o) := (List.take_append_drop _ _).symm
              have hl : (S.take (wordsO o)).length = wordsO o := by rw [List.length_take]; omega
              have e1 : (S.take (wordsO o) ++ S.drop (wordsO o)).set (y.1 - b + 1 + i) v = S.take (wordsO o) ++ (S.drop (wordsO o)).set (y.1 - (b + wordsO o) + 1 + i) v := by
                rw [List.set_append_right _ _ (by omega), hl]
                congr 2
                omega
              rw [List.take_append_drop] at e1
              exact e1
            have hl : (S.take (wordsO o)).length = wordsO o := by rw [List.length_take]; omega
            rw [objs_cons hne, hse, readS_app (readS_take hr)]
            simp only
            rw [List.drop_append_of_le_length (by omega), List.drop_of_length_le (by omega), List.nil_append, ih (S.drop (wordsO o)) (b + wordsO o) L' y (by rw [List.length_drop]; omega) hd hy hi]
            simp only [Option.map_some]
            congr 2
            unfold updF
            rw [if_neg (by dsimp only; omega)]
theorem updF_places (a i : Nat) (v : Int) (L : List (Nat × Ob)) : (L.map (updF a i v)).map (·.1) = L.map (·.1) := by
  rw [List.map_map]
  exact List.map_congr_left fun y _ => updF_fst a i v y
theorem fieldsOK_set {first a i : Nat} {v : Int} {L : List (Nat × Ob)} (h : fieldsOK first L = true) (hv : fieldOK (L.map (·.1)) first v = true) : fieldsOK first (L.map (updF a i v)) = true := by
  unfold fieldsOK at h ⊢
  rw [updF_places]
  refine List.all_eq_true.2 fun x hx => ?_
  obtain ⟨y, hy, rfl⟩ := List.mem_map.1 hx
  have h1 := List.all_eq_true.1 h y hy
  unfold updF
  split
  · refine List.all_eq_true.2 fun f hf => ?_
    rcases List.mem_or_eq_of_mem_set hf with hf | rfl
    · exact List.all_eq_true.1 h1 f hf
    · exact hv
  · exact h1
theorem semi_setWs {n : Nat} {ws : List Int} {R : List (Nat × Nat)} {h : Hp} (hg : Arena.Good n R) (hl : ws.length = n) (ht : thereB R h = true) {j : Nat} (hj : j < h.top.toNat) (v : Int) : semi (setWs ws R h.base ((firstN h : Int) + j) v) R h = (semi ws R h).set j v := by
  obtain ⟨hok, h2⟩ := thereB_ok ht
  have hf := firstN_is hok
  obtain ⟨a1, a2, a3, a4, a5, a6⟩ := hok
  unfold semi
  rw [show (firstN h : Int) + j = ((firstN h + j : Nat) : Int) by omega, wordsAt_set hg hl (by omega), List.drop_set, if_neg (by omega), Nat.add_sub_cancel_left, List.take_set]
/-- a field that is set: the objects are as they were, but that field -/
theorem allH_set {n : Nat} {ws : List Int} {R : List (Nat × Nat)} {h : Hp} {L : List (Nat × Ob)} {x i v : Int} {y : Nat × Ob} (hg : Arena.Good n R) (hl : ws.length = n) (ha : allH ws R h = some L) (hy : getL (firstN h) L x = some y) (hi : 0 ≤ i) (hi2 : i < y.2.fields.length) (hv : fieldOK (L.map (·.1)) (firstN h) v = true) :
    setAt ws R h x i v = some ((firstN h : Int) + y.1 + 1 + i) ∧ allH (wsOf ws R h.base (setAt ws R h x i v) v) R h = some (L.map (updF y.1 i.toNat v)) := by
  have hs : setAt ws R h x i v = some ((firstN h : Int) + y.1 + 1 + i) := by
    unfold setAt
    rw [ha]
    simp only
    rw [hy]
    simp only
    rw [if_pos ⟨hi, hi2, hv⟩]
  refine ⟨hs, ?_⟩
  rw [hs]
  obtain ⟨ht, hS⟩ := allH_there ha
  obtain ⟨ho, hf⟩ := allS_some hS
  have hyL := (getL_some hy).1
  have hfit := objs_ge ho y hyL
  have hmay := (objs_fields ho y hyL).1
  rw [fields_words hmay (by intro e; rw [e] at hi2; simp at hi2; omega), semi_len hg hl ht] at hfit
  unfold allH
  rw [if_pos ht]
  unfold wsOf
  simp only
  rw [show (firstN h : Int) + y.1 + 1 + i = (firstN h : Int) + ((y.1 - 0 + 1 + i.toNat : Nat) : Int) by omega, semi_setWs hg hl ht (by omega)]
  unfold allS
  rw [objs_set i.toNat v _ _ 0 L y (Nat.le_refl _) ho hyL (by omega)]
  simp only
  rw [if_pos (fieldsOK_set hf hv)]
theorem getL_upd {first : Nat} {L : List (Nat × Ob)} {x v : Int} {a i : Nat} : getL first (L.map (updF a i v)) x = (getL first L x).map (updF a i v) := by
  unfold getL
  split
  · rfl
  · rw [List.find?_map]
    congr 1
    apply congrFun
    apply congrArg
    funext y
    simp only [Function.comp_apply, updF_fst]
end Go.Proofs.Ytlffmcadchbheaa
