/- Proved here: the contracts and laws of Wd2, Last, ObjG, ObjH, ObjI, ArenaP, RefaA, RefaB, Src, RefaC, Shelf, ArenaW of this claim, each beneath its own remark; conditions: those that each theorem names. -/
import Derived.Test.YtppkgfcobnknfaaGreatDoorM1
import Derived.Test.YtppkgfcobnknfaaGreatDoorM2
import Derived.Test.YtppkgfcobnknfaaGreatDoorProg
import Derived.WalkKit
import Derived.StillTail
import Derived.Deep.RegionHeld3
import Derived.Deep.CutBlock
import Derived.RowKit
import Derived.Maps.Own
import Derived.Maps.OwnSet
import Derived.Lib.SlKeysI
import Derived.Deep.AppendLies
import Derived.Deep.DrawnRows
import Derived.Maps.AppendAt
import Derived.Shelf.SlIterI.Nil
import Derived.Shelf.SortM.Plain
import Derived.Shelf.SortM.SortNone
import Derived.Shelf.SlicesE.Clone
import Derived.Ground.GgzProg
import Derived.Ground.SlgmProg
import Derived.Ground.SlgnProg
import Derived.Shelf.AbstractIn
import Derived.Maps.OwnOps
/- Words as rows (over Sli), beside Words. -/
namespace Go.Proofs.YtppkgfcobnknfaaGreatDoor
open Go.RowKit Go.Maps
set_option maxHeartbeats 2000000
set_option maxRecDepth 100000
def wordC (x : Int) : List Value := [.int .u64 x]
theorem wordC_rows (S : List Int) : Rows1 1 (S.map wordC) := by
  intro cs hm
  obtain ⟨x, _, rfl⟩ := List.mem_map.1 hm
  exact ⟨rfl, fun u hu => by simp [wordC] at hu; subst hu; rfl⟩
theorem wordC_flat (S : List Int) : (S.map wordC).flatten = S.map fun x => Value.int .u64 x := by
  induction S with
  | nil => rfl
  | cons x S ih => rw [List.map_cons, List.flatten_cons, ih]; rfl
theorem E64 : ElemT Tryz.prog 22 42 1 8 := ⟨Tryz.underlying22, ⟨.int .u64 0, by kernel_rfl, rfl⟩, by decide⟩
theorem WordSl.of_rows {w : World} {v : Value} {l : List Int} (h : RowsP w v 1 (l.map wordC)) : WordSl w v l := by
  obtain ⟨q, c, rfl, h1, h2, hc⟩ := h.at
  rw [List.length_map] at h1 ⊢
  refine ⟨q, c, rfl, h1, h2, fun i x hx => ?_⟩
  obtain ⟨b, off, hq, hcc⟩ := hc i (wordC x) (by rw [List.getElem?_map, hx]; rfl)
  have := hcc 0 _ rfl
  rw [Nat.add_zero, Nat.mul_one] at this
  exact ⟨b, off, hq, this⟩
theorem mk_u64s (k : Nat) (hk : k ≤ 1000000) (W : World) : (Instr.makeSlice 22 (.int .i64 k) (.int .i64 k)).run Tryz.prog W = .ok (.slice (some ⟨W.heap.size, 0, none⟩) k k) (W.alloc (.cells (madeCells #[.int .u64 0] k) 42)) := by
  obtain ⟨i0, hi, hz0, hz1, hz2⟩ := info_parts (show (Tryz.prog.info? 42).map (fun i => (i.zero, i.size, i.bytes)) = some (some (.int .u64 0), 1, 8) by kernel_rfl)
  have h := run_makeSlice (P := Tryz.prog) (w := W) 22 42 i0 (.int .u64 0) Tryz.underlying22 hi hz0 .i64 .i64 (k : Int) (k : Int) (by omega) (by omega) (by rw [hz1]; omega) (by rw [hz2]; omega) (by omega)
  rw [hz1, Nat.mul_one] at h
  exact h
end Go.Proofs.YtppkgfcobnknfaaGreatDoor
/- A region that draws its order, whose last operation waits for all others: the others by 'wpAnyH' (loads first), the last one as in a plain region. -/
namespace Go.Proofs.YtppkgfcobnknfaaGreatDoor
open Go
section
variable {P : Program} {md : Region.Mode}
/-- the post of all but the last operation -/
def lastQ (P : Program) (ops : Array Oper) (ol : Oper) (Q : Exit → Act → World → Prop) : Exit → Act → World → Prop
  | .normal, a, w => wpList P ops Q [ol] a w
  | e, a, w => Q e a w
theorem lets_last {ops : Array Oper} {ol : Oper} {Q : Exit → Act → World → Prop} (h : LetsOut (lastQ P ops ol Q)) : LetsOut Q := h
theorem Oper.wp_switch {o : Oper} {a : Act} {w : World} {K K' : Act → World → Prop} {Q Q' : Exit → Act → World → Prop} (hK : ∀ a w, K a w → K' a w) (hp : ∀ c a w, Q' (.panic c) a w → Q (.panic c) a w) (hl : LetsOut Q' → LetsOut Q)
    (hh : o.wp P a w K Q') : o.wp P a w K' Q := by
  unfold Oper.wp at *
  generalize (execOp a.eval o).run P w = r at *
  cases r with
  | ok n w' =>
    cases n <;> simp only [Oper.upon] at hh ⊢ <;>
      first
        | exact hK _ _ hh
        | exact Calls.mono hh (fun e w'' he => by cases e <;> first | exact hK _ _ he | exact hp _ _ _ he | exact hl he)
        | exact Rows.mono hh (fun _ _ he => hK _ _ he)
  | halt x w' =>
    cases x <;> simp only [Oper.upon] at hh ⊢ <;> first | exact hp _ _ _ hh | exact hh
/-- the side conditions, as one Bool -/
def lastB (ops : Array Oper) (n : Nat) : Bool :=
  decide (ops.size = n + 1) && Region.sinkB .any ops n && Region.chainB .any ops n &&
  ((List.range (n + 1)).all fun i => match ops[i]? with
    | some o => (o.after.all fun e => !(Region.binds .any e) || decide (e.on < i)) && (match o.guard with | some (g, _) => decide (g < i) | none => true)
    | none => false) &&
  (match ops[n]? with | some o => o.guard.isNone | none => false)
theorem wanted_same {ops init : Array Oper} {n : Nat} (hi : ∀ i, i < n → init[i]? = ops[i]?) {o : Oper} (hg : ∀ g b, o.guard = some (g, b) → g < n) (t : Array Value) : Region.wanted o (yielded init t) = Region.wanted o (yielded ops t) := by
  unfold Region.wanted
  cases h : o.guard with
  | none => rfl
  | some x =>
    obtain ⟨g, b⟩ := x
    have : yielded init t g = yielded ops t g := by unfold yielded; rw [hi g (hg g b h)]
    simp [this]
theorem last_core {ops init : Array Oper} {n : Nat} {ol : Oper} {Q : Exit → Act → World → Prop} (hsz : ops.size = n + 1) (hin : init.size = n) (hi : ∀ i, i < n → init[i]? = ops[i]?)
    (hs : Region.sinkB .any ops n = true) (hc : Region.chainB .any ops n = true) (hedge : ∀ (i : Nat) (o : Oper), ops[i]? = some o → ∀ e ∈ o.after, Region.binds .any e = true → e.on < i) (hguard : ∀ (i : Nat) (o : Oper), ops[i]? = some o → ∀ g b, o.guard = some (g, b) → g < i)
    (hol : ops[n]? = some ol) (_hog : ol.guard = none) :
    ∀ (fuel : Nat) (l' l : Array Bool) (a : Act) (w : World), l'.size = n → (∀ i, i < n → ∀ d, l'.getD i d = l.getD i d) → HeadInv .any ops n l →
      wpAny P .any init (lastQ P ops ol Q) fuel l' a w → wpAny P .any ops Q (fuel + 1) l a w := by
  -- what is ready, in both
  have hready : ∀ (l' l : Array Bool), l'.size = n → (∀ i, i < n → ∀ d, l'.getD i d = l.getD i d) → ∀ i, i < n → (i ∈ Region.ready .any init l' ↔ i ∈ Region.ready .any ops l) := by
    intro l' l hl' hll i hin'
    rw [mem_ready, mem_ready, hll i hin' true, hi i hin']
    constructor
    · rintro ⟨h0, o, ho, h⟩
      refine ⟨h0, o, ho, fun e he hb => ?_⟩
      have := hedge i o ho e he hb
      rw [← hll e.on (by omega)]
      exact h e he hb
    · rintro ⟨h0, o, ho, h⟩
      refine ⟨h0, o, ho, fun e he hb => ?_⟩
      have := hedge i o ho e he hb
      rw [hll e.on (by omega)]
      exact h e he hb
  -- nothing ready: all have come up
  have hall : ∀ (l : Array Bool), l.size = ops.size → (∀ i, i < n → i ∉ Region.ready .any ops l) → ∀ m i, i < m → i < n → l.getD i false = true := by
    intro l hlsz hno m
    induction m with
    | zero => intro i h; omega
    | succ m ih =>
      intro i him hin'
      by_cases hlt : i < m
      · exact ih i hlt hin'
      · obtain rfl : i = m := by omega
        cases hv : l.getD i false with
        | true => rfl
        | false =>
          refine absurd (mem_ready.2 ⟨getD_in (by omega) hv, ?_⟩) (hno i hin')
          obtain ⟨o, ho⟩ : ∃ o, ops[i]? = some o := ⟨_, Array.getElem?_eq_getElem (by omega)⟩
          exact ⟨o, ho, fun e he hb => ih e.on (hedge i o ho e he hb) (by have := hedge i o ho e he hb; omega)⟩
  have hnready : ∀ (l : Array Bool), HeadInv .any ops n l → (∀ i, i < n → l.getD i false = true) → n ∈ Region.ready .any ops l := by
    intro l inv h
    exact mem_ready.2 ⟨inv.tail n (Nat.le_refl _) (by omega), ol, hol, fun e he hb => h e.on (hedge n ol hol e he hb)⟩
  have hdone : ∀ (l : Array Bool), l.size = ops.size → (∀ i, i < n → l.getD i false = true) → Region.ready .any ops (l.setIfInBounds n true) = [] := by
    intro l hlsz h
    refine List.eq_nil_iff_forall_not_mem.2 fun i hr => ?_
    obtain ⟨h0, o, ho, _⟩ := mem_ready.1 hr
    have hlt : i < ops.size := (Array.getElem?_eq_some_iff.1 ho).1
    have h1 := getD_both h0
    by_cases hin' : i < n
    · rw [getD_set_ne false (by omega), h i hin'] at h1; cases h1
    · obtain rfl : i = n := by omega
      rw [Array.getD_eq_getD_getElem?, Array.getElem?_setIfInBounds_self_of_lt (by omega)] at h1
      simp at h1
  have hlast : ∀ (f : Nat) (l : Array Bool) (a : Act) (w : World), l.size = ops.size → (∀ i, i < n → l.getD i false = true) → lastQ P ops ol Q .normal a w → wpOp P ops Q n (wpAny P .any ops Q f (l.setIfInBounds n true)) a w := by
    intro f l a w hlsz h hq
    have hd := hdone l hlsz h
    have hmono : ∀ a w, Q .normal a w → wpAny P .any ops Q f (l.setIfInBounds n true) a w := by
      intro a w hQ
      cases f with
      | zero => exact ⟨hd, hQ⟩
      | succ f => exact ⟨fun _ => hQ, fun i hi' => by rw [hd] at hi'; cases hi'⟩
    unfold wpOp
    rw [hol]
    simp only
    have hq2 : wpList P ops Q [ol] a w := hq
    unfold wpList at hq2
    split at hq2
    · rename_i hw
      rw [if_pos hw]
      refine hq2.imp (Oper.wp_mono fun a w h => ?_) id
      exact hmono a w (by simpa [wpList] using h)
    · rename_i hw
      rw [if_neg hw]
      exact hmono _ _ (by simpa [wpList] using hq2)
  intro fuel
  induction fuel with
  | zero =>
    intro l' l a w hl' hll inv h
    have hno : ∀ i, i < n → i ∉ Region.ready .any ops l := fun i hin' hr => by
      have := (hready l' l hl' hll i hin').2 hr
      rw [h.1] at this; cases this
    have hA := fun i (hin' : i < n) => hall l inv.size hno (i + 1) i (by omega) hin'
    refine ⟨fun h0 => absurd (hnready l inv hA) (by rw [h0]; simp), fun i hr => ?_⟩
    have hin2 : i = n := by
      by_cases hin' : i < n
      · exact absurd hr (hno i hin')
      · obtain ⟨_, o, ho, _⟩ := mem_ready.1 hr
        have : i < ops.size := (Array.getElem?_eq_some_iff.1 ho).1
        omega
    subst hin2
    exact hlast 0 l a w inv.size hA h.2
  | succ fuel ih =>
    intro l' l a w hl' hll inv h
    have hQn : (∀ i, i < n → i ∉ Region.ready .any ops l) → lastQ P ops ol Q .normal a w := by
      intro hno
      refine h.1 (List.eq_nil_iff_forall_not_mem.2 fun i hr => ?_)
      obtain ⟨_, o, ho, _⟩ := mem_ready.1 hr
      have hlt : i < n := by rw [← hin]; exact (Array.getElem?_eq_some_iff.1 ho).1
      exact hno i hlt ((hready l' l hl' hll i hlt).1 hr)
    refine ⟨fun h0 => ?_, fun i hr => ?_⟩
    · have hno : ∀ i, i < n → i ∉ Region.ready .any ops l := fun i _ hr => by rw [h0] at hr; cases hr
      have hA := fun i (hin' : i < n) => hall l inv.size hno (i + 1) i (by omega) hin'
      exact absurd (hnready l inv hA) (by rw [h0]; simp)
    · by_cases hin' : i < n
      · have h2 := h.2 i ((hready l' l hl' hll i hin').2 hr)
        have inv2 := inv.set hr hin'
        unfold wpOp at h2 ⊢
        rw [hi i hin'] at h2
        obtain ⟨_, o, ho, _⟩ := mem_ready.1 hr
        rw [ho] at h2 ⊢
        simp only at h2 ⊢
        rw [wanted_same hi (fun g b hg => by have := hguard i o ho g b hg; omega)] at h2
        have hstep : ∀ a' w', wpAny P .any init (lastQ P ops ol Q) fuel (l'.setIfInBounds i true) a' w' → wpAny P .any ops Q (fuel + 1) (l.setIfInBounds i true) a' w' := fun a' w' hh => by
          refine ih _ _ a' w' (by simpa using hl') (fun k hk d => ?_) inv2 hh
          by_cases hik : i = k
          · subst hik
            have hlsz := inv.size
            simp [Array.getD_eq_getD_getElem?, hl', hlsz, hsz, hk, Nat.lt_succ_of_lt hk]
          · rw [getD_set_ne d hik, getD_set_ne d hik]; exact hll k hk d
        split at h2
        · rename_i hw
          rw [if_pos hw]
          rcases h2 with h2 | ⟨h2, h3⟩
          · exact .inl (Oper.wp_switch (Q' := lastQ P ops ol Q) hstep (fun _ _ _ h => h) (lets_last (P := P) (ops := ops) (ol := ol)) h2)
          · exact .inr ⟨h2, lets_last (P := P) (ops := ops) (ol := ol) h3⟩
        · rename_i hw
          rw [if_neg hw]
          exact hstep _ _ h2
      · obtain ⟨_, o, ho, _⟩ := mem_ready.1 hr
        have hlt : i < ops.size := (Array.getElem?_eq_some_iff.1 ho).1
        obtain rfl : i = n := by omega
        have hno : ∀ k, k < i → k ∉ Region.ready .any ops l := fun k hk hrk => by
          have hun := (mem_ready.1 hrk).1
          exact absurd hr (tail_waits hs hc (by omega) inv _ k rfl hk hun i (Nat.le_refl _))
        exact hlast (fuel + 1) l a w inv.size (fun k hk => hall l inv.size hno (k + 1) k (by omega) hk) (hQn hno)
/-- THE LAW: all but the last by 'wpAnyH' under S, the last one as in a plain region -/
theorem wp_region_last (n : Nat) {id : Nat} {ops : Array Oper} {Q : Exit → Act → World → Prop} {a : Act} {w : World} (S : World → Prop) (hm : P.follows .mixedOrders = true) (hB : lastB ops n = true) (ol : Oper) (hol : ops[n]? = some ol)
    (hS : S w.drew) (h : S w.drew → wpAnyH P .any (ops.toList.take n).toArray (lastQ P ops ol Q) S n (Array.replicate n false) a w.drew) : (Code.region id ops true).wp P Q a w := by
  unfold lastB at hB
  simp only [Bool.and_eq_true, decide_eq_true_eq] at hB
  obtain ⟨⟨⟨⟨hsz, hs⟩, hc⟩, hall⟩, hg⟩ := hB
  have hall' : ∀ (i : Nat) (o : Oper), ops[i]? = some o → (∀ e ∈ o.after, Region.binds .any e = true → e.on < i) ∧ ∀ g b, o.guard = some (g, b) → g < i := by
    intro i o ho
    have hlt : i < ops.size := (Array.getElem?_eq_some_iff.1 ho).1
    have := List.all_eq_true.1 hall i (List.mem_range.2 (by omega))
    rw [ho] at this
    simp only [Bool.and_eq_true] at this
    refine ⟨fun e he hb => ?_, fun g b hgb => ?_⟩
    · have h1 := Array.all_eq_true_iff_forall_mem.1 this.1 e he
      rw [hb] at h1
      simpa using h1
    · have h2 := this.2
      rw [hgb] at h2
      simpa using h2
  have hog : ol.guard = none := by rw [hol] at hg; simpa using hg
  have htl : (ops.toList.take n).length = n := by rw [List.length_take, Array.length_toList, hsz]; omega
  refine wp_region_any hm ?_
  rw [hsz]
  refine last_core (init := (ops.toList.take n).toArray) hsz (by simpa using htl) (fun i hi => ?_) hs hc (fun i o ho => (hall' i o ho).1) (fun i o ho => (hall' i o ho).2) hol hog n (Array.replicate n false) (Array.replicate (n + 1) false) a w.drew
    (by simp) (fun i hi d => by simp [Array.getD_eq_getD_getElem?, hi, Nat.lt_succ_of_lt hi]) ⟨by simp [hsz], (fun j oj _ hl => by rw [getD_replicate_false] at hl; exact absurd hl (by decide)), fun t _ ht => by simp [Array.getD_eq_getD_getElem?, show t < n + 1 by omega]⟩ (wpAny_of_held _ _ _ _ (h hS))
  rw [List.getElem?_toArray, List.getElem?_take_of_lt hi, Array.getElem?_toList]
end
end Go.Proofs.YtppkgfcobnknfaaGreatDoor
/- A text's words (the program's). -/
namespace Go.Proofs.YtppkgfcobnknfaaGreatDoor
open Go.RowKit
set_option maxHeartbeats 4000000
set_option maxRecDepth 100000
theorem wrap64_of {x : Int} (h1 : -9223372036854775808 ≤ x) (h2 : x ≤ 9223372036854775807) : IntKind.i64.wrap x = x := by
  simp [IntKind.wrap, IntKind.bits, IntKind.signed]
  omega
theorem keepB {w w' : World} {a : Addr} {v : Value} (h : w.cell? a = some v) (hf : w.frozen? a = false) (e : Ext w w') : w'.cell? a = some v ∧ w'.frozen? a = false ∧ Ext w w' := ⟨e.cell h, (e.frozen h).trans hf, e⟩
theorem wrapu_of {x : Int} (h1 : 0 ≤ x) (h2 : x < 18446744073709551616) : IntKind.u64.wrap x = x := by
  simp [IntKind.wrap, IntKind.bits, IntKind.signed]
  omega
theorem shl_run {P : Program} {b : Nat} (hb : b < 256) : ∀ (r : Nat) (_ : r < 8) (W : World), (Op.shift .shl .u64 (IntKind.u64.wrap (b : Int)) .i64 (IntKind.i64.wrap (8 * (r : Int)))).run P W = .ok (.int .u64 ((b * 256 ^ r : Nat) : Int)) W := by
  intro r hr W
  have e1 : IntKind.u64.wrap (b : Int) = b := by simp [IntKind.wrap, IntKind.bits, IntKind.signed]; omega
  rw [e1, wrap64_of (by omega) (by omega)]
  rcases (show r = 0 ∨ r = 1 ∨ r = 2 ∨ r = 3 ∨ r = 4 ∨ r = 5 ∨ r = 6 ∨ r = 7 by omega) with rfl | rfl | rfl | rfl | rfl | rfl | rfl | rfl <;> simp [go_sem] <;> exact wrapu_of (by omega) (by omega)
theorem or_shl {b r a : Nat} (hb : b < 256) (hr : r < 8) (ha : a < 256 ^ r) : bits .or .u64 (a : Int) ((b * 256 ^ r : Nat) : Int) = (a : Int) + ((b * 256 ^ r : Nat) : Int) := by
  rcases (show r = 0 ∨ r = 1 ∨ r = 2 ∨ r = 3 ∨ r = 4 ∨ r = 5 ∨ r = 6 ∨ r = 7 by omega) with rfl | rfl | rfl | rfl | rfl | rfl | rfl | rfl
  · rw [or_apart 0 a _ (by omega) (by omega) (by omega) (by omega)]; omega
  · rw [or_apart 8 a _ (by omega) (by omega) (by omega) (by omega)]; omega
  · rw [or_apart 16 a _ (by omega) (by omega) (by omega) (by omega)]; omega
  · rw [or_apart 24 a _ (by omega) (by omega) (by omega) (by omega)]; omega
  · rw [or_apart 32 a _ (by omega) (by omega) (by omega) (by omega)]; omega
  · rw [or_apart 40 a _ (by omega) (by omega) (by omega) (by omega)]; omega
  · rw [or_apart 48 a _ (by omega) (by omega) (by omega) (by omega)]; omega
  · rw [or_apart 56 a _ (by omega) (by omega) (by omega) (by omega)]; omega
theorem pieces_is (s : ByteArray) (w : World) (hs : s.size ≤ 400) : Calls Tryz.prog 64 #[.string s] w fun e w' => ∃ v, e = .returned v ∧ OwnP w' w.heap.size 42 v 1 ((pieces s.data.toList).map wordC) ∧ Ext w w' := by
  obtain ⟨m, hm⟩ : ∃ m : Nat, m = (s.size + 7) / 8 := ⟨_, rfl⟩
  have HM := Lib.hid hm
  have hm4 : m ≤ 50 := by omega
  have hms : ∀ W, (Instr.makeSlice 22 (.int .i64 (((s.size : Int) + 7) / 8)) (.int .i64 (((s.size : Int) + 7) / 8))).run Tryz.prog W = .ok (.slice (some ⟨W.heap.size, 0, none⟩) m m) (W.alloc (.cells (madeCells #[.int .u64 0] m) 42)) := by
    intro W
    rw [show ((s.size : Int) + 7) / 8 = (m : Int) by omega]
    exact mk_u64s m (by omega) W
  have hms2 : ∀ W, (Instr.makeSlice 22 (.int .i64 (((s.size : Int) + 8 - 1) / 8)) (.int .i64 (((s.size : Int) + 8 - 1) / 8))).run Tryz.prog W = .ok (.slice (some ⟨W.heap.size, 0, none⟩) m m) (W.alloc (.cells (madeCells #[.int .u64 0] m) 42)) := by
    intro W
    rw [show ((s.size : Int) + 8 - 1) / 8 = (m : Int) by omega]
    exact mk_u64s m (by omega) W
  clear hm
  have hS : s.data.toList.length = s.size := Array.length_toList
  have HS := Lib.hid hS
  clear hS
  go_enter Tryz.func64, Tryz.ntmps64
  go_wp2_with fail
  have ho := made_own w 42 (.int .u64 0) m w.heap.size rfl (Nat.le_refl _) (by unfold maxLen; omega)
  have ho1 : OwnP (w.alloc (.cells (madeCells #[.int .u64 0] m) 42)) w.heap.size 42 (.slice (some ⟨w.heap.size, 0, none⟩) m m) 1 ((List.range m).map fun j => wordC (pieceN (s.data.toList.take 0) j)) := by
    rw [pieces_start m wordC]; exact ho
  have HO := Lib.hid ho1
  have X1 := Lib.hid (Ext.alloc w (.cells (madeCells #[.int .u64 0] m) 42))
  generalize w.alloc (.cells (madeCells #[.int .u64 0] m) 42) = w1 at *
  clear ho ho1
  go_wp2_with fail
  go_loopw [13] (fun i wr => ∃ k : Nat, k ≤ s.size ∧ i = .int .i64 k ∧ OwnP wr w.heap.size 42 (.slice (some ⟨w.heap.size, 0, none⟩) m m) 1 ((List.range m).map fun j => wordC (pieceN (s.data.toList.take k) j)) ∧ Ext w wr) (fun i _ => s.size - (Go.RowKit.intOf i).toNat)
  case atStart => exact ⟨0, by omega, rfl, HO.out, X1.out⟩
  case round =>
    obtain ⟨k, hk, rfl, hown, hx⟩ := hrel
    have HOW := Lib.hid hown; have HX := Lib.hid hx
    clear hx
    by_cases hlt : k < s.size
    · have i1 : (k : Int) < (s.size : Int) := by omega
      have hkl : k < s.data.toList.length := by rw [HS.out]; exact hlt
      have hxk := List.getElem?_eq_getElem hkl
      generalize hbx : s.data.toList[k] = x at hxk
      obtain ⟨j, hj⟩ : ∃ j : Nat, j = k / 8 := ⟨_, rfl⟩
      have HJ := Lib.hid hj
      have hjm : j < m := by have := HM.out; omega
      have hjk : (k : Int) / 8 = (j : Int) := by omega
      obtain ⟨r, hr⟩ : ∃ r : Nat, r = k % 8 := ⟨_, rfl⟩
      have HR := Lib.hid hr
      have hrk : (k : Int) % 8 = (r : Int) := by omega
      have hrk2 : (k : Int).tmod 8 = (r : Int) := by rw [Int.tmod_eq_emod_of_nonneg (by omega)]; omega
      have hr8 : r < 8 := by omega
      have hjm2 : (j : Int) < (m : Int) := by omega
      have hwj : IntKind.i64.wrap (j : Int) = (j : Int) := wrap64_of (by omega) (by omega)
      have hrow : ((List.range m).map fun j => wordC (pieceN (s.data.toList.take k) j))[j]? = some [.int .u64 (pieceN (s.data.toList.take k) j)] := by simp [hjm, wordC]
      obtain ⟨g', e, _, y0, f0⟩ := hown.cell hrow (f := 0) rfl
      obtain ⟨rfl, _⟩ := Addr.mk.inj (Option.some.inj e)
      have hP := pieceN_here hxk
      rw [← hj, ← hr] at hP
      have hor : bits .or .u64 (pieceN (s.data.toList.take k) j) ((x.toNat : Int) * 256 ^ r) = pieceN (s.data.toList.take k) j + ((x.toNat * 256 ^ r : Nat) : Int) := by
        obtain ⟨_, hp1, hp2⟩ := hP
        obtain ⟨a, ha⟩ := Int.eq_ofNat_of_zero_le hp1
        rw [ha] at hp2 ⊢
        have hp3 : a < 256 ^ r := by exact_mod_cast hp2
        rw [show ((x.toNat : Int) * 256 ^ r) = ((x.toNat * 256 ^ r : Nat) : Int) by push_cast; rfl]
        exact or_shl x.toNat_lt hr8 hp3
      have hst := hown.store (f := 0) hrow (by omega) (u := .int .u64 (pieceN (s.data.toList.take k) j + ((x.toNat * 256 ^ r : Nat) : Int))) rfl
      have hps := pieces_step (m := m) hxk wordC
      rw [← hj, ← hr] at hps
      have HST := Lib.hid (show OwnP (wr.setCell ⟨w.heap.size, j, none⟩ (.int .u64 (pieceN (s.data.toList.take k) j + ((x.toNat * 256 ^ r : Nat) : Int)))) w.heap.size 42 (.slice (some ⟨w.heap.size, 0, none⟩) m m) 1 ((List.range m).map fun j => wordC (pieceN (s.data.toList.take (k + 1)) j)) by rw [hps]; simpa [wordC] using hst)
      rw [← hor] at HST
      have HT := Lib.hid (show Ext w (wr.setCell ⟨w.heap.size, j, none⟩ (.int .u64 (bits .or .u64 (pieceN (s.data.toList.take k) j) ((x.toNat : Int) * 256 ^ r)))) from Below.setCell HX.out (Nat.le_refl _) _)
      clear hj hr hown hrow hor hst hps hP
      have hsk : (s[k]'hlt).toNat = x.toNat := by rw [← hbx]; rfl
      have hsh : ∀ W, (Op.shift .shl .u64 (IntKind.u64.wrap ((s[k]'hlt).toNat : Int)) .i64 (IntKind.i64.wrap (8 * (k : Int).tmod 8))).run Tryz.prog W = .ok (.int .u64 ((x.toNat * 256 ^ r : Nat) : Int)) W := fun W => by
        rw [hsk, hrk2]; exact shl_run x.toNat_lt r hr8 W
      have HK2 := Lib.hid hrk2
      clear hrk hrk2 hbx hsk
      go_upto_region 5 with fail
      rw [Nat.mul_one, Nat.add_zero] at y0 f0
      refine wp_region_noPanic ?_
      refine wp_region_last 15 (S := (fun w' => w'.cell? ⟨w.heap.size, j, none⟩ = some (.int .u64 (pieceN (s.data.toList.take k) j)) ∧ w'.frozen? ⟨w.heap.size, j, none⟩ = false ∧ Ext wr w')) (by kernel_rfl) (by kernel_rfl) _ rfl ?_ (fun hHeld => ?_)
      · (refine keepB y0 f0 ?_; first | exact Ext.drew _)
      simp only [List.take_succ_cons, List.take_zero]
      refine wpAnyH_take (i := 0) (v := ?v1) rfl (by kernel_rfl) (by kernel_rfl) (by kernel_rfl) (fun _ _ _ h => h) (Or.inl ⟨by rfl, ?y1⟩) (by assumption) ?r1
      case y1 => intro w hSw; (try dsimp only at hSw); go_simp; (try with_reducible rfl)
      (try simp only [Act.put, List.setIfInBounds_toArray, List.set_cons_zero, List.set_cons_succ, List.getElem_toArray, List.getElem_cons_zero, List.getElem_cons_succ])
      refine wpAnyH_take (i := 1) (v := ?v2) rfl (by kernel_rfl) (by kernel_rfl) (by kernel_rfl) (fun _ _ _ h => h) (Or.inl ⟨by rfl, ?y2⟩) (by assumption) ?r2
      case y2 => intro w hSw; (try dsimp only at hSw); go_simp; (try with_reducible rfl)
      (try simp only [Act.put, List.setIfInBounds_toArray, List.set_cons_zero, List.set_cons_succ, List.getElem_toArray, List.getElem_cons_zero, List.getElem_cons_succ])
      refine wpAnyH_take (i := 2) (v := ?v3) rfl (by kernel_rfl) (by kernel_rfl) (by kernel_rfl) (fun _ _ _ h => h) (Or.inl ⟨by rfl, ?y3⟩) (by assumption) ?r3
      case y3 => intro w hSw; (try dsimp only at hSw); go_simp; (try with_reducible rfl)
      (try simp only [Act.put, List.setIfInBounds_toArray, List.set_cons_zero, List.set_cons_succ, List.getElem_toArray, List.getElem_cons_zero, List.getElem_cons_succ])
      refine wpAnyH_take (i := 3) (v := ?v4) rfl (by kernel_rfl) (by kernel_rfl) (by kernel_rfl) (fun _ _ _ h => h) (Or.inl ⟨by rfl, ?y4⟩) (by assumption) ?r4
      case y4 => intro w hSw; (try dsimp only at hSw); go_simp; (try with_reducible rfl)
      (try simp only [Act.put, List.setIfInBounds_toArray, List.set_cons_zero, List.set_cons_succ, List.getElem_toArray, List.getElem_cons_zero, List.getElem_cons_succ])
      refine wpAnyH_take (i := 4) (v := ?v5) rfl (by kernel_rfl) (by kernel_rfl) (by kernel_rfl) (fun _ _ _ h => h) (Or.inl ⟨by rfl, ?y5⟩) (by assumption) ?r5
      case y5 => intro w hSw; (try dsimp only at hSw); go_simp; (try with_reducible rfl)
      (try simp only [Act.put, List.setIfInBounds_toArray, List.set_cons_zero, List.set_cons_succ, List.getElem_toArray, List.getElem_cons_zero, List.getElem_cons_succ])
      refine wpAnyH_take (i := 5) (v := ?v6) rfl (by kernel_rfl) (by kernel_rfl) (by kernel_rfl) (fun _ _ _ h => h) (Or.inl ⟨by rfl, ?y6⟩) (by assumption) ?r6
      case y6 => intro w hSw; (try dsimp only at hSw); go_simp; (try with_reducible rfl)
      (try simp only [Act.put, List.setIfInBounds_toArray, List.set_cons_zero, List.set_cons_succ, List.getElem_toArray, List.getElem_cons_zero, List.getElem_cons_succ])
      refine wpAnyH_take (i := 6) (v := ?v7) rfl (by kernel_rfl) (by kernel_rfl) (by kernel_rfl) (fun _ _ _ h => h) (Or.inl ⟨by rfl, ?y7⟩) (by assumption) ?r7
      case y7 => intro w hSw; (try dsimp only at hSw); go_simp; (try with_reducible rfl)
      (try simp only [Act.put, List.setIfInBounds_toArray, List.set_cons_zero, List.set_cons_succ, List.getElem_toArray, List.getElem_cons_zero, List.getElem_cons_succ])
      refine wpAnyH_take (i := 7) (v := ?v8) rfl (by kernel_rfl) (by kernel_rfl) (by kernel_rfl) (fun _ _ _ h => h) (Or.inl ⟨by rfl, ?y8⟩) (by assumption) ?r8
      case y8 => intro w hSw; (try dsimp only at hSw); go_simp; (try with_reducible rfl)
      (try simp only [Act.put, List.setIfInBounds_toArray, List.set_cons_zero, List.set_cons_succ, List.getElem_toArray, List.getElem_cons_zero, List.getElem_cons_succ])
      refine wpAnyH_take (i := 8) (v := ?v9) rfl (by kernel_rfl) (by kernel_rfl) (by kernel_rfl) (fun _ _ _ h => h) (Or.inl ⟨by rfl, ?y9⟩) (by assumption) ?r9
      case y9 => intro w hSw; (try dsimp only at hSw); go_simp; (try with_reducible rfl)
      (try simp only [Act.put, List.setIfInBounds_toArray, List.set_cons_zero, List.set_cons_succ, List.getElem_toArray, List.getElem_cons_zero, List.getElem_cons_succ])
      refine wpAnyH_take (i := 9) (v := ?v10) rfl (by kernel_rfl) (by kernel_rfl) (by kernel_rfl) (fun _ _ _ h => h) (Or.inl ⟨by rfl, ?y10⟩) (by assumption) ?r10
      case y10 => intro w hSw; (try dsimp only at hSw); go_simp; (try with_reducible rfl)
      (try simp only [Act.put, List.setIfInBounds_toArray, List.set_cons_zero, List.set_cons_succ, List.getElem_toArray, List.getElem_cons_zero, List.getElem_cons_succ])
      refine wpAnyH_take (i := 10) (v := ?v11) rfl (by kernel_rfl) (by kernel_rfl) (by kernel_rfl) (fun _ _ _ h => h) (Or.inl ⟨by rfl, ?y11⟩) (by assumption) ?r11
      case y11 => intro w hSw; (try dsimp only at hSw); go_simp; (try with_reducible rfl)
      (try simp only [Act.put, List.setIfInBounds_toArray, List.set_cons_zero, List.set_cons_succ, List.getElem_toArray, List.getElem_cons_zero, List.getElem_cons_succ])
      refine wpAnyH_take (i := 11) (v := ?v12) rfl (by kernel_rfl) (by kernel_rfl) (by kernel_rfl) (fun _ _ _ h => h) (Or.inl ⟨by rfl, ?y12⟩) (by assumption) ?r12
      case y12 => intro w hSw; (try dsimp only at hSw); go_simp; (try with_reducible rfl)
      (try simp only [Act.put, List.setIfInBounds_toArray, List.set_cons_zero, List.set_cons_succ, List.getElem_toArray, List.getElem_cons_zero, List.getElem_cons_succ])
      refine wpAnyH_take (i := 12) (v := ?v13) rfl (by kernel_rfl) (by kernel_rfl) (by kernel_rfl) (fun _ _ _ h => h) (Or.inl ⟨by rfl, ?y13⟩) (by assumption) ?r13
      case y13 => intro w hSw; (try dsimp only at hSw); go_simp; (try with_reducible rfl)
      (try simp only [Act.put, List.setIfInBounds_toArray, List.set_cons_zero, List.set_cons_succ, List.getElem_toArray, List.getElem_cons_zero, List.getElem_cons_succ])
      refine wpAnyH_take (i := 13) (v := ?v14) rfl (by kernel_rfl) (by kernel_rfl) (by kernel_rfl) (fun _ _ _ h => h) (Or.inl ⟨by rfl, ?y14⟩) (by assumption) ?r14
      case y14 => intro w hSw; (try dsimp only at hSw); go_simp; (try with_reducible rfl)
      (try simp only [Act.put, List.setIfInBounds_toArray, List.set_cons_zero, List.set_cons_succ, List.getElem_toArray, List.getElem_cons_zero, List.getElem_cons_succ])
      refine wpAnyH_take (i := 14) (v := ?v15) rfl (by kernel_rfl) (by kernel_rfl) (by kernel_rfl) (fun _ _ _ h => h) (Or.inl ⟨by rfl, ?y15⟩) (by assumption) ?r15
      case y15 => intro w hSw; (try dsimp only at hSw); go_simp; (try with_reducible rfl)
      (try simp only [Act.put, List.setIfInBounds_toArray, List.set_cons_zero, List.set_cons_succ, List.getElem_toArray, List.getElem_cons_zero, List.getElem_cons_succ])
      refine wpAnyH_done (by kernel_rfl) ?_ _
      show wpList _ _ _ _ _ _
      go_wp2
      refine NoPanic.normal ?_
      go_wp2
      exact ⟨⟨k + 1, by omega, by go_num, HST.out.ext (Ext.drew _), HT.out.trans (Ext.drew _)⟩, by simp [Go.RowKit.intOf]; omega⟩
    · obtain rfl : k = s.size := by omega
      have hfin : (List.range m).map (fun j => wordC (pieceN (s.data.toList.take s.size) j)) = (pieces s.data.toList).map wordC := by
        rw [← HS.out, List.take_length]
        unfold pieces
        rw [List.map_map, HS.out, ← HM.out]
        rfl
      rw [hfin] at HOW
      clear hown hfin
      go_wp2_with fail
      go_ret
      exact ⟨_, rfl, HOW.out, HX.out⟩
end Go.Proofs.YtppkgfcobnknfaaGreatDoor
/- An object's words laid out (the reference's). -/
namespace Go.Proofs.YtppkgfcobnknfaaGreatDoor
open Go.RowKit
set_option maxHeartbeats 4000000
set_option maxRecDepth 100000
theorem range_succ_map (m : Nat) (f : Nat → List Value) : (List.range (m + 1)).map f = (List.range m).map f ++ [f m] := by rw [List.range_succ, List.map_append]; rfl
end Go.Proofs.YtppkgfcobnknfaaGreatDoor
/- A text's object laid out (the reference's). -/
namespace Go.Proofs.YtppkgfcobnknfaaGreatDoor
open Go.RowKit
set_option maxHeartbeats 4000000
set_option maxRecDepth 100000
theorem _root_.Go.RowKit.Below.cellB {B : Nat} {w w' : World} (h : Below B w w') {a : Addr} {v : Value} (ha : a.block < B) (hc : w.cell? a = some v) : w'.cell? a = some v := by
  rw [World.cell?_of_block (w := w) (Below.block h a.block ha)]
  exact hc
theorem shl_val {b r m : Nat} (hb : b < 256) (hr : r < 8) (hm : m = r) : IntKind.u64.wrap (IntKind.u64.wrap (b : Int) * 2 ^ min (8 * m) 64) = ((b * 256 ^ r : Nat) : Int) := by
  subst hm
  rw [wrapu_of (x := (b : Int)) (by omega) (by omega), show min (8 * m) 64 = 8 * m by omega]
  rcases (show m = 0 ∨ m = 1 ∨ m = 2 ∨ m = 3 ∨ m = 4 ∨ m = 5 ∨ m = 6 ∨ m = 7 by omega) with rfl | rfl | rfl | rfl | rfl | rfl | rfl | rfl <;> (rw [wrapu_of (by omega) (by omega)]; omega)
end Go.Proofs.YtppkgfcobnknfaaGreatDoor
/- Plain: an arena's regions, as a rising list of places and sizes. No program in sight. -/
namespace Go.Proofs.YtppkgfcobnknfaaGreatDoor
open Go.RowKit Go.Maps
namespace Arena
/-- regions: each with its size, rising, apart, within n words -/
def Good (n : Nat) (R : List (Nat × Nat)) : Prop := R.Pairwise (fun a b => a.1 + a.2 ≤ b.1) ∧ ∀ r ∈ R, 1 ≤ r.2 ∧ r.1 + r.2 ≤ n
/-- the map that holds them -/
def regD (R : List (Nat × Nat)) : DataW Unit := .map (R.map fun r => (Lit.int .i64 r.1, DataW.lit (.int .i64 r.2)))
def lenAt (R : List (Nat × Nat)) (k : Int) : Nat := match R.find? (fun r => decide ((r.1 : Int) = k)) with | some r => r.2 | none => 0
/-- the least place ahead of which no region with room lies -/
def scan (k : Nat) : Nat → List (Nat × Nat) → Nat
  | at_, [] => at_
  | at_, r :: R => if at_ + k ≤ r.1 then at_ else scan k (r.1 + r.2) R
def cutAt (n : Nat) (R : List (Nat × Nat)) (k : Nat) : Option Nat := if scan k 0 R + k ≤ n then some (scan k 0 R) else none
def ins (x : Nat × Nat) : List (Nat × Nat) → List (Nat × Nat)
  | [] => [x]
  | y :: R => if x.1 < y.1 then x :: y :: R else y :: ins x R
def drop (k : Int) (R : List (Nat × Nat)) : List (Nat × Nat) := R.filter fun r => !decide ((r.1 : Int) = k)

theorem sameKey_int (a : Nat) (k : Int) : (Lit.int .i64 a).sameKey (.int .i64 k) = decide ((a : Int) = k) := by simp [Lit.sameKey]
theorem regD_atKey (R : List (Nat × Nat)) (k : Int) : (regD R).atKey (.int .i64 k) (.lit (.int .i64 0)) = .lit (.int .i64 (lenAt R k)) := by
  unfold regD lenAt DataW.atKey
  simp only [List.find?_map]
  have : ((fun p : Lit × DataW Unit => p.1.sameKey (.int .i64 k)) ∘ fun r : Nat × Nat => (Lit.int .i64 r.1, DataW.lit (.int .i64 r.2))) = fun r => decide ((r.1 : Int) = k) := by
    funext r; exact sameKey_int r.1 k
  rw [this]
  cases R.find? (fun r => decide ((r.1 : Int) = k)) <;> rfl
theorem regD_del (R : List (Nat × Nat)) (k : Int) : (regD R).del (.int .i64 k) = regD (drop k R) := by
  unfold regD drop DataW.del
  simp only [List.filter_map]
  have : ((fun p : Lit × DataW Unit => !p.1.sameKey (.int .i64 k)) ∘ fun r : Nat × Nat => (Lit.int .i64 r.1, DataW.lit (.int .i64 r.2))) = fun r => !decide ((r.1 : Int) = k) := by
    funext r; simp [sameKey_int]
  rw [this]
theorem regD_insert (x : Nat × Nat) : ∀ R : List (Nat × Nat), DataW.insert (Lit.int .i64 x.1, DataW.lit (.int .i64 x.2)) (R.map fun r => (Lit.int .i64 r.1, (DataW.lit (.int .i64 r.2) : DataW Unit))) = (ins x R).map fun r => (Lit.int .i64 r.1, DataW.lit (.int .i64 r.2)) := by
  intro R
  induction R with
  | nil => rfl
  | cons y R ih =>
    simp only [List.map_cons, DataW.insert, ins, Lit.before]
    by_cases h : x.1 < y.1
    · have h2 : ((x.1 : Int) < (y.1 : Int)) := by omega
      simp [h, h2]
    · have h2 : ¬ ((x.1 : Int) < (y.1 : Int)) := by omega
      simp only [h, h2, decide_false, Bool.false_eq_true, if_false, List.map_cons]
      rw [ih]
theorem regD_put {R : List (Nat × Nat)} {x : Nat × Nat} (h : ∀ r ∈ R, r.1 ≠ x.1) : (regD R).put (.int .i64 x.1) (.lit (.int .i64 x.2)) = regD (ins x R) := by
  have hd : drop x.1 R = R := by
    unfold drop
    refine List.filter_eq_self.2 fun r hr => ?_
    have := h r hr
    simp; omega
  have he := regD_del R x.1
  rw [hd] at he
  unfold regD DataW.del at he
  injection he with he
  unfold regD DataW.put
  simp only
  rw [he, regD_insert]
theorem regD_keys (R : List (Nat × Nat)) : intKeys (regD R) = R.map fun r => (r.1 : Int) := by
  show (R.map _).map _ = _
  rw [List.map_map]
  rfl
theorem regD_size (R : List (Nat × Nat)) : Maps.size (regD R) = R.length := by
  unfold regD; rw [Maps.size_eq, List.length_map]

/-! ### laws of the places -/
theorem good_nil (n : Nat) : Good n [] := ⟨List.Pairwise.nil, fun r h => by cases h⟩
theorem good_ne {n : Nat} {R : List (Nat × Nat)} (hg : Good n R) {i j : Nat} (hij : i < j) (hj : j < R.length) : (R[i]'(by omega)).1 + (R[i]'(by omega)).2 ≤ R[j].1 :=
  List.pairwise_iff_getElem.1 hg.1 i j (by omega) hj hij
theorem good_tail {n : Nat} {r : Nat × Nat} {R : List (Nat × Nat)} (h : Good n (r :: R)) : Good n R := ⟨(List.pairwise_cons.1 h.1).2, fun x hx => h.2 x (.tail _ hx)⟩
theorem scan_apart {n k : Nat} : ∀ (R : List (Nat × Nat)) (at_ : Nat), Good n R → (∀ r ∈ R, at_ ≤ r.1) → at_ ≤ scan k at_ R ∧ ∀ r ∈ R, scan k at_ R + k ≤ r.1 ∨ r.1 + r.2 ≤ scan k at_ R := by
  intro R
  induction R with
  | nil => intro a _ _; exact ⟨Nat.le_refl _, fun r h => by cases h⟩
  | cons x R ih =>
    intro a hg ha
    have hx := List.pairwise_cons.1 hg.1
    unfold scan
    split
    · rename_i hk
      refine ⟨Nat.le_refl _, fun r hr => ?_⟩
      rcases List.mem_cons.1 hr with rfl | hr
      · exact .inl hk
      · have := hx.1 r hr; exact .inl (by omega)
    · obtain ⟨h1, h2⟩ := ih (x.1 + x.2) (good_tail hg) (fun r hr => hx.1 r hr)
      have hax := ha x (.head _)
      refine ⟨by omega, fun r hr => ?_⟩
      rcases List.mem_cons.1 hr with rfl | hr
      · exact .inr h1
      · exact h2 r hr
theorem scan_free {n k : Nat} {R : List (Nat × Nat)} (hg : Good n R) : ∀ r ∈ R, scan k 0 R + k ≤ r.1 ∨ r.1 + r.2 ≤ scan k 0 R := (scan_apart R 0 hg fun _ _ => Nat.zero_le _).2
theorem scan_ne {n k : Nat} {R : List (Nat × Nat)} (hg : Good n R) (hk : 1 ≤ k) : ∀ r ∈ R, r.1 ≠ scan k 0 R := by
  intro r hr
  have h1 := (hg.2 r hr).1
  rcases scan_free (k := k) hg r hr with h | h <;> omega
theorem scan_le {n k : Nat} : ∀ (R : List (Nat × Nat)) (a : Nat), Good n R → a ≤ n → scan k a R ≤ n := by
  intro R
  induction R with
  | nil => intro a _ h; exact h
  | cons x R ih =>
    intro a hg ha
    unfold scan
    split
    · exact ha
    · exact ih _ (good_tail hg) (hg.2 x (.head _)).2
theorem mem_ins {x r : Nat × Nat} : ∀ {R : List (Nat × Nat)}, r ∈ ins x R ↔ r = x ∨ r ∈ R := by
  intro R
  induction R with
  | nil => simp [ins]
  | cons y R ih =>
    unfold ins
    split
    · simp
    · simp only [List.mem_cons, ih]
      constructor
      · rintro (h | h | h)
        · exact .inr (.inl h)
        · exact .inl h
        · exact .inr (.inr h)
      · rintro (h | h | h)
        · exact .inr (.inl h)
        · exact .inl h
        · exact .inr (.inr h)
theorem length_ins (x : Nat × Nat) : ∀ R : List (Nat × Nat), (ins x R).length = R.length + 1 := by
  intro R
  induction R with
  | nil => rfl
  | cons y R ih =>
    unfold ins
    split
    · rfl
    · simp [ih]
theorem good_ins {n : Nat} {x : Nat × Nat} (h1 : 1 ≤ x.2) (h2 : x.1 + x.2 ≤ n) : ∀ {R : List (Nat × Nat)}, Good n R → (∀ r ∈ R, x.1 + x.2 ≤ r.1 ∨ r.1 + r.2 ≤ x.1) → Good n (ins x R) := by
  intro R
  induction R with
  | nil =>
    intro _ _
    refine ⟨List.pairwise_singleton _ _, fun r hr => ?_⟩
    obtain rfl := List.mem_singleton.1 hr
    exact ⟨h1, h2⟩
  | cons y R ih =>
    intro hg hx
    have hy := List.pairwise_cons.1 hg.1
    have hy1 := (hg.2 y (.head _)).1
    refine ⟨?_, fun r hr => ?_⟩
    · unfold ins
      split
      · rename_i hlt
        have hxy : x.1 + x.2 ≤ y.1 := by rcases hx y (.head _) with h | h <;> omega
        refine List.pairwise_cons.2 ⟨fun r hr => ?_, hg.1⟩
        rcases List.mem_cons.1 hr with rfl | hr
        · exact hxy
        · have := hy.1 r hr; omega
      · rename_i hlt
        have hxy : y.1 + y.2 ≤ x.1 := by rcases hx y (.head _) with h | h <;> omega
        refine List.pairwise_cons.2 ⟨fun r hr => ?_, (ih (good_tail hg) fun r hr => hx r (.tail _ hr)).1⟩
        rcases mem_ins.1 hr with rfl | hr
        · exact hxy
        · exact hy.1 r hr
    · rcases mem_ins.1 hr with rfl | hr
      · exact ⟨h1, h2⟩
      · exact hg.2 r hr
theorem good_cut {n k : Nat} {R : List (Nat × Nat)} (hg : Good n R) (hk : 1 ≤ k) (hn : scan k 0 R + k ≤ n) : Good n (ins (scan k 0 R, k) R) := good_ins hk hn hg (scan_free hg)
theorem good_drop {n : Nat} {R : List (Nat × Nat)} (k : Int) (hg : Good n R) : Good n (drop k R) := ⟨hg.1.sublist List.filter_sublist, fun r hr => hg.2 r (List.mem_filter.1 hr).1⟩
theorem lenAt_some {R : List (Nat × Nat)} {k : Int} (h : lenAt R k ≠ 0) : ∃ r ∈ R, (r.1 : Int) = k ∧ lenAt R k = r.2 := by
  unfold lenAt at *
  cases hf : R.find? (fun r => decide ((r.1 : Int) = k)) with
  | none => rw [hf] at h; exact absurd rfl h
  | some r =>
    have h1 := List.mem_of_find?_eq_some hf
    have h2 := List.find?_some hf
    exact ⟨r, h1, by simpa using h2, rfl⟩
theorem lenAt_mem {n : Nat} {r : Nat × Nat} : ∀ {R : List (Nat × Nat)}, Good n R → r ∈ R → lenAt R r.1 = r.2 := by
  intro R
  induction R with
  | nil => intro _ h; cases h
  | cons y R ih =>
    intro hg hr
    have hy := List.pairwise_cons.1 hg.1
    have hy1 := (hg.2 y (.head _)).1
    unfold lenAt
    rw [List.find?_cons]
    rcases List.mem_cons.1 hr with rfl | hr
    · simp
    · have := hy.1 r hr
      have hne : decide ((y.1 : Int) = (r.1 : Int)) = false := by simp; omega
      rw [hne]
      exact ih (good_tail hg) hr
theorem good_length {n : Nat} : ∀ (R : List (Nat × Nat)) (a : Nat), Good n R → (∀ r ∈ R, a ≤ r.1) → R ≠ [] → a + R.length ≤ n := by
  intro R
  induction R with
  | nil => intro a _ _ h; exact absurd rfl h
  | cons y R ih =>
    intro a hg ha _
    have hy := List.pairwise_cons.1 hg.1
    have hy1 := hg.2 y (.head _)
    have hay := ha y (.head _)
    by_cases hR : R = []
    · subst hR; simp; omega
    · have := ih (y.1 + y.2) (good_tail hg) (fun r hr => hy.1 r hr) hR
      simp only [List.length_cons]; omega
theorem good_len {n : Nat} {R : List (Nat × Nat)} (hg : Good n R) : R.length ≤ n := by
  by_cases h : R = []
  · subst h; exact Nat.zero_le _
  · have := good_length R 0 hg (fun _ _ => Nat.zero_le _) h; omega
/-- what is sorted out of the keys is the places, rising -/
theorem keys_sorted {n : Nat} {R : List (Nat × Nat)} {ss : List Int} (hg : Good n R) (h : ss.Perm (intKeys (regD R))) : ss.mergeSort (fun x y => decide (x ≤ y)) = R.map fun r => (r.1 : Int) := by
  rw [regD_keys] at h
  have hs : (R.map fun r => (r.1 : Int)).Pairwise (fun a b => a ≤ b) := by
    rw [List.pairwise_map]
    exact hg.1.imp fun {a b} hab => by omega
  have h1 : (ss.mergeSort (fun x y => decide (x ≤ y))).Pairwise (fun a b => a ≤ b) := by
    have := List.pairwise_mergeSort (le := fun x y : Int => decide (x ≤ y)) (fun a b c h1 h2 => by simp at *; omega) (fun a b => by simp; omega) ss
    exact this.imp fun {a b} h => by simpa using h
  exact List.Perm.eq_of_pairwise (fun a b _ _ h1 h2 => by omega) h1 hs ((List.mergeSort_perm ss _).trans h)
end Arena
end Go.Proofs.YtppkgfcobnknfaaGreatDoor
/- The reference's arena in memory; what only reads it. -/
namespace Go.Proofs.YtppkgfcobnknfaaGreatDoor
open Go.RowKit Go.Maps Arena
set_option maxHeartbeats 4000000
set_option maxRecDepth 100000
/-- the reference's arena: its row, its words, its regions -/
structure RefAt (w : World) (q gq B n : Nat) (ws : List Int) (vR : Value) (R : List (Nat × Nat)) : Prop where
  row : w.heap[q]? = some (.cells #[.slice (some ⟨gq, 0, none⟩) n n, vR] 119 (0, 0))
  words : w.heap[gq]? = some (.cells (ws.map fun x => Value.int .u64 x).toArray 42 (0, 0))
  len : ws.length = n
  regs : PairRow w B vR R
  good : Arena.Good n R
  ne : q ≠ gq
  qB : q < B
  gB : gq < B
  least : n ≤ 20000
theorem RefAt.lt {w : World} {q gq B n : Nat} {ws : List Int} {vR : Value} {R : List (Nat × Nat)} (h : RefAt w q gq B n ws vR R) : q < w.heap.size ∧ gq < w.heap.size :=
  ⟨(Array.getElem?_eq_some_iff.1 h.row).1, (Array.getElem?_eq_some_iff.1 h.words).1⟩
theorem RefAt.turn {w w' : World} {q gq B n : Nat} {ws : List Int} {vR : Value} {R : List (Nat × Nat)} {bs : List Nat} (h : RefAt w q gq B n ws vR R) (t : Turn bs w w') (hq : q ∉ bs) (hg : gq ∉ bs) (hb : ∀ b ∈ bs, b < B) : RefAt w' q gq B n ws vR R := by
  obtain ⟨lq, lg⟩ := h.lt
  exact ⟨by rw [t.block q lq hq]; exact h.row, by rw [t.block gq lg hg]; exact h.words, h.len, h.regs.turn t hb, h.good, h.ne, h.qB, h.gB, h.least⟩
theorem RefAt.ext {w w' : World} {q gq B n : Nat} {ws : List Int} {vR : Value} {R : List (Nat × Nat)} (h : RefAt w q gq B n ws vR R) (e : Ext w w') : RefAt w' q gq B n ws vR R :=
  h.turn (Turn.of_ext (bs := []) e) (by simp) (by simp) (by simp)
theorem RefAt.cells {w : World} {q gq B n : Nat} {ws : List Int} {vR : Value} {R : List (Nat × Nat)} (h : RefAt w q gq B n ws vR R) :
    w.cell? ⟨q, 0, none⟩ = some (.slice (some ⟨gq, 0, none⟩) n n) ∧ w.cell? ⟨q, 1, none⟩ = some vR ∧ w.frozen? ⟨q, 1, none⟩ = false := by
  refine ⟨?_, ?_, ?_⟩
  · simp [World.cell?, h.row]
  · simp [World.cell?, h.row]
  · simp [World.frozen?, h.row]
theorem RefAt.word {w : World} {q gq B n : Nat} {ws : List Int} {vR : Value} {R : List (Nat × Nat)} (h : RefAt w q gq B n ws vR R) {i : Nat} (hi : i < n) : w.cell? ⟨gq, i, none⟩ = some (.int .u64 (ws.getD i 0)) ∧ w.frozen? ⟨gq, i, none⟩ = false := by
  have hl : i < ws.length := by rw [h.len]; exact hi
  constructor
  · simp [World.cell?, h.words, hl]
  · simp [World.frozen?, h.words]
theorem lenAt_zero {n : Nat} {R : List (Nat × Nat)} {k : Int} (hg : Arena.Good n R) (h0 : lenAt R k = 0) : ∀ r ∈ R, (r.1 : Int) ≠ k := by
  intro r hr e
  subst e
  have h1 := lenAt_mem hg hr
  have h2 := (hg.2 r hr).1
  omega
theorem find_yes {w : World} {q gq B n : Nat} {ws : List Int} {vR : Value} {R : List (Nat × Nat)} (h : RefAt w q gq B n ws vR R) {i : Nat} (hi : i < R.length) :
    Calls Tryz.prog 74 #[.pointer (some ⟨q, 0, none⟩), .int .i64 R[i].1] w fun e w' => e = .returned (.int .i64 i) ∧ w = w' := by
  obtain ⟨qa, ca, rfl, la1, la2, hca⟩ := h.regs.sl
  obtain ⟨c0, c1, _⟩ := h.cells
  have hg := h.good
  have HG := Lib.hid hg
  have HA := Lib.hid hca
  have hrl := good_len hg
  have hn := h.least
  unfold maxLen at la2
  have HI := Lib.hid (show R[i] = R[i] from rfl)
  generalize hx : R[i] = x at HI ⊢
  have HX := Lib.hid hx
  clear hca h hg hx HI
  go_enter Tryz.func74, Tryz.ntmps74
  go_wp2
  go_loop [5] (fun j => ∃ k : Nat, k ≤ i ∧ j = .int .i64 k) (fun j => R.length - (Go.RowKit.intOf j).toNat)
  case atStart => exact ⟨0, by omega, rfl⟩
  case round =>
    obtain ⟨k, hk, rfl⟩ := hrel
    have i1 : (k : Int) < (R.length : Int) := by omega
    obtain ⟨b, off, rfl, p0, p1⟩ := HA.out k _ (List.getElem?_eq_getElem (by omega))
    by_cases hlt : k < i
    · have hne := good_ne HG.out hlt hi
      have hp := (HG.out.2 R[k] (List.getElem_mem (by omega))).1
      rw [HX.out] at hne
      have bne : ((R[k].1 : Int) == (x.1 : Int)) = false := beq_false_of_ne (by omega)
      clear hne hp p1
      generalize R[k] = y at *
      go_wp2
      go_round
      case rel => exact ⟨k + 1, by omega, by go_num⟩
      case measure => simp [Go.RowKit.intOf]; omega
    · obtain rfl : k = i := by omega
      rw [HX.out] at p0
      clear p1
      go_wp2
      go_ret
      exact ⟨rfl, rfl⟩
theorem find_no {w : World} {q gq B n : Nat} {ws : List Int} {vR : Value} {R : List (Nat × Nat)} {x : Int} (h : RefAt w q gq B n ws vR R) (h0 : lenAt R x = 0) :
    Calls Tryz.prog 74 #[.pointer (some ⟨q, 0, none⟩), .int .i64 x] w fun e w' => e = .returned (.int .i64 (-1)) ∧ w = w' := by
  obtain ⟨qa, ca, rfl, la1, la2, hca⟩ := h.regs.sl
  obtain ⟨c0, c1, _⟩ := h.cells
  have hg := h.good
  have HZ := Lib.hid (lenAt_zero hg h0)
  have HA := Lib.hid hca
  have hrl := good_len hg
  have hn := h.least
  unfold maxLen at la2
  clear hca h hg h0
  go_enter Tryz.func74, Tryz.ntmps74
  go_wp2
  go_loop [5] (fun j => ∃ k : Nat, k ≤ R.length ∧ j = .int .i64 k) (fun j => R.length - (Go.RowKit.intOf j).toNat)
  case atStart => exact ⟨0, by omega, rfl⟩
  case round =>
    obtain ⟨k, hk, rfl⟩ := hrel
    by_cases hlt : k < R.length
    · have i1 : (k : Int) < (R.length : Int) := by omega
      obtain ⟨b, off, rfl, p0, p1⟩ := HA.out k _ (List.getElem?_eq_getElem hlt)
      have bne : ((R[k].1 : Int) == x) = false := beq_false_of_ne (HZ.out _ (List.getElem_mem hlt))
      clear p1
      generalize R[k] = y at *
      go_wp2
      go_round
      case rel => exact ⟨k + 1, by omega, by go_num⟩
      case measure => simp [Go.RowKit.intOf]; omega
    · obtain rfl : k = R.length := by omega
      go_wp2
      go_ret
      exact ⟨rfl, rfl⟩
theorem size_yes {w : World} {q gq B n : Nat} {ws : List Int} {vR : Value} {R : List (Nat × Nat)} (h : RefAt w q gq B n ws vR R) {r : Nat × Nat} (hr : r ∈ R) :
    Calls Tryz.prog 55 #[.pointer (some ⟨q, 0, none⟩), .int .i64 r.1] w fun e w' => e = .returned (.int .i64 r.2) ∧ w = w' := by
  obtain ⟨i, hi, rfl⟩ := List.getElem_of_mem hr
  have HF := Lib.hid (find_yes h hi)
  obtain ⟨qa, ca, rfl, la1, la2, hca⟩ := h.regs.sl
  obtain ⟨c0, c1, _⟩ := h.cells
  have hrl := good_len h.good
  have hn := h.least
  obtain ⟨b, off, rfl, p0, p1⟩ := hca i _ (List.getElem?_eq_getElem hi)
  unfold maxLen at la2
  have i1 : (i : Int) < (R.length : Int) := by omega
  clear hca h p0 hr
  generalize R[i] = y at *
  go_enter Tryz.func55, Tryz.ntmps55
  go_wp2_with fail
  refine HF.out.mono ?_; rintro e w' ⟨rfl, rfl⟩
  go_wp2
  go_ret
  exact ⟨rfl, rfl⟩
theorem size_no {w : World} {q gq B n : Nat} {ws : List Int} {vR : Value} {R : List (Nat × Nat)} {x : Int} (h : RefAt w q gq B n ws vR R) (h0 : lenAt R x = 0) :
    Calls Tryz.prog 55 #[.pointer (some ⟨q, 0, none⟩), .int .i64 x] w fun e w' => e = .returned (.int .i64 (-1)) ∧ w = w' := by
  have HF := Lib.hid (find_no h h0)
  clear h h0
  go_enter Tryz.func55, Tryz.ntmps55
  go_wp2_with fail
  refine HF.out.mono ?_; rintro e w' ⟨rfl, rfl⟩
  go_wp2
  go_ret
  exact ⟨rfl, rfl⟩
end Go.Proofs.YtppkgfcobnknfaaGreatDoor
/- The reference's arena: what writes its words; a new one. -/
namespace Go.Proofs.YtppkgfcobnknfaaGreatDoor
open Go.RowKit Go.Maps Arena
set_option maxHeartbeats 4000000
set_option maxRecDepth 100000
theorem RefAt.store {w : World} {q gq B n : Nat} {ws : List Int} {vR : Value} {R : List (Nat × Nat)} (h : RefAt w q gq B n ws vR R) (i : Nat) (v : Int) : RefAt (w.setCell ⟨gq, i, none⟩ (.int .u64 v)) q gq B n (ws.set i v) vR R := by
  have t : Turn [gq] w (w.setCell ⟨gq, i, none⟩ (.int .u64 v)) := (Turn.refl _ _).setCell (.inl (by simp)) _
  obtain ⟨lq, lg⟩ := h.lt
  refine ⟨by rw [t.block q lq (by simp; exact h.ne)]; exact h.row, ?_, by rw [List.length_set]; exact h.len, h.regs.turn t (by intro b hb; simp at hb; subst hb; exact h.gB), h.good, h.ne, h.qB, h.gB, h.least⟩
  rw [heap_setCell_same w gq i _ _ _ h.words]
  rw [List.map_set]
  simp
theorem refset_yes {w : World} {q gq B n : Nat} {ws : List Int} {vR : Value} {R : List (Nat × Nat)} (h : RefAt w q gq B n ws vR R) {r : Nat × Nat} (hr : r ∈ R) {a : Nat} (ha : a < r.2) {v : Int} :
    Calls Tryz.prog 29 #[.pointer (some ⟨q, 0, none⟩), .int .i64 r.1, .int .i64 a, .int .u64 v] w fun e w' => e = .returned (.bool true) ∧ RefAt w' q gq B n (ws.set (r.1 + a) v) vR R ∧ Turn [gq] w w' := by
  have HF := Lib.hid (size_yes h hr)
  obtain ⟨c0, c1, _⟩ := h.cells
  obtain ⟨h1, h2⟩ := h.good.2 r hr
  obtain ⟨k0, k1⟩ := h.word (i := r.1 + a) (by omega)
  have hn := h.least
  have b1 : decide ((a : Int) < 0) = false := decide_eq_false (by omega)
  have b2 : decide ((r.2 : Int) ≤ (a : Int)) = false := decide_eq_false (by omega)
  have HST := Lib.hid (h.store (r.1 + a) v)
  generalize ws.getD (r.1 + a) 0 = u at *
  clear h hr
  go_enter Tryz.func29, Tryz.ntmps29
  go_wp2_with fail
  refine HF.out.mono ?_; rintro e w' ⟨rfl, rfl⟩
  go_wp2
  go_ret
  exact ⟨rfl, HST.out, (Turn.refl _ _).setCell (.inl (by simp)) _⟩
theorem refset_no {w : World} {q gq B n : Nat} {ws : List Int} {vR : Value} {R : List (Nat × Nat)} (h : RefAt w q gq B n ws vR R) {x a v : Int} (h0 : lenAt R x = 0) :
    Calls Tryz.prog 29 #[.pointer (some ⟨q, 0, none⟩), .int .i64 x, .int .i64 a, .int .u64 v] w fun e w' => e = .returned (.bool false) ∧ w = w' := by
  have HF := Lib.hid (size_no h h0)
  clear h h0
  by_cases hneg : a < 0
  · have b1 : decide (a < 0) = true := decide_eq_true hneg
    go_enter Tryz.func29, Tryz.ntmps29
    go_wp2
    go_ret
    exact ⟨rfl, rfl⟩
  · have b1 : decide (a < 0) = false := decide_eq_false hneg
    have b2 : decide ((-1 : Int) ≤ a) = true := decide_eq_true (by omega)
    go_enter Tryz.func29, Tryz.ntmps29
    go_wp2_with fail
    refine HF.out.mono ?_; rintro e w' ⟨rfl, rfl⟩
    go_wp2
    go_ret
    exact ⟨rfl, rfl⟩
theorem refset_out {w : World} {q gq B n : Nat} {ws : List Int} {vR : Value} {R : List (Nat × Nat)} (h : RefAt w q gq B n ws vR R) {r : Nat × Nat} (hr : r ∈ R) {a v : Int} (ha : a < 0 ∨ (r.2 : Int) ≤ a) :
    Calls Tryz.prog 29 #[.pointer (some ⟨q, 0, none⟩), .int .i64 r.1, .int .i64 a, .int .u64 v] w fun e w' => e = .returned (.bool false) ∧ w = w' := by
  have HF := Lib.hid (size_yes h hr)
  clear h hr
  by_cases hneg : a < 0
  · have b1 : decide (a < 0) = true := decide_eq_true hneg
    clear ha
    go_enter Tryz.func29, Tryz.ntmps29
    go_wp2
    go_ret
    exact ⟨rfl, rfl⟩
  · have b1 : decide (a < 0) = false := decide_eq_false hneg
    have b2 : decide ((r.2 : Int) ≤ a) = true := decide_eq_true (by omega)
    clear ha
    go_enter Tryz.func29, Tryz.ntmps29
    go_wp2_with fail
    refine HF.out.mono ?_; rintro e w' ⟨rfl, rfl⟩
    go_wp2
    go_ret
    exact ⟨rfl, rfl⟩
theorem refnew_no {w : World} {n : Int} (hn : n < 1 ∨ 20000 < n) : Calls Tryz.prog 25 #[.int .i64 n] w fun e w' => e = .returned (.pointer none) ∧ w = w' := by
  by_cases h1 : n < 1
  · have b1 : decide (n < 1) = true := decide_eq_true h1
    clear hn
    go_enter Tryz.func25, Tryz.ntmps25
    go_wp2
    go_ret
    exact ⟨rfl, rfl⟩
  · have b1 : decide (n < 1) = false := decide_eq_false h1
    have b2 : decide (20000 < n) = true := decide_eq_true (by omega)
    clear hn
    go_enter Tryz.func25, Tryz.ntmps25
    go_wp2
    go_ret
    exact ⟨rfl, rfl⟩
theorem made_zeros' (n : Nat) : madeCells #[Value.int .u64 0] n = ((List.replicate n (0 : Int)).map fun x => Value.int .u64 x).toArray := by
  apply Array.ext'
  rw [toList_madeCells_one]
  simp
theorem refnew_is {w : World} {n : Nat} (h1 : 1 ≤ n) (h2 : n ≤ 20000) : Calls Tryz.prog 25 #[.int .i64 n] w fun e w' =>
    ∃ q gq, e = .returned (.pointer (some ⟨q, 0, none⟩)) ∧ RefAt w' q gq w'.heap.size n (List.replicate n 0) (.slice none 0 0) [] ∧ Ext w w' ∧ w.heap.size ≤ q ∧ w.heap.size ≤ gq := by
  have b1 : decide ((n : Int) < 1) = false := decide_eq_false (by omega)
  have b2 : decide (20000 < (n : Int)) = false := decide_eq_false (by omega)
  have hmk := run_make_row' (P := Tryz.prog) 22 42 (.int .u64 0) 8 Tryz.underlying22 info_u64 rfl .i64 .i64 n (by omega) (by omega)
  go_enter Tryz.func25, Tryz.ntmps25
  go_wp2
  go_ret
  refine ⟨w.heap.size + 1, w.heap.size, rfl, ⟨?_, ?_, by simp, PairRow.nil _ _, good_nil _, by omega, by simp, by simp; omega, h2⟩, (Ext.alloc _ _).trans (Ext.alloc _ _), by omega, by omega⟩
  · have := heap_alloc_new (w.alloc (.cells (madeCells #[Value.int .u64 0] n) 42)) (.cells #[.slice (some ⟨w.heap.size, 0, none⟩) n n, .slice none 0 0] 119)
    simpa using this
  · rw [Below.block (Below.alloc (B := w.heap.size + 1) (Below.refl _ _) (by simp) _) w.heap.size (by omega), heap_alloc_new, made_zeros']
end Go.Proofs.YtppkgfcobnknfaaGreatDoor
/- Pairs appended to pairs: what an append may take them from. -/
namespace Go.Proofs.YtppkgfcobnknfaaGreatDoor
open Go.RowKit Go.Maps
set_option maxHeartbeats 4000000
set_option maxRecDepth 100000
/-- what an append may take its elements from: a slice that reads as pairs, nil or at an address -/
def PairSrc (w : World) (u : Value) (L : List (Nat × Nat)) : Prop := PairSl w u L ∧ ((∃ ad m c, u = .slice (some ad) m c) ∨ u = .slice none 0 0)
theorem pairSl_take {w : World} {q : Option Addr} {c k : Nat} {R : List (Nat × Nat)} (h : PairSl w (.slice q R.length c) R) (hk : k ≤ R.length) : PairSl w (sliced q 0 k c 2) (R.take k) := by
  obtain ⟨q', c', he, h1, h2, hc⟩ := h
  obtain ⟨rfl, _, rfl⟩ := Value.slice.inj he
  have hl : (R.take k).length = k := by rw [List.length_take]; omega
  refine ⟨if c = 0 then q else q.map (·.add (0 * 2)), c, by unfold sliced; rw [hl, Nat.sub_zero, Nat.sub_zero], by omega, h2, fun i x hx => ?_⟩
  have hi : i < (R.take k).length := (List.getElem?_eq_some_iff.1 hx).1
  rw [List.getElem?_take_of_lt (by omega)] at hx
  obtain ⟨b, off, rfl, p0, p1⟩ := hc i x hx
  exact ⟨b, off, by split <;> simp [Addr.add], p0, p1⟩
theorem pairSl_drop {w : World} {q : Option Addr} {c k : Nat} {R : List (Nat × Nat)} (h : PairSl w (.slice q R.length c) R) (hk : k ≤ R.length) : PairSl w (sliced q k R.length c 2) (R.drop k) := by
  obtain ⟨q', c', he, h1, h2, hc⟩ := h
  obtain ⟨rfl, _, rfl⟩ := Value.slice.inj he
  have hl : (R.drop k).length = R.length - k := by rw [List.length_drop]
  refine ⟨if c = k then q else q.map (·.add (k * 2)), c - k, by unfold sliced; rw [hl], by omega, by omega, fun i x hx => ?_⟩
  have hi : i < (R.drop k).length := (List.getElem?_eq_some_iff.1 hx).1
  rw [List.getElem?_drop] at hx
  obtain ⟨b, off, rfl, p0, p1⟩ := hc (k + i) x hx
  refine ⟨b, off + k * 2, ?_, ?_, ?_⟩
  · rw [if_neg (by omega)]; simp [Addr.add]
  · rw [show off + k * 2 + i * 2 = off + (k + i) * 2 by omega]; exact p0
  · rw [show off + k * 2 + i * 2 + 1 = off + (k + i) * 2 + 1 by omega]; exact p1
theorem flat2_length (L : List (Nat × Nat)) : (L.flatMap pairC).length = L.length * 2 := by
  induction L with
  | nil => rfl
  | cons x L ih => rw [List.flatMap_cons, List.length_append, ih]; simp [pairC]; omega
theorem pair_elem : Tryz.prog.elem 117 = 121 := by kernel_rfl
theorem pair_size (w : World) : (sizeOf (Tryz.prog.elem 117)).run Tryz.prog w = .ok 2 w := by kernel_rfl
theorem src_of {w : World} {q : Option Addr} {n c l h m : Nat} {L : List (Nat × Nat)} (hv : (∃ ad, q = some ad) ∨ (q = none ∧ c = 0 ∧ n = 0)) (hh : h ≤ m) (hm : m ≤ c) (hs : PairSl w (sliced q l h m 2) L) : PairSrc w (sliced q l h m 2) L := by
  refine ⟨hs, ?_⟩
  rcases hv with ⟨ad, rfl⟩ | ⟨rfl, rfl, rfl⟩
  · left
    unfold sliced
    split
    · exact ⟨_, _, _, rfl⟩
    · exact ⟨_, _, _, rfl⟩
  · right
    obtain rfl : m = 0 := by omega
    obtain rfl : h = 0 := by omega
    unfold sliced
    simp
theorem PairRow.nilOr {w : World} {B : Nat} {v : Value} {R : List (Nat × Nat)} (h : PairRow w B v R) : ∃ q c, v = .slice q R.length c ∧ R.length ≤ c ∧ ((∃ ad, q = some ad) ∨ (q = none ∧ c = 0 ∧ R.length = 0)) := by
  rcases h.2 with ⟨h1, h2⟩ | ⟨b, c, cur, h1, hb, hg, h2, h3, h4, h5⟩
  · exact ⟨none, 0, by rw [h1, h2], by omega, .inr ⟨rfl, rfl, h2⟩⟩
  · exact ⟨_, c, h1, h2, .inl ⟨_, rfl⟩⟩
theorem head_src {w : World} {B k : Nat} {v : Value} {R : List (Nat × Nat)} (h : PairRow w B v R) (hk : k ≤ R.length) :
    ∃ u, (∀ W, (Instr.slice 117 v none (some (.int .i64 k)) none).run Tryz.prog W = .ok u W) ∧ ∀ W, PairRow W B v R → PairSrc W u (R.take k) := by
  obtain ⟨q, c, rfl, hc, hn⟩ := h.nilOr
  refine ⟨sliced q 0 k c 2, fun W => ?_, fun W hW => src_of hn (by omega) (Nat.le_refl _) (pairSl_take hW.sl hk)⟩
  rw [run_slice_h W 117 q R.length c (by rw [pair_elem]; exact Tryz.underlying117) .i64 k (by omega) (by omega), pair_size]
  simp
theorem tail_src {w : World} {B k : Nat} {v : Value} {R : List (Nat × Nat)} (h : PairRow w B v R) (hk : k ≤ R.length) :
    ∃ u, (∀ W, (Instr.slice 117 v (some (.int .i64 k)) none none).run Tryz.prog W = .ok u W) ∧ ∀ W, PairRow W B v R → PairSrc W u (R.drop k) := by
  obtain ⟨q, c, rfl, hc, hn⟩ := h.nilOr
  refine ⟨sliced q k R.length c 2, fun W => ?_, fun W hW => src_of hn (by omega) (Nat.le_refl _) (pairSl_drop hW.sl hk)⟩
  rw [run_slice_l W 117 q R.length c (by rw [pair_elem]; exact Tryz.underlying117) .i64 k (by omega) (by omega), pair_size]
  simp
/-- an append of pairs, wherever they lie, to a row of the call's own, at a step of a region that draws -/
theorem step_append_pairs {w : World} {ops : Array Oper} {o : Oper} {a : Act} {K : Act → World → Prop} {Q : Exit → Act → World → Prop} {E : Prop} (hgd : o.guard = none) (s x : Operand)
    (ho : o.op = .call { callee := .builtin .append, args := #[s, x], argTypes := #[117, 117] })
    (base : Nat) (v u : Value) (R L : List (Nat × Nat)) (hs : a.eval s = v) (hown : PairRow w base v R) (hx : a.eval x = u) (hu : PairSrc w u L)
    (h63 : R.length + L.length ≤ 1000000) (hbase : base ≤ w.heap.size)
    (h : ∀ v' w', PairRow w' base v' (R ++ L) → w.grownBy w' v.ownBlock → K (a.put o.dst v') w') :
    if Region.wanted o (yielded ops a.tmps) = true then Oper.wp Tryz.prog o a w K Q else E := by
  have hw : Region.wanted o (yielded ops a.tmps) = true := by simp [Region.wanted, hgd]
  rw [if_pos hw]
  obtain ⟨i0, hi, hz0, hz1, hz2⟩ := info_parts info_pair
  have hrun : ∃ v' w', (Builtin.append_ #[117, 117] o.type #[v, u]).run Tryz.prog w = .ok v' w' ∧ PairRow w' base v' (R ++ L) ∧ w.grownBy w' v.ownBlock := by
    obtain ⟨⟨q, c, hv, h1, h2, hc⟩, hsrc⟩ := hu
    rcases hsrc with ⟨ad, m, c', rfl⟩ | rfl
    · obtain ⟨rfl, rfl, rfl⟩ := Value.slice.inj hv
      have hnews : ∀ j y, (L.flatMap pairC)[j]? = some y → w.cell? (ad.add j) = some y := by
        intro j y hj
        have hjl : j < (L.flatMap pairC).length := (List.getElem?_eq_some_iff.1 hj).1
        rw [flat2_length L] at hjl
        obtain ⟨b, off, hq, p0, p1⟩ := hc (j / 2) _ (List.getElem?_eq_getElem (by omega))
        obtain rfl := Option.some.inj hq
        obtain ⟨f0, f1⟩ := flat2 L (j / 2) _ (List.getElem?_eq_getElem (by omega))
        rw [Go.WideShapes.add_plain]
        rcases Nat.mod_two_eq_zero_or_one j with e | e
        · have ej : j / 2 * 2 = j := by omega
          rw [ej] at f0 p0
          rw [p0, ← f0, hj]
        · have ej : j / 2 * 2 + 1 = j := by omega
          rw [ej] at f1
          rw [Nat.add_assoc, ej] at p1
          rw [p1, ← f1, hj]
      have hone : ∀ y ∈ L.flatMap pairC, y.oneCell' = true := by
        intro y hy
        obtain ⟨r, _, hr⟩ := List.mem_flatMap.1 hy
        simp [pairC] at hr
        rcases hr with rfl | rfl <;> rfl
      obtain ⟨v', w', hr, h3, h4, _, _⟩ := run_append_own_at (P := Tryz.prog) w base 117 o.type 121 i0 _ 2 16 Tryz.underlying117 hi hz0 hz1 hz2 rfl (by decide) v R.length (R.flatMap pairC) hown
        ad L.length c' (L.flatMap pairC) (flat2_length L) hnews hone (by unfold maxLen; omega) (by omega) hbase
      exact ⟨v', w', hr, by unfold PairRow; rw [List.length_append, List.flatMap_append]; exact h3, h4⟩
    · obtain ⟨_, hl, _⟩ := Value.slice.inj hv
      obtain rfl : L = [] := List.length_eq_zero_iff.1 hl.symm
      refine ⟨v, w, run_append_owned_none w base 117 o.type 121 i0 2 Tryz.underlying117 hi v R.length (R.flatMap pairC) hown, by rw [List.append_nil]; exact hown, ?_⟩
      exact ⟨rfl, rfl, rfl, Nat.le_refl _, fun _ _ _ => rfl⟩
  obtain ⟨v', w', hr, h2, h3⟩ := hrun
  unfold Oper.wp execOp
  simp only [ho, resolve, invoke, builtin, Sem.run_bind, Sem.run_pure, Result.andThen_ok, List.map_toArray, List.map_cons, List.map_nil, hs, hx, hr]
  exact h v' w' h2 h3
theorem keep3 {w w' : World} {a : Addr} {v : Value} (h : w.cell? a = some v) (f : w.frozen? a = false) (e : Ext w w') : w'.cell? a = some v ∧ w'.frozen? a = false ∧ Ext w w' :=
  ⟨e.cell h, (e.frozen h).trans f, e⟩
theorem ext_grown {w W W' : World} {v : Value} (e : Ext w W) (hg : W.grownBy W' v.ownBlock) (hv : ∀ b, v.ownBlock = some b → w.heap.size ≤ b) : Ext w W' :=
  Below.grown e hg e.size hv
theorem empty_row (w : World) : PairRow (w.alloc (.cells #[] 121)).drew w.heap.size (.slice (some ⟨w.heap.size, 0, none⟩) 0 0) [] :=
  World.ownsRow.drew (World.ownsRow_lit w #[] 0 (Nat.le_refl _) (Nat.zero_le _) rfl)
theorem empty_at {w : World} {b B : Nat} (hb : w.heap[b]? = some (.cells #[] 121 (0, 0))) (hB : B ≤ b) : PairRow w B (.slice (some ⟨b, 0, none⟩) 0 0) [] :=
  ⟨rfl, .inr ⟨b, 0, #[], rfl, hB, hb, Nat.le_refl _, Nat.zero_le _, rfl, rfl⟩⟩
theorem pair_at {w : World} {b x y : Nat} (hb : w.heap[b]? = some (.cells #[.int .i64 x, .int .i64 y] 121 (0, 0))) : PairSrc w (.slice (some ⟨b, 0, none⟩) 1 1) [(x, y)] := by
  refine ⟨⟨_, 1, rfl, by simp, by unfold maxLen; omega, fun i z hz => ?_⟩, .inl ⟨_, _, _, rfl⟩⟩
  have hi : i = 0 := by
    have := (List.getElem?_eq_some_iff.1 hz).1
    simp at this; exact this
  subst hi
  simp at hz
  subst hz
  exact ⟨b, 0, rfl, by simp [World.cell?, hb], by simp [World.cell?, hb]⟩
end Go.Proofs.YtppkgfcobnknfaaGreatDoor
/- The reference's arena: what makes its regions anew. -/
namespace Go.Proofs.YtppkgfcobnknfaaGreatDoor
open Go.RowKit Go.Maps Arena
set_option maxHeartbeats 4000000
set_option maxRecDepth 100000
attribute [local go_sem ↓] Go.wp_at_zero Go.wp_at_succ
/-- the rest of a row without one of its places -/
theorem drop_at {n : Nat} {R : List (Nat × Nat)} (hg : Arena.Good n R) {i : Nat} (hi : i < R.length) : R.take i ++ R.drop (i + 1) = Arena.drop (R[i].1 : Int) R := by
  have h1 : Arena.drop (R[i].1 : Int) (R.take i ++ R[i] :: R.drop (i + 1)) = R.take i ++ R.drop (i + 1) := by
    unfold Arena.drop
    rw [List.filter_append, List.filter_cons]
    simp only [decide_true, Bool.not_true, Bool.false_eq_true, if_false]
    congr 1
    · refine List.filter_eq_self.2 fun r hr => ?_
      obtain ⟨j, hj, rfl⟩ := List.getElem_of_mem hr
      rw [List.length_take] at hj
      have := good_ne hg (i := j) (j := i) (by omega) hi
      have := (hg.2 R[j] (List.getElem_mem (by omega))).1
      simp only [List.getElem_take, Bool.not_eq_true', decide_eq_false_iff_not]
      omega
    · refine List.filter_eq_self.2 fun r hr => ?_
      obtain ⟨j, hj, rfl⟩ := List.getElem_of_mem hr
      rw [List.length_drop] at hj
      have := good_ne hg (i := i) (j := i + 1 + j) (by omega) (by omega)
      have := (hg.2 R[i] (List.getElem_mem (by omega))).1
      simp only [List.getElem_drop, Bool.not_eq_true', decide_eq_false_iff_not]
      omega
  rw [← h1, List.getElem_cons_drop, List.take_append_drop]
theorem RefAt.newRegs {w w' : World} {q gq B n : Nat} {ws : List Int} {vR v : Value} {R R' : List (Nat × Nat)} (h : RefAt w q gq B n ws vR R) (e : Ext w w') (hB : B ≤ w.heap.size) (hv : PairRow w' w.heap.size v R') (hg : Arena.Good n R') :
    RefAt (w'.setCell ⟨q, 1, none⟩ v) q gq B n ws v R' := by
  have hlt := h.lt
  have t : Turn [q] w' (w'.setCell ⟨q, 1, none⟩ v) := (Turn.refl _ _).setCell (.inl (by simp)) _
  have h2 := h.ext e
  obtain ⟨lq, lg⟩ := h2.lt
  refine ⟨?_, by rw [t.block gq lg (by simp; exact fun e => h.ne e.symm)]; exact h2.words, h.len, (hv.turn t (by simp; omega)).mono hB, hg, h.ne, h.qB, h.gB, h.least⟩
  rw [heap_setCell_same w' q 1 _ _ _ h2.row]
  rfl
end Go.Proofs.YtppkgfcobnknfaaGreatDoor
/-
  DERIVED: THE SHELF's CONTRACTS AT THIS DUMP, IN PLAIN WORDS (tools/lay-plain.mjs out of 'TryzShelf.lean', which tools/lay-shelf.mjs wrote): THE SAME DECLARATIONS UNDER THE SAME NAMES: 'import', 'namespace', 'open', 'def', 'theorem' AND NOTHING ELSE: no command of the shelf's: FOR A HAND-IN. Each laying: the table of numbers ('.._ren') and one theorem, a field a fact of the dump's own or the kernel's comparison; each contract: ONE APPLICATION.
-/
namespace Go.Proofs
open Go.Shelf
def Tryz.keysA_ren : Go.Shelf.Ren := ⟨fun | 7 => 73 | 10 => 79 | n => n, fun | 23 => 114 | 26 => 3 | 3 => 3 | 28 => 141 | 0 => 0 | 27 => 140 | 33 => 150 | 4 => 4 | n => n, fun | n => n⟩
theorem Tryz.keysA : Go.Proofs.SlLaysZI.n7 Tryz.prog Tryz.keysA_ren := {
  mixed := by kernel_rfl
  f7 := ⟨Tryz.f73.name, by decide, Tryz.func73.trans (congrArg some (by kernel_rfl))⟩
  f10 := ⟨Tryz.f79.name, by decide, Tryz.func79.trans (congrArg some (by kernel_rfl))⟩
  t0 := Tryz.underlying0
  a0 := Tryz.isAgg0
  z0 := Tryz.sizeOf0
  v0 := Tryz.zeroValue0
  t4 := Tryz.underlying4
  a4 := Tryz.isAgg4
  z4 := Tryz.sizeOf4
  v4 := Tryz.zeroValue4
  t23 := Tryz.underlying114
  a23 := Tryz.isAgg114
  z23 := Tryz.sizeOf114
  v23 := Tryz.zeroValue114
  t26 := Tryz.underlying3
  a26 := Tryz.isAgg3
  z26 := Tryz.sizeOf3
  v26 := Tryz.zeroValue3
  t27 := Tryz.underlying140
  a27 := Tryz.isAgg140
  z27 := Tryz.sizeOf140
  v27 := Tryz.zeroValue140
  t28 := Tryz.underlying141
  a28 := Tryz.isAgg141
  z28 := Tryz.sizeOf141
  v28 := Tryz.zeroValue141
  t33 := Tryz.underlying150
  a33 := Tryz.isAgg150
  z33 := Tryz.sizeOf150
  v33 := Tryz.zeroValue150 }
def Tryz.sortedA_ren : Go.Shelf.Ren := ⟨fun | 6 => 72 | 8 => 77 | 9 => 78 | 11 => 82 | 13 => 84 | 12 => 83 | 23 => 94 | 24 => 95 | 14 => 85 | 15 => 86 | 16 => 87 | 17 => 88 | 18 => 89 | 19 => 90 | 20 => 91 | 21 => 92 | 22 => 93 | 25 => 96 | 26 => 97 | 27 => 98 | 28 => 99 | 29 => 100 | 30 => 101 | 31 => 102 | n => n, fun | 26 => 3 | 28 => 141 | 24 => 59 | 0 => 0 | 3 => 3 | 37 => 125 | 48 => 169 | 50 => 42 | 4 => 4 | 40 => 162 | 39 => 161 | 45 => 67 | 5 => 5 | 9 => 9 | 51 => 171 | 55 => 175 | 57 => 177 | 58 => 178 | 33 => 150 | n => n, fun | n => n⟩
theorem Tryz.sortedA : Go.Proofs.SlLaysZI.n6 Tryz.prog Tryz.sortedA_ren := {
  mixed := by kernel_rfl
  f6 := ⟨Tryz.f72.name, by decide, Tryz.func72.trans (congrArg some (by kernel_rfl))⟩
  f8 := ⟨Tryz.f77.name, by decide, Tryz.func77.trans (congrArg some (by kernel_rfl))⟩
  f11 := ⟨Tryz.f82.name, by decide, Tryz.func82.trans (congrArg some (by kernel_rfl))⟩
  t0 := Tryz.underlying0
  a0 := Tryz.isAgg0
  z0 := Tryz.sizeOf0
  v0 := Tryz.zeroValue0
  t24 := Tryz.underlying59
  a24 := Tryz.isAgg59
  z24 := Tryz.sizeOf59
  v24 := Tryz.zeroValue59
  t26 := Tryz.underlying3
  a26 := Tryz.isAgg3
  z26 := Tryz.sizeOf3
  v26 := Tryz.zeroValue3
  t28 := Tryz.underlying141
  a28 := Tryz.isAgg141
  z28 := Tryz.sizeOf141
  v28 := Tryz.zeroValue141
  i26 := by kernel_rfl }
def Tryz.sortA_ren : Go.Shelf.Ren := ⟨fun | 5 => 78 | 8 => 84 | 7 => 83 | 19 => 94 | 20 => 95 | 10 => 85 | 11 => 86 | 12 => 87 | 13 => 88 | 14 => 89 | 15 => 90 | 16 => 91 | 17 => 92 | 18 => 93 | 30 => 96 | 31 => 97 | 32 => 98 | 33 => 99 | 34 => 100 | 35 => 101 | 40 => 102 | n => n, fun | 23 => 59 | 25 => 3 | 3 => 3 | 32 => 125 | 22 => 59 | 0 => 0 | 44 => 169 | 46 => 42 | 4 => 4 | 36 => 162 | 35 => 161 | 41 => 67 | 5 => 5 | 9 => 9 | 53 => 171 | 57 => 175 | 63 => 177 | 64 => 178 | n => n, fun | n => n⟩
theorem Tryz.sortA : Go.Proofs.SlLaysM.n5 Tryz.prog Tryz.sortA_ren := {
  mixed := by kernel_rfl
  f5 := ⟨Tryz.f78.name, by decide, Tryz.func78.trans (congrArg some (by kernel_rfl))⟩
  f7 := ⟨Tryz.f83.name, by decide, Tryz.func83.trans (congrArg some (by kernel_rfl))⟩
  f8 := Tryz.func84.trans (congrArg some (by kernel_rfl))
  f10 := ⟨Tryz.f85.name, by decide, Tryz.func85.trans (congrArg some (by kernel_rfl))⟩
  f11 := ⟨Tryz.f86.name, by decide, Tryz.func86.trans (congrArg some (by kernel_rfl))⟩
  f12 := ⟨Tryz.f87.name, by decide, Tryz.func87.trans (congrArg some (by kernel_rfl))⟩
  f13 := ⟨Tryz.f88.name, by decide, Tryz.func88.trans (congrArg some (by kernel_rfl))⟩
  f14 := ⟨Tryz.f89.name, by decide, Tryz.func89.trans (congrArg some (by kernel_rfl))⟩
  f15 := ⟨Tryz.f90.name, by decide, Tryz.func90.trans (congrArg some (by kernel_rfl))⟩
  f16 := ⟨Tryz.f91.name, by decide, Tryz.func91.trans (congrArg some (by kernel_rfl))⟩
  f17 := ⟨Tryz.f92.name, by decide, Tryz.func92.trans (congrArg some (by kernel_rfl))⟩
  f18 := ⟨Tryz.f93.name, by decide, Tryz.func93.trans (congrArg some (by kernel_rfl))⟩
  f19 := Tryz.func94.trans (congrArg some (by kernel_rfl))
  f20 := Tryz.func95.trans (congrArg some (by kernel_rfl))
  f30 := ⟨Tryz.f96.name, by decide, Tryz.func96.trans (congrArg some (by kernel_rfl))⟩
  f31 := Tryz.func97.trans (congrArg some (by kernel_rfl))
  f32 := Tryz.func98.trans (congrArg some (by kernel_rfl))
  f33 := ⟨Tryz.f99.name, by decide, Tryz.func99.trans (congrArg some (by kernel_rfl))⟩
  f34 := ⟨Tryz.f100.name, by decide, Tryz.func100.trans (congrArg some (by kernel_rfl))⟩
  f35 := ⟨Tryz.f101.name, by decide, Tryz.func101.trans (congrArg some (by kernel_rfl))⟩
  f40 := ⟨Tryz.f102.name, by decide, Tryz.func102.trans (congrArg some (by kernel_rfl))⟩
  t0 := Tryz.underlying0
  a0 := Tryz.isAgg0
  z0 := Tryz.sizeOf0
  v0 := Tryz.zeroValue0
  t3 := Tryz.underlying3
  a3 := Tryz.isAgg3
  z3 := Tryz.sizeOf3
  v3 := Tryz.zeroValue3
  t4 := Tryz.underlying4
  a4 := Tryz.isAgg4
  z4 := Tryz.sizeOf4
  v4 := Tryz.zeroValue4
  t5 := Tryz.underlying5
  a5 := Tryz.isAgg5
  z5 := Tryz.sizeOf5
  v5 := Tryz.zeroValue5
  t9 := Tryz.underlying9
  a9 := Tryz.isAgg9
  z9 := Tryz.sizeOf9
  v9 := Tryz.zeroValue9
  t22 := Tryz.underlying59
  a22 := Tryz.isAgg59
  z22 := Tryz.sizeOf59
  v22 := Tryz.zeroValue59
  t23 := Tryz.underlying59
  a23 := Tryz.isAgg59
  z23 := Tryz.sizeOf59
  v23 := Tryz.zeroValue59
  t25 := Tryz.underlying3
  a25 := Tryz.isAgg3
  z25 := Tryz.sizeOf3
  v25 := Tryz.zeroValue3
  t32 := Tryz.underlying125
  a32 := Tryz.isAgg125
  z32 := Tryz.sizeOf125
  v32 := Tryz.zeroValue125
  t35 := Tryz.underlying161
  a35 := Tryz.isAgg161
  z35 := Tryz.sizeOf161
  v35 := Tryz.zeroValue161
  t36 := Tryz.underlying162
  a36 := Tryz.isAgg162
  z36 := Tryz.sizeOf162
  v36 := Tryz.zeroValue162
  t41 := Tryz.underlying67
  a41 := Tryz.isAgg67
  z41 := Tryz.sizeOf67
  v41 := Tryz.zeroValue67
  t44 := Tryz.underlying169
  a44 := Tryz.isAgg169
  z44 := Tryz.sizeOf169
  v44 := Tryz.zeroValue169
  t46 := Tryz.underlying42
  a46 := Tryz.isAgg42
  z46 := Tryz.sizeOf42
  v46 := Tryz.zeroValue42
  t53 := Tryz.underlying171
  a53 := Tryz.isAgg171
  z53 := Tryz.sizeOf171
  v53 := Tryz.zeroValue171
  t57 := Tryz.underlying175
  a57 := Tryz.isAgg175
  z57 := Tryz.sizeOf175
  v57 := Tryz.zeroValue175
  t63 := Tryz.underlying177
  a63 := Tryz.isAgg177
  z63 := Tryz.sizeOf177
  v63 := Tryz.zeroValue177
  t64 := Tryz.underlying178
  a64 := Tryz.isAgg178
  z64 := Tryz.sizeOf178
  v64 := Tryz.zeroValue178 }
def Tryz.cloneA_ren : Go.Shelf.Ren := ⟨fun | 41 => 32 | n => n, fun | 22 => 22 | 23 => 42 | 4 => 4 | n => n, fun | n => n⟩
theorem Tryz.cloneA : Go.Proofs.SlLaysE0.n41 Tryz.prog Tryz.cloneA_ren := {
  mixed := by kernel_rfl
  f41 := ⟨Tryz.f32.name, by decide, Tryz.func32.trans (congrArg some (by kernel_rfl))⟩
  t4 := Tryz.underlying4
  a4 := Tryz.isAgg4
  z4 := Tryz.sizeOf4
  v4 := Tryz.zeroValue4
  t22 := Tryz.underlying22
  a22 := Tryz.isAgg22
  z22 := Tryz.sizeOf22
  v22 := Tryz.zeroValue22 }
end Go.Proofs
/- An arena in memory; its small functions. -/
namespace Go.Proofs.YtppkgfcobnknfaaGreatDoor
open Go.RowKit Go.Maps Arena
set_option maxHeartbeats 1000000
/-- an arena's three blocks: its own row, its words, its map -/
structure ArenaAt (w : World) (p g bm n : Nat) (ws : List Int) (R : List (Nat × Nat)) : Prop where
  row : w.heap[p]? = some (.cells #[.slice (some ⟨g, 0, none⟩) n n, .map (some bm)] 116 (0, 0))
  words : w.heap[g]? = some (.cells (ws.map fun x => Value.int .u64 x).toArray 42 (0, 0))
  len : ws.length = n
  regs : w.ownsMap Tryz.prog 3 (plainElem Tryz.prog 3) bm R.length (regD R)
  good : Arena.Good n R
  pg : p ≠ g
  pm : p ≠ bm
  gm : g ≠ bm
  least : n ≤ 20000
theorem ArenaAt.lt {w : World} {p g bm n : Nat} {ws : List Int} {R : List (Nat × Nat)} (h : ArenaAt w p g bm n ws R) : p < w.heap.size ∧ g < w.heap.size ∧ bm < w.heap.size :=
  ⟨(Array.getElem?_eq_some_iff.1 h.row).1, (Array.getElem?_eq_some_iff.1 h.words).1, h.regs.lt⟩
theorem ArenaAt.turn {w w' : World} {p g bm n : Nat} {ws : List Int} {R : List (Nat × Nat)} {bs : List Nat} (h : ArenaAt w p g bm n ws R) (t : Turn bs w w') (hp : p ∉ bs) (hg : g ∉ bs) (hm : bm ∉ bs) : ArenaAt w' p g bm n ws R := by
  obtain ⟨lp, lg, lm⟩ := h.lt
  refine ⟨by rw [t.block p lp hp]; exact h.row, by rw [t.block g lg hg]; exact h.words, h.len, ?_, h.good, h.pg, h.pm, h.gm, h.least⟩
  obtain ⟨es, clock, hb, hr⟩ := h.regs
  exact ⟨es, clock, by rw [t.block bm lm hm]; exact hb, hr⟩
theorem ArenaAt.ext {w w' : World} {p g bm n : Nat} {ws : List Int} {R : List (Nat × Nat)} (h : ArenaAt w p g bm n ws R) (e : Ext w w') : ArenaAt w' p g bm n ws R :=
  h.turn (Turn.of_ext (bs := []) e) (by simp) (by simp) (by simp)
theorem ArenaAt.cells {w : World} {p g bm n : Nat} {ws : List Int} {R : List (Nat × Nat)} (h : ArenaAt w p g bm n ws R) :
    w.cell? ⟨p, 0, none⟩ = some (.slice (some ⟨g, 0, none⟩) n n) ∧ w.cell? ⟨p, 1, none⟩ = some (.map (some bm)) := by
  constructor <;> simp [World.cell?, h.row]
/-- a map's bound is its size -/
theorem owns_size {P : Program} {k e : TypeId} {w : World} {b n : Nat} {R : List (Nat × Nat)} (h : w.ownsMap P k (plainElem P e) b n (regD R)) : w.ownsMap P k (plainElem P e) b R.length (regD R) := by
  obtain ⟨es, clock, hb, F, hs, hD⟩ := h
  refine ⟨es, clock, hb, F, ?_, hD⟩
  have h1 : Maps.size (regD R) = es.size := by rw [hD, Maps.size_eq, length_sorted]; simp
  rw [regD_size] at h1
  omega
theorem int_law : Keyed Tryz.prog 3 := int_keyed Tryz.underlying3
theorem int_zero (w : World) : (zeroValue 3).run Tryz.prog w = .ok (.int .i64 0) w := by kernel_rfl

theorem key_int {k : Int} (hw : (Lit.int .i64 k).wf = true) : keyOf Tryz.prog 3 (.int .i64 k) = some (.int .i64 k) := keyOf_int_mk Tryz.underlying3 hw
theorem at_len {R : List (Nat × Nat)} {k c : Int} (h : (regD R).atKey (.int .i64 k) (.lit (.int .i64 0)) = .lit (.int .i64 c)) : c = lenAt R k := by
  rw [regD_atKey] at h
  injection h with h
  injection h with _ h
  exact h.symm
theorem region_no {w : World} {p g bm n : Nat} {ws : List Int} {R : List (Nat × Nat)} {k : Int} (h : ArenaAt w p g bm n ws R) (hw : (Lit.int .i64 k).wf = true) (h0 : lenAt R k = 0) :
    Calls Tryz.prog 31 #[.pointer (some ⟨p, 0, none⟩), .int .i64 k] w fun e w' => e = .returned (.slice none 0 0) ∧ w = w' := by
  obtain ⟨c0, c1⟩ := h.cells
  have HM := Lib.hid h.regs
  have H0 := Lib.hid h0
  clear h h0
  go_enter Tryz.func31, Tryz.ntmps31
  go_wp2_with (at_lookup; refine wpList_lookup_own_int _ rfl _ _ 114 rfl 3 3 .i64 int_law Tryz.underlying114 Tryz.underlying3 (int_zero _) bm R.length _ rfl HM.out _ _ rfl (key_int hw) ?_; intro c hat hwc; obtain rfl : c = 0 := by have := at_len hat; rw [H0.out] at this; exact this)
  go_ret
  exact ⟨rfl, rfl⟩
theorem region_yes {w : World} {p g bm n : Nat} {ws : List Int} {R : List (Nat × Nat)} {r : Nat × Nat} (h : ArenaAt w p g bm n ws R) (hr : r ∈ R) :
    Calls Tryz.prog 31 #[.pointer (some ⟨p, 0, none⟩), .int .i64 r.1] w fun e w' => e = .returned (.slice (some ⟨g, r.1, none⟩) r.2 (n - r.1)) ∧ w = w' := by
  obtain ⟨c0, c1⟩ := h.cells
  have HM := Lib.hid h.regs
  have H0 := Lib.hid (lenAt_mem h.good hr)
  have hn := h.least
  obtain ⟨h1, h2⟩ := h.good.2 r hr
  have hw : (Lit.int .i64 (r.1 : Int)).wf = true := WalkArith.wf_i64 (by omega)
  have b0 : ((r.2 : Int) == 0) = false := beq_false_of_ne (by omega)
  clear h
  go_enter Tryz.func31, Tryz.ntmps31
  go_wp2_with (at_lookup; refine wpList_lookup_own_int _ rfl _ _ 114 rfl 3 3 .i64 int_law Tryz.underlying114 Tryz.underlying3 (int_zero _) bm R.length _ rfl HM.out _ _ rfl (key_int hw) ?_; intro c hat hwc; obtain rfl : c = (r.2 : Int) := by have := at_len hat; rw [H0.out] at this; exact this)
  go_ret
  exact ⟨by simp, rfl⟩
theorem ArenaAt.word {w : World} {p g bm n : Nat} {ws : List Int} {R : List (Nat × Nat)} (h : ArenaAt w p g bm n ws R) {i : Nat} (hi : i < n) : w.cell? ⟨g, i, none⟩ = some (.int .u64 (ws.getD i 0)) ∧ w.frozen? ⟨g, i, none⟩ = false := by
  have hl := h.len
  constructor
  · simp [World.cell?, h.words, List.getElem?_eq_getElem (show i < ws.length by omega)]
  · simp [World.frozen?, h.words]
theorem ArenaAt.store {w : World} {p g bm n : Nat} {ws : List Int} {R : List (Nat × Nat)} (h : ArenaAt w p g bm n ws R) (i : Nat) (v : Int) : ArenaAt (w.setCell ⟨g, i, none⟩ (.int .u64 v)) p g bm n (ws.set i v) R := by
  refine ⟨?_, ?_, by simpa using h.len, h.regs.setCell (fun e => h.gm e.symm) _, h.good, h.pg, h.pm, h.gm, h.least⟩
  · rw [Below.heap_setCell _ _ _ _ h.pg]; exact h.row
  · rw [Lib.heap_setCell_same h.words]
    simp
theorem get_no {w : World} {p g bm n : Nat} {ws : List Int} {R : List (Nat × Nat)} {k a : Int} (h : ArenaAt w p g bm n ws R) (hw : (Lit.int .i64 k).wf = true) (h0 : lenAt R k = 0) :
    Calls Tryz.prog 80 #[.pointer (some ⟨p, 0, none⟩), .int .i64 k, .int .i64 a] w fun e w' => e = .returned (.tuple #[.int .u64 0, .bool false]) ∧ w = w' := by
  by_cases ha : a < 0
  · have b1 : decide (a < 0) = true := decide_eq_true ha
    go_enter Tryz.func80, Tryz.ntmps80
    go_wp2_with fail
    refine (region_no h hw h0).mono ?_; rintro e w' ⟨rfl, rfl⟩
    go_wp2
    go_ret2
    exact ⟨rfl, rfl⟩
  · have b1 : decide (a < 0) = false := decide_eq_false ha
    have b2 : decide ((0 : Int) ≤ a) = true := decide_eq_true (by omega)
    go_enter Tryz.func80, Tryz.ntmps80
    go_wp2_with fail
    refine (region_no h hw h0).mono ?_; rintro e w' ⟨rfl, rfl⟩
    go_wp2
    go_ret2
    exact ⟨rfl, rfl⟩
theorem get_out {w : World} {p g bm n : Nat} {ws : List Int} {R : List (Nat × Nat)} {r : Nat × Nat} {a : Int} (h : ArenaAt w p g bm n ws R) (hr : r ∈ R) (ha : a < 0 ∨ (r.2 : Int) ≤ a) :
    Calls Tryz.prog 80 #[.pointer (some ⟨p, 0, none⟩), .int .i64 r.1, .int .i64 a] w fun e w' => e = .returned (.tuple #[.int .u64 0, .bool false]) ∧ w = w' := by
  by_cases ha0 : a < 0
  · have b1 : decide (a < 0) = true := decide_eq_true ha0
    go_enter Tryz.func80, Tryz.ntmps80
    go_wp2_with fail
    refine (region_yes h hr).mono ?_; rintro e w' ⟨rfl, rfl⟩
    go_wp2
    go_ret2
    exact ⟨rfl, rfl⟩
  · have b1 : decide (a < 0) = false := decide_eq_false ha0
    have b2 : decide ((r.2 : Int) ≤ a) = true := decide_eq_true (by omega)
    go_enter Tryz.func80, Tryz.ntmps80
    go_wp2_with fail
    refine (region_yes h hr).mono ?_; rintro e w' ⟨rfl, rfl⟩
    go_wp2
    go_ret2
    exact ⟨rfl, rfl⟩
theorem get_yes {w : World} {p g bm n : Nat} {ws : List Int} {R : List (Nat × Nat)} {r : Nat × Nat} {a : Nat} (h : ArenaAt w p g bm n ws R) (hr : r ∈ R) (ha : a < r.2) :
    Calls Tryz.prog 80 #[.pointer (some ⟨p, 0, none⟩), .int .i64 r.1, .int .i64 a] w fun e w' => e = .returned (.tuple #[.int .u64 (ws.getD (r.1 + a) 0), .bool true]) ∧ w = w' := by
  obtain ⟨h1, h2⟩ := h.good.2 r hr
  have hn := h.least
  obtain ⟨hc, _⟩ := h.word (i := r.1 + a) (by omega)
  have b1 : decide ((a : Int) < 0) = false := decide_eq_false (by omega)
  have b2 : decide ((r.2 : Int) ≤ (a : Int)) = false := decide_eq_false (by omega)
  have HRG := Lib.hid (region_yes h hr)
  generalize ws.getD (r.1 + a) 0 = v at *
  clear h
  go_enter Tryz.func80, Tryz.ntmps80
  go_wp2_with fail
  refine HRG.out.mono ?_; rintro e w' ⟨rfl, rfl⟩
  go_wp2
  go_ret2
  exact ⟨rfl, rfl⟩
theorem set_no {w : World} {p g bm n : Nat} {ws : List Int} {R : List (Nat × Nat)} {k a v : Int} (h : ArenaAt w p g bm n ws R) (hw : (Lit.int .i64 k).wf = true) (h0 : lenAt R k = 0) :
    Calls Tryz.prog 28 #[.pointer (some ⟨p, 0, none⟩), .int .i64 k, .int .i64 a, .int .u64 v] w fun e w' => e = .returned (.bool false) ∧ w = w' := by
  by_cases ha : a < 0
  · have b1 : decide (a < 0) = true := decide_eq_true ha
    go_enter Tryz.func28, Tryz.ntmps28
    go_wp2_with fail
    refine (region_no h hw h0).mono ?_; rintro e w' ⟨rfl, rfl⟩
    go_wp2
    go_ret
    exact ⟨rfl, rfl⟩
  · have b1 : decide (a < 0) = false := decide_eq_false ha
    have b2 : decide ((0 : Int) ≤ a) = true := decide_eq_true (by omega)
    go_enter Tryz.func28, Tryz.ntmps28
    go_wp2_with fail
    refine (region_no h hw h0).mono ?_; rintro e w' ⟨rfl, rfl⟩
    go_wp2
    go_ret
    exact ⟨rfl, rfl⟩
theorem set_out {w : World} {p g bm n : Nat} {ws : List Int} {R : List (Nat × Nat)} {r : Nat × Nat} {a v : Int} (h : ArenaAt w p g bm n ws R) (hr : r ∈ R) (ha : a < 0 ∨ (r.2 : Int) ≤ a) :
    Calls Tryz.prog 28 #[.pointer (some ⟨p, 0, none⟩), .int .i64 r.1, .int .i64 a, .int .u64 v] w fun e w' => e = .returned (.bool false) ∧ w = w' := by
  by_cases ha0 : a < 0
  · have b1 : decide (a < 0) = true := decide_eq_true ha0
    go_enter Tryz.func28, Tryz.ntmps28
    go_wp2_with fail
    refine (region_yes h hr).mono ?_; rintro e w' ⟨rfl, rfl⟩
    go_wp2
    go_ret
    exact ⟨rfl, rfl⟩
  · have b1 : decide (a < 0) = false := decide_eq_false ha0
    have b2 : decide ((r.2 : Int) ≤ a) = true := decide_eq_true (by omega)
    go_enter Tryz.func28, Tryz.ntmps28
    go_wp2_with fail
    refine (region_yes h hr).mono ?_; rintro e w' ⟨rfl, rfl⟩
    go_wp2
    go_ret
    exact ⟨rfl, rfl⟩
theorem set_yes {w : World} {p g bm n : Nat} {ws : List Int} {R : List (Nat × Nat)} {r : Nat × Nat} {a : Nat} {v : Int} (h : ArenaAt w p g bm n ws R) (hr : r ∈ R) (ha : a < r.2) :
    Calls Tryz.prog 28 #[.pointer (some ⟨p, 0, none⟩), .int .i64 r.1, .int .i64 a, .int .u64 v] w fun e w' => e = .returned (.bool true) ∧ ArenaAt w' p g bm n (ws.set (r.1 + a) v) R ∧ Turn [g] w w' := by
  obtain ⟨h1, h2⟩ := h.good.2 r hr
  have hn := h.least
  obtain ⟨hc, hf⟩ := h.word (i := r.1 + a) (by omega)
  have b1 : decide ((a : Int) < 0) = false := decide_eq_false (by omega)
  have b2 : decide ((r.2 : Int) ≤ (a : Int)) = false := decide_eq_false (by omega)
  have HRG := Lib.hid (region_yes h hr)
  have HST := Lib.hid (h.store (r.1 + a) v)
  generalize ws.getD (r.1 + a) 0 = u at *
  clear h
  go_enter Tryz.func28, Tryz.ntmps28
  go_wp2_with fail
  refine HRG.out.mono ?_; rintro e w' ⟨rfl, rfl⟩
  go_wp2
  go_ret
  exact ⟨rfl, HST.out, (Turn.refl _ _).setCell (.inl (by simp)) _⟩
theorem look_len {w : World} {p g bm n : Nat} {ws : List Int} {R : List (Nat × Nat)} {k : Int} (h : ArenaAt w p g bm n ws R) (hw : (Lit.int .i64 k).wf = true) :
    (Instr.lookup 114 (.map (some bm)) (.int .i64 k) false).run Tryz.prog w = .ok (.int .i64 (lenAt R k)) w := by
  obtain ⟨c, hrun, hat, _⟩ := h.regs.lookup_int int_law Tryz.underlying114 Tryz.underlying3 (int_zero _) (key_int hw)
  rw [← at_len hat]
  exact hrun
theorem drop_length {R : List (Nat × Nat)} (k : Int) : (Arena.drop k R).length ≤ R.length := List.length_filter_le _ _
/-- slices.Sort's two contracts at this dump, at the fence that asks nothing. -/
theorem sorts_in (m : Nat) : AnyZI.SortsIn Tryz.prog Tryz.sortedA_ren Fence.wide m :=
  ⟨fun blk off cap ss W hH hblk hsz => callsIn_wide.2 (AnyM.slices_Sort_int Tryz.sortA blk off cap ss W hH hblk hsz),
   fun p cap W => callsIn_wide.2 (AnyM.slices_Sort_int_none Tryz.sortA p cap W)⟩
set_option maxHeartbeats 2000000 in
theorem bases_is {w : World} {p g bm n : Nat} {ws : List Int} {R : List (Nat × Nat)} (h : ArenaAt w p g bm n ws R) :
    Calls Tryz.prog 54 #[.pointer (some ⟨p, 0, none⟩)] w fun e w' => ∃ v, e = .returned v ∧ w'.ownsRow w.heap.size 3 1 v R.length (R.map fun r => Value.int .i64 r.1) ∧ Ext w w' := by
  obtain ⟨c0, c1⟩ := h.cells
  have hown := h.regs
  have hbl := hown.lt
  have hsz : Maps.size (regD R) ≤ 20000 := by rw [regD_size]; exact Nat.le_trans (good_len h.good) h.least
  have hmax : Maps.size (regD R) ≤ maxLen := by unfold maxLen; omega
  have hbytes : Maps.size (regD R) * 8 ≤ 140737488355328 := by omega
  have HG := Lib.hid h.good
  clear h
  refine (callsIn_wide (n := 6)).1 ?_
  have hseq : SeqGives Fence.wide 2 Tryz.prog 79 #[.pointer (some ⟨w.heap.size, 0, none⟩)] encZ (fun ss => ss.Perm (intKeys (regD R))) (Maps.size (regD R)) (w.alloc (.cells #[.map (some bm)] 114)) :=
    AnyZI.keys_gives (ρ := Tryz.keysA_ren) { Tryz.keysA with } Fence.wide _ trivial rfl (by omega) w.heap.size bm R.length (regD R) _ (by simp) (by simp) (by
      obtain ⟨es, clock, hb, Ft, hs, hD⟩ := hown
      exact ⟨es, clock, (Below.heap_alloc _ _ bm hbl).trans hb, Ft, hs, hD⟩)
  have cK : ∀ mb W, CallsIn Fence.wide 5 Tryz.prog 73 #[.map mb] W fun e w' => e = .returned (.func (.func 79) #[] #[.pointer (some ⟨W.heap.size, 0, none⟩)]) ∧ w' = W.alloc (.cells #[.map mb] 114) := fun mb W => AnyZI.keys_in Tryz.keysA Fence.wide 5 trivial rfl mb W
  have cS := AnyZI.sorted_in Tryz.sortedA Fence.wide 5 trivial trivial trivial trivial rfl (by omega) (sorts_in _) (enters_of Tryz.func78 (by kernel_rfl) rfl) 79 #[.pointer (some ⟨w.heap.size, 0, none⟩)] trivial (enters_of Tryz.func79 (by kernel_rfl) rfl) _ _ hmax hbytes _ hseq
  change CallsIn _ _ Tryz.prog 72 _ _ _ at cS
  have hfK : Fence.wide.fn 73 := trivial
  have hfS : Fence.wide.fn 72 := trivial
  refine callsIn_of_wp Tryz.func54 rfl trivial ?_ rfl
  simp only [Tryz.ntmps54, List.size_toArray, List.length_cons, List.length_nil, Nat.reduceAdd, Nat.reduceSub, Array.replicate_succ, Array.replicate_zero, List.push_toArray, List.append_toArray, List.nil_append, List.cons_append]
  gi_wp2_with (first
    | (gi_at_call 73; refine (cK _ _).mono ?_; rintro e w' ⟨rfl, rfl⟩)
    | (gi_at_call 72; refine cS.mono ?_; rintro e w' ⟨v, ss, rfl, hS, hrow, hnil, hb⟩))
  go_ret
  have hsorted := keys_sorted HG.out hS
  have hlen : ss.length = R.length := by rw [hS.length_eq, regD_keys, List.length_map]
  rw [hsorted, List.map_map, hlen] at hrow
  exact ⟨v, rfl, ownsRow_base_a hrow (by simp), ((Below.refl _ w).alloc (Nat.le_refl _) _).trans (hb.mono (by simp))⟩
end Go.Proofs.YtppkgfcobnknfaaGreatDoor
