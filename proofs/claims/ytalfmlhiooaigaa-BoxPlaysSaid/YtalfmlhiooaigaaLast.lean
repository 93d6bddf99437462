/- A region that draws its order, whose last operation waits for all others: the others by 'wpAnyH' (loads first), the last one as in a plain region. -/
import Derived.WalkKit
import Derived.StillTail
import Derived.Deep.RegionHeld3
namespace Go.Proofs.Ytalfmlhiooaigaa
open Go
section
variable {P : Program} {md : Region.Mode}
/-- the post of all but the last operation -/
def lastQ (P : Program) (ops : Array Oper) (ol : Oper) (Q : Exit → Act → World → Prop) : Exit → Act → World → Prop
  | .normal, a, w => wpList P ops Q [ol] a w
  | e, a, w => Q e a w
theorem lets_last {ops : Array Oper} {ol : Oper} {Q : Exit → Act → World → Prop} (h : LetsOut (lastQ P ops ol Q)) : LetsOut Q := h
theorem Oper.wp_switch {o : Oper} {a : Act} {w : World} {K K' : Act → World → Prop} {Q Q' : Exit → Act → World → Prop} (hK : ∀ a w, K a w → K' a w) (hp : ∀ c a w, Q' (.panic c) a w → Q (.panic c) a w) (hl : LetsOut Q' → LetsOut Q)
    (hh : o.wp P a w K Q') : o.wp P a w K' Q := by
  unfold Oper.wp at *
  generalize (execOp a.eval o).run P w = r at *
  cases r with
  | ok n w' =>
    cases n <;> simp only [Oper.upon] at hh ⊢ <;>
      first
        | exact hK _ _ hh
        | exact Calls.mono hh (fun e w'' he => by cases e <;> first | exact hK _ _ he | exact hp _ _ _ he | exact hl he)
        | exact Rows.mono hh (fun _ _ he => hK _ _ he)
  | halt x w' =>
    cases x <;> simp only [Oper.upon] at hh ⊢ <;> first | exact hp _ _ _ hh | exact hh
/-- the side conditions, as one Bool -/
def lastB (ops : Array Oper) (n : Nat) : Bool :=
  decide (ops.size = n + 1) && Region.sinkB .any ops n && Region.chainB .any ops n &&
  ((List.range (n + 1)).all fun i => match ops[i]? with
    | some o => (o.after.all fun e => decide (e.on < i)) && (match o.guard with | some (g, _) => decide (g < i) | none => true)
    | none => false) &&
  (match ops[n]? with | some o => o.guard.isNone | none => false)
theorem wanted_same {ops init : Array Oper} {n : Nat} (hi : ∀ i, i < n → init[i]? = ops[i]?) {o : Oper} (hg : ∀ g b, o.guard = some (g, b) → g < n) (t : Array Value) : Region.wanted o (yielded init t) = Region.wanted o (yielded ops t) := by
  unfold Region.wanted
  cases h : o.guard with
  | none => rfl
  | some x =>
    obtain ⟨g, b⟩ := x
    have : yielded init t g = yielded ops t g := by unfold yielded; rw [hi g (hg g b h)]
    simp [this]
theorem last_core {ops init : Array Oper} {n : Nat} {ol : Oper} {Q : Exit → Act → World → Prop} (hsz : ops.size = n + 1) (hin : init.size = n) (hi : ∀ i, i < n → init[i]? = ops[i]?)
    (hs : Region.sinkB .any ops n = true) (hc : Region.chainB .any ops n = true) (hedge : ∀ (i : Nat) (o : Oper), ops[i]? = some o → ∀ e ∈ o.after, e.on < i) (hguard : ∀ (i : Nat) (o : Oper), ops[i]? = some o → ∀ g b, o.guard = some (g, b) → g < i)
    (hol : ops[n]? = some ol) (hog : ol.guard = none) :
    ∀ (fuel : Nat) (l' l : Array Bool) (a : Act) (w : World), l'.size = n → (∀ i, i < n → ∀ d, l'.getD i d = l.getD i d) → HeadInv .any ops n l →
      wpAny P .any init (lastQ P ops ol Q) fuel l' a w → wpAny P .any ops Q (fuel + 1) l a w := by
  -- what is ready, in both
  have hready : ∀ (l' l : Array Bool), l'.size = n → (∀ i, i < n → ∀ d, l'.getD i d = l.getD i d) → ∀ i, i < n → (i ∈ Region.ready .any init l' ↔ i ∈ Region.ready .any ops l) := by
    intro l' l hl' hll i hin'
    rw [mem_ready, mem_ready, hll i hin' true, hi i hin']
    constructor
    · rintro ⟨h0, o, ho, h⟩
      refine ⟨h0, o, ho, fun e he hb => ?_⟩
      have := hedge i o ho e he
      rw [← hll e.on (by omega)]
      exact h e he hb
    · rintro ⟨h0, o, ho, h⟩
      refine ⟨h0, o, ho, fun e he hb => ?_⟩
      have := hedge i o ho e he
      rw [hll e.on (by omega)]
      exact h e he hb
  -- nothing ready: all have come up
  have hall : ∀ (l : Array Bool), l.size = ops.size → (∀ i, i < n → i ∉ Region.ready .any ops l) → ∀ m i, i < m → i < n → l.getD i false = true := by
    intro l hlsz hno m
    induction m with
    | zero => intro i h; omega
    | succ m ih =>
      intro i him hin'
      by_cases hlt : i < m
      · exact ih i hlt hin'
      · obtain rfl : i = m := by omega
        cases hv : l.getD i false with
        | true => rfl
        | false =>
          refine absurd (mem_ready.2 ⟨getD_in (by omega) hv, ?_⟩) (hno i hin')
          obtain ⟨o, ho⟩ : ∃ o, ops[i]? = some o := ⟨_, Array.getElem?_eq_getElem (by omega)⟩
          exact ⟨o, ho, fun e he _ => ih e.on (hedge i o ho e he) (by have := hedge i o ho e he; omega)⟩
  have hnready : ∀ (l : Array Bool), HeadInv .any ops n l → (∀ i, i < n → l.getD i false = true) → n ∈ Region.ready .any ops l := by
    intro l inv h
    exact mem_ready.2 ⟨inv.tail n (Nat.le_refl _) (by omega), ol, hol, fun e he _ => h e.on (hedge n ol hol e he)⟩
  have hdone : ∀ (l : Array Bool), l.size = ops.size → (∀ i, i < n → l.getD i false = true) → Region.ready .any ops (l.setIfInBounds n true) = [] := by
    intro l hlsz h
    refine List.eq_nil_iff_forall_not_mem.2 fun i hr => ?_
    obtain ⟨h0, o, ho, _⟩ := mem_ready.1 hr
    have hlt : i < ops.size := (Array.getElem?_eq_some_iff.1 ho).1
    have h1 := getD_both h0
    by_cases hin' : i < n
    · rw [getD_set_ne false (by omega), h i hin'] at h1; cases h1
    · obtain rfl : i = n := by omega
      rw [Array.getD_eq_getD_getElem?, Array.getElem?_setIfInBounds_self_of_lt (by omega)] at h1
      simp at h1
  have hlast : ∀ (f : Nat) (l : Array Bool) (a : Act) (w : World), l.size = ops.size → (∀ i, i < n → l.getD i false = true) → lastQ P ops ol Q .normal a w → wpOp P ops Q n (wpAny P .any ops Q f (l.setIfInBounds n true)) a w := by
    intro f l a w hlsz h hq
    have hd := hdone l hlsz h
    have hmono : ∀ a w, Q .normal a w → wpAny P .any ops Q f (l.setIfInBounds n true) a w := by
      intro a w hQ
      cases f with
      | zero => exact ⟨hd, hQ⟩
      | succ f => exact ⟨fun _ => hQ, fun i hi' => by rw [hd] at hi'; cases hi'⟩
    unfold wpOp
    rw [hol]
    simp only
    have hq2 : wpList P ops Q [ol] a w := hq
    unfold wpList at hq2
    split at hq2
    · rename_i hw
      rw [if_pos hw]
      refine hq2.imp (Oper.wp_mono fun a w h => ?_) id
      exact hmono a w (by simpa [wpList] using h)
    · rename_i hw
      rw [if_neg hw]
      exact hmono _ _ (by simpa [wpList] using hq2)
  intro fuel
  induction fuel with
  | zero =>
    intro l' l a w hl' hll inv h
    have hno : ∀ i, i < n → i ∉ Region.ready .any ops l := fun i hin' hr => by
      have := (hready l' l hl' hll i hin').2 hr
      rw [h.1] at this; cases this
    have hA := fun i (hin' : i < n) => hall l inv.size hno (i + 1) i (by omega) hin'
    refine ⟨fun h0 => absurd (hnready l inv hA) (by rw [h0]; simp), fun i hr => ?_⟩
    have hin2 : i = n := by
      by_cases hin' : i < n
      · exact absurd hr (hno i hin')
      · obtain ⟨_, o, ho, _⟩ := mem_ready.1 hr
        have : i < ops.size := (Array.getElem?_eq_some_iff.1 ho).1
        omega
    subst hin2
    exact hlast 0 l a w inv.size hA h.2
  | succ fuel ih =>
    intro l' l a w hl' hll inv h
    have hQn : (∀ i, i < n → i ∉ Region.ready .any ops l) → lastQ P ops ol Q .normal a w := by
      intro hno
      refine h.1 (List.eq_nil_iff_forall_not_mem.2 fun i hr => ?_)
      obtain ⟨_, o, ho, _⟩ := mem_ready.1 hr
      have hlt : i < n := by rw [← hin]; exact (Array.getElem?_eq_some_iff.1 ho).1
      exact hno i hlt ((hready l' l hl' hll i hlt).1 hr)
    refine ⟨fun h0 => ?_, fun i hr => ?_⟩
    · have hno : ∀ i, i < n → i ∉ Region.ready .any ops l := fun i _ hr => by rw [h0] at hr; cases hr
      have hA := fun i (hin' : i < n) => hall l inv.size hno (i + 1) i (by omega) hin'
      exact absurd (hnready l inv hA) (by rw [h0]; simp)
    · by_cases hin' : i < n
      · have h2 := h.2 i ((hready l' l hl' hll i hin').2 hr)
        have inv2 := inv.set hr hin'
        unfold wpOp at h2 ⊢
        rw [hi i hin'] at h2
        obtain ⟨_, o, ho, _⟩ := mem_ready.1 hr
        rw [ho] at h2 ⊢
        simp only at h2 ⊢
        rw [wanted_same hi (fun g b hg => by have := hguard i o ho g b hg; omega)] at h2
        have hstep : ∀ a' w', wpAny P .any init (lastQ P ops ol Q) fuel (l'.setIfInBounds i true) a' w' → wpAny P .any ops Q (fuel + 1) (l.setIfInBounds i true) a' w' := fun a' w' hh => by
          refine ih _ _ a' w' (by simpa using hl') (fun k hk d => ?_) inv2 hh
          by_cases hik : i = k
          · subst hik
            have hlsz := inv.size
            simp [Array.getD_eq_getD_getElem?, hl', hlsz, hsz, hk, Nat.lt_succ_of_lt hk]
          · rw [getD_set_ne d hik, getD_set_ne d hik]; exact hll k hk d
        split at h2
        · rename_i hw
          rw [if_pos hw]
          rcases h2 with h2 | ⟨h2, h3⟩
          · exact .inl (Oper.wp_switch (Q' := lastQ P ops ol Q) hstep (fun _ _ _ h => h) (lets_last (P := P) (ops := ops) (ol := ol)) h2)
          · exact .inr ⟨h2, lets_last (P := P) (ops := ops) (ol := ol) h3⟩
        · rename_i hw
          rw [if_neg hw]
          exact hstep _ _ h2
      · obtain ⟨_, o, ho, _⟩ := mem_ready.1 hr
        have hlt : i < ops.size := (Array.getElem?_eq_some_iff.1 ho).1
        obtain rfl : i = n := by omega
        have hno : ∀ k, k < i → k ∉ Region.ready .any ops l := fun k hk hrk => by
          have hun := (mem_ready.1 hrk).1
          exact absurd hr (tail_waits hs hc (by omega) inv _ k rfl hk hun i (Nat.le_refl _))
        exact hlast (fuel + 1) l a w inv.size (fun k hk => hall l inv.size hno (k + 1) k (by omega) hk) (hQn hno)
/-- THE LAW: all but the last by 'wpAnyH' under S, the last one as in a plain region -/
theorem wp_region_last (n : Nat) {id : Nat} {ops : Array Oper} {Q : Exit → Act → World → Prop} {a : Act} {w : World} (S : World → Prop) (hm : P.follows .mixedOrders = true) (hB : lastB ops n = true) (ol : Oper) (hol : ops[n]? = some ol)
    (hS : S w.drew) (h : S w.drew → wpAnyH P .any (ops.toList.take n).toArray (lastQ P ops ol Q) S n (Array.replicate n false) a w.drew) : (Code.region id ops true).wp P Q a w := by
  unfold lastB at hB
  simp only [Bool.and_eq_true, decide_eq_true_eq] at hB
  obtain ⟨⟨⟨⟨hsz, hs⟩, hc⟩, hall⟩, hg⟩ := hB
  have hall' : ∀ (i : Nat) (o : Oper), ops[i]? = some o → (∀ e ∈ o.after, e.on < i) ∧ ∀ g b, o.guard = some (g, b) → g < i := by
    intro i o ho
    have hlt : i < ops.size := (Array.getElem?_eq_some_iff.1 ho).1
    have := List.all_eq_true.1 hall i (List.mem_range.2 (by omega))
    rw [ho] at this
    simp only [Bool.and_eq_true] at this
    refine ⟨fun e he => ?_, fun g b hgb => ?_⟩
    · have h1 := Array.all_eq_true_iff_forall_mem.1 this.1 e he
      simpa using h1
    · have h2 := this.2
      rw [hgb] at h2
      simpa using h2
  have hog : ol.guard = none := by rw [hol] at hg; simpa using hg
  have htl : (ops.toList.take n).length = n := by rw [List.length_take, Array.length_toList, hsz]; omega
  refine wp_region_any hm ?_
  rw [hsz]
  refine last_core (init := (ops.toList.take n).toArray) hsz (by simpa using htl) (fun i hi => ?_) hs hc (fun i o ho => (hall' i o ho).1) (fun i o ho => (hall' i o ho).2) hol hog n (Array.replicate n false) (Array.replicate (n + 1) false) a w.drew
    (by simp) (fun i hi d => by simp [Array.getD_eq_getD_getElem?, hi, Nat.lt_succ_of_lt hi]) ⟨by simp [hsz], (fun j oj _ hl => by rw [getD_replicate_false] at hl; exact absurd hl (by decide)), fun t _ ht => by simp [Array.getD_eq_getD_getElem?, show t < n + 1 by omega]⟩ (wpAny_of_held _ _ _ _ (h hS))
  rw [List.getElem?_toArray, List.getElem?_take_of_lt hi, Array.getElem?_toList]
end
end Go.Proofs.Ytalfmlhiooaigaa
