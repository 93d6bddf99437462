/- Proved here: the contracts and laws of ArenaP, Ext, Turn, Pairs, Words, RefaA, RefaB, Last, Src of this claim, each beneath its own remark; conditions: those that each theorem names. -/
import Derived.Test.YtlffmcadchbheaaProg
import Derived.RowKit
import Derived.Maps.Own
import Derived.Maps.OwnSet
import Derived.Lib.SlKeysI
import Derived.WalkKit
import Derived.WalkSpells
import Derived.WalkLawsBesides
import Derived.ChangeSame
import Derived.Lib.LaidTab
import Derived.Lib.Hide
import Derived.Lib.AppendIntMem
import Derived.Lib.QuietBelow
import Derived.BigQuiet
import Derived.Lib.BufferMore
import Derived.Deep.OwnRows
import Derived.Deep.QuietTactic
import Derived.Laws.StructEq
import Derived.Maps.OwnOps
import Derived.Lib.SliceRun
import Derived.Deep.RegionHeld3
import Derived.Deep.AppendLies
import Derived.Deep.DrawnRows
import Derived.StillTail
import Derived.Maps.AppendAt
/- Plain: an arena's regions, as a rising list of places and sizes. No program in sight. -/
namespace Go.Proofs.Ytlffmcadchbheaa
open Go.RowKit Go.Maps
namespace Arena
/-- regions: each with its size, rising, apart, within n words -/
def Good (n : Nat) (R : List (Nat × Nat)) : Prop := R.Pairwise (fun a b => a.1 + a.2 ≤ b.1) ∧ ∀ r ∈ R, 1 ≤ r.2 ∧ r.1 + r.2 ≤ n
/-- the map that holds them -/
def regD (R : List (Nat × Nat)) : DataW Unit := .map (R.map fun r => (Lit.int .i64 r.1, DataW.lit (.int .i64 r.2)))
def lenAt (R : List (Nat × Nat)) (k : Int) : Nat := match R.find? (fun r => decide ((r.1 : Int) = k)) with | some r => r.2 | none => 0
/-- the least place ahead of which no region with room lies -/
def scan (k : Nat) : Nat → List (Nat × Nat) → Nat
  | at_, [] => at_
  | at_, r :: R => if at_ + k ≤ r.1 then at_ else scan k (r.1 + r.2) R
def cutAt (n : Nat) (R : List (Nat × Nat)) (k : Nat) : Option Nat := if scan k 0 R + k ≤ n then some (scan k 0 R) else none
def ins (x : Nat × Nat) : List (Nat × Nat) → List (Nat × Nat)
  | [] => [x]
  | y :: R => if x.1 < y.1 then x :: y :: R else y :: ins x R
def drop (k : Int) (R : List (Nat × Nat)) : List (Nat × Nat) := R.filter fun r => !decide ((r.1 : Int) = k)

theorem sameKey_int (a : Nat) (k : Int) : (Lit.int .i64 a).sameKey (.int .i64 k) = decide ((a : Int) = k) := by simp [Lit.sameKey]
theorem regD_atKey (R : List (Nat × Nat)) (k : Int) : (regD R).atKey (.int .i64 k) (.lit (.int .i64 0)) = .lit (.int .i64 (lenAt R k)) := by
  unfold regD lenAt DataW.atKey
  simp only [List.find?_map]
  have : ((fun p : Lit × DataW Unit => p.1.sameKey (.int .i64 k)) ∘ fun r : Nat × Nat => (Lit.int .i64 r.1, DataW.lit (.int .i64 r.2))) = fun r => decide ((r.1 : Int) = k) := by
    funext r; exact sameKey_int r.1 k
  rw [this]
  cases R.find? (fun r => decide ((r.1 : Int) = k)) <;> rfl
theorem regD_del (R : List (Nat × Nat)) (k : Int) : (regD R).del (.int .i64 k) = regD (drop k R) := by
  unfold regD drop DataW.del
  simp only [List.filter_map]
  have : ((fun p : Lit × DataW Unit => !p.1.sameKey (.int .i64 k)) ∘ fun r : Nat × Nat => (Lit.int .i64 r.1, DataW.lit (.int .i64 r.2))) = fun r => !decide ((r.1 : Int) = k) := by
    funext r; simp [sameKey_int]
  rw [this]
theorem regD_insert (x : Nat × Nat) : ∀ R : List (Nat × Nat), DataW.insert (Lit.int .i64 x.1, DataW.lit (.int .i64 x.2)) (R.map fun r => (Lit.int .i64 r.1, (DataW.lit (.int .i64 r.2) : DataW Unit))) = (ins x R).map fun r => (Lit.int .i64 r.1, DataW.lit (.int .i64 r.2)) := by
  intro R
  induction R with
  | nil => rfl
  | cons y R ih =>
    simp only [List.map_cons, DataW.insert, ins, Lit.before]
    by_cases h : x.1 < y.1
    · have h2 : ((x.1 : Int) < (y.1 : Int)) := by omega
      simp [h, h2]
    · have h2 : ¬ ((x.1 : Int) < (y.1 : Int)) := by omega
      simp only [h, h2, decide_false, Bool.false_eq_true, if_false, List.map_cons]
      rw [ih]
theorem regD_put {R : List (Nat × Nat)} {x : Nat × Nat} (h : ∀ r ∈ R, r.1 ≠ x.1) : (regD R).put (.int .i64 x.1) (.lit (.int .i64 x.2)) = regD (ins x R) := by
  have hd : drop x.1 R = R := by
    unfold drop
    refine List.filter_eq_self.2 fun r hr => ?_
    have := h r hr
    simp; omega
  have he := regD_del R x.1
  rw [hd] at he
  unfold regD DataW.del at he
  injection he with he
  unfold regD DataW.put
  simp only
  rw [he, regD_insert]
theorem regD_keys (R : List (Nat × Nat)) : intKeys (regD R) = R.map fun r => (r.1 : Int) := by
  show (R.map _).map _ = _
  rw [List.map_map]
  rfl
theorem regD_size (R : List (Nat × Nat)) : Maps.size (regD R) = R.length := by
  unfold regD; rw [Maps.size_eq, List.length_map]

/-! ### laws of the places -/
theorem good_nil (n : Nat) : Good n [] := ⟨List.Pairwise.nil, fun r h => by cases h⟩
theorem good_ne {n : Nat} {R : List (Nat × Nat)} (hg : Good n R) {i j : Nat} (hij : i < j) (hj : j < R.length) : (R[i]'(by omega)).1 + (R[i]'(by omega)).2 ≤ R[j].1 :=
  List.pairwise_iff_getElem.1 hg.1 i j (by omega) hj hij
theorem good_tail {n : Nat} {r : Nat × Nat} {R : List (Nat × Nat)} (h : Good n (r :: R)) : Good n R := ⟨(List.pairwise_cons.1 h.1).2, fun x hx => h.2 x (.tail _ hx)⟩
theorem scan_apart {n k : Nat} : ∀ (R : List (Nat × Nat)) (at_ : Nat), Good n R → (∀ r ∈ R, at_ ≤ r.1) → at_ ≤ scan k at_ R ∧ ∀ r ∈ R, scan k at_ R + k ≤ r.1 ∨ r.1 + r.2 ≤ scan k at_ R := by
  intro R
  induction R with
  | nil => intro a _ _; exact ⟨Nat.le_refl _, fun r h => by cases h⟩
  | cons x R ih =>
    intro a hg ha
    have hx := List.pairwise_cons.1 hg.1
    unfold scan
    split
    · rename_i hk
      refine ⟨Nat.le_refl _, fun r hr => ?_⟩
      rcases List.mem_cons.1 hr with rfl | hr
      · exact .inl hk
      · have := hx.1 r hr; exact .inl (by omega)
    · obtain ⟨h1, h2⟩ := ih (x.1 + x.2) (good_tail hg) (fun r hr => hx.1 r hr)
      have hax := ha x (.head _)
      refine ⟨by omega, fun r hr => ?_⟩
      rcases List.mem_cons.1 hr with rfl | hr
      · exact .inr h1
      · exact h2 r hr
theorem scan_free {n k : Nat} {R : List (Nat × Nat)} (hg : Good n R) : ∀ r ∈ R, scan k 0 R + k ≤ r.1 ∨ r.1 + r.2 ≤ scan k 0 R := (scan_apart R 0 hg fun _ _ => Nat.zero_le _).2
theorem scan_ne {n k : Nat} {R : List (Nat × Nat)} (hg : Good n R) (hk : 1 ≤ k) : ∀ r ∈ R, r.1 ≠ scan k 0 R := by
  intro r hr
  have h1 := (hg.2 r hr).1
  rcases scan_free (k := k) hg r hr with h | h <;> omega
theorem scan_le {n k : Nat} : ∀ (R : List (Nat × Nat)) (a : Nat), Good n R → a ≤ n → scan k a R ≤ n := by
  intro R
  induction R with
  | nil => intro a _ h; exact h
  | cons x R ih =>
    intro a hg ha
    unfold scan
    split
    · exact ha
    · exact ih _ (good_tail hg) (hg.2 x (.head _)).2
theorem mem_ins {x r : Nat × Nat} : ∀ {R : List (Nat × Nat)}, r ∈ ins x R ↔ r = x ∨ r ∈ R := by
  intro R
  induction R with
  | nil => simp [ins]
  | cons y R ih =>
    unfold ins
    split
    · simp
    · simp only [List.mem_cons, ih]
      constructor
      · rintro (h | h | h)
        · exact .inr (.inl h)
        · exact .inl h
        · exact .inr (.inr h)
      · rintro (h | h | h)
        · exact .inr (.inl h)
        · exact .inl h
        · exact .inr (.inr h)
theorem length_ins (x : Nat × Nat) : ∀ R : List (Nat × Nat), (ins x R).length = R.length + 1 := by
  intro R
  induction R with
  | nil => rfl
  | cons y R ih =>
    unfold ins
    split
    · rfl
    · simp [ih]
theorem good_ins {n : Nat} {x : Nat × Nat} (h1 : 1 ≤ x.2) (h2 : x.1 + x.2 ≤ n) : ∀ {R : List (Nat × Nat)}, Good n R → (∀ r ∈ R, x.1 + x.2 ≤ r.1 ∨ r.1 + r.2 ≤ x.1) → Good n (ins x R) := by
  intro R
  induction R with
  | nil =>
    intro _ _
    refine ⟨List.pairwise_singleton _ _, fun r hr => ?_⟩
    obtain rfl := List.mem_singleton.1 hr
    exact ⟨h1, h2⟩
  | cons y R ih =>
    intro hg hx
    have hy := List.pairwise_cons.1 hg.1
    have hy1 := (hg.2 y (.head _)).1
    refine ⟨?_, fun r hr => ?_⟩
    · unfold ins
      split
      · rename_i hlt
        have hxy : x.1 + x.2 ≤ y.1 := by rcases hx y (.head _) with h | h <;> omega
        refine List.pairwise_cons.2 ⟨fun r hr => ?_, hg.1⟩
        rcases List.mem_cons.1 hr with rfl | hr
        · exact hxy
        · have := hy.1 r hr; omega
      · rename_i hlt
        have hxy : y.1 + y.2 ≤ x.1 := by rcases hx y (.head _) with h | h <;> omega
        refine List.pairwise_cons.2 ⟨fun r hr => ?_, (ih (good_tail hg) fun r hr => hx r (.tail _ hr)).1⟩
        rcases mem_ins.1 hr with rfl | hr
        · exact hxy
        · exact hy.1 r hr
    · rcases mem_ins.1 hr with rfl | hr
      · exact ⟨h1, h2⟩
      · exact hg.2 r hr
theorem good_cut {n k : Nat} {R : List (Nat × Nat)} (hg : Good n R) (hk : 1 ≤ k) (hn : scan k 0 R + k ≤ n) : Good n (ins (scan k 0 R, k) R) := good_ins hk hn hg (scan_free hg)
theorem good_drop {n : Nat} {R : List (Nat × Nat)} (k : Int) (hg : Good n R) : Good n (drop k R) := ⟨hg.1.sublist List.filter_sublist, fun r hr => hg.2 r (List.mem_filter.1 hr).1⟩
theorem lenAt_some {R : List (Nat × Nat)} {k : Int} (h : lenAt R k ≠ 0) : ∃ r ∈ R, (r.1 : Int) = k ∧ lenAt R k = r.2 := by
  unfold lenAt at *
  cases hf : R.find? (fun r => decide ((r.1 : Int) = k)) with
  | none => rw [hf] at h; exact absurd rfl h
  | some r =>
    have h1 := List.mem_of_find?_eq_some hf
    have h2 := List.find?_some hf
    exact ⟨r, h1, by simpa using h2, rfl⟩
theorem lenAt_mem {n : Nat} {r : Nat × Nat} : ∀ {R : List (Nat × Nat)}, Good n R → r ∈ R → lenAt R r.1 = r.2 := by
  intro R
  induction R with
  | nil => intro _ h; cases h
  | cons y R ih =>
    intro hg hr
    have hy := List.pairwise_cons.1 hg.1
    have hy1 := (hg.2 y (.head _)).1
    unfold lenAt
    rw [List.find?_cons]
    rcases List.mem_cons.1 hr with rfl | hr
    · simp
    · have := hy.1 r hr
      have hne : decide ((y.1 : Int) = (r.1 : Int)) = false := by simp; omega
      rw [hne]
      exact ih (good_tail hg) hr
theorem good_length {n : Nat} : ∀ (R : List (Nat × Nat)) (a : Nat), Good n R → (∀ r ∈ R, a ≤ r.1) → R ≠ [] → a + R.length ≤ n := by
  intro R
  induction R with
  | nil => intro a _ _ h; exact absurd rfl h
  | cons y R ih =>
    intro a hg ha _
    have hy := List.pairwise_cons.1 hg.1
    have hy1 := hg.2 y (.head _)
    have hay := ha y (.head _)
    by_cases hR : R = []
    · subst hR; simp; omega
    · have := ih (y.1 + y.2) (good_tail hg) (fun r hr => hy.1 r hr) hR
      simp only [List.length_cons]; omega
theorem good_len {n : Nat} {R : List (Nat × Nat)} (hg : Good n R) : R.length ≤ n := by
  by_cases h : R = []
  · subst h; exact Nat.zero_le _
  · have := good_length R 0 hg (fun _ _ => Nat.zero_le _) h; omega
/-- what is sorted out of the keys is the places, rising -/
theorem keys_sorted {n : Nat} {R : List (Nat × Nat)} {ss : List Int} (hg : Good n R) (h : ss.Perm (intKeys (regD R))) : ss.mergeSort (fun x y => decide (x ≤ y)) = R.map fun r => (r.1 : Int) := by
  rw [regD_keys] at h
  have hs : (R.map fun r => (r.1 : Int)).Pairwise (fun a b => a ≤ b) := by
    rw [List.pairwise_map]
    exact hg.1.imp fun {a b} hab => by omega
  have h1 : (ss.mergeSort (fun x y => decide (x ≤ y))).Pairwise (fun a b => a ≤ b) := by
    have := List.pairwise_mergeSort (le := fun x y : Int => decide (x ≤ y)) (fun a b c h1 h2 => by simp at *; omega) (fun a b => by simp; omega) ss
    exact this.imp fun {a b} h => by simpa using h
  exact List.Perm.eq_of_pairwise (fun a b _ _ h1 h2 => by omega) h1 hs ((List.mergeSort_perm ss _).trans h)
end Arena
end Go.Proofs.Ytlffmcadchbheaa
/- 'Ext': a later world in which all that was there is as it was. And a row's last step over it (HOWTO extra-small 9). -/
namespace Go.Proofs.Ytlffmcadchbheaa
open Go.RowKit Go.WideShapes Go.ChangeShapes

/-- all that was there is as it was -/
def Ext (w w' : World) : Prop := Below w.heap.size w w'
theorem Ext.refl (w : World) : Ext w w := Below.refl _ _
theorem Ext.below {w w' : World} (h : Ext w w') : Below w.heap.size w w' := h
theorem Ext.size {w w' : World} (h : Ext w w') : w.heap.size ≤ w'.heap.size := Below.size h
theorem Ext.trans {a b c : World} (h : Ext a b) (k : Ext b c) : Ext a c := Below.trans h (Below.mono k h.size)
theorem Ext.alloc (w : World) (o : Obj) : Ext w (w.alloc o) := Below.alloc (Below.refl _ _) (Nat.le_refl _) o
theorem Ext.drew (w : World) : Ext w w.drew := Below.drew (Below.refl _ _)
theorem Ext.drewN (w : World) (n : Nat) : Ext w (w.drewN n) := below_drewN (Below.refl _ _) n
theorem Ext.grow (w : World) (k : Nat) (os : Array Obj) : Ext w (Go.Sort.grow (w.drewN k) os) := Go.Lib.below_grow _ _ (Nat.le_refl _) k os
theorem Ext.cell {w w' : World} (h : Ext w w') {a : Addr} {v : Value} (hc : w.cell? a = some v) : w'.cell? a = some v := by
  have hl : a.block < w.heap.size := by
    rcases Nat.lt_or_ge a.block w.heap.size with h | h
    · exact h
    · simp [World.cell?, Array.getElem?_eq_none h] at hc
  rw [Below.cell h hl]; exact hc
theorem Ext.frozen {w w' : World} (h : Ext w w') {a : Addr} {v : Value} (hc : w.cell? a = some v) : w'.frozen? a = w.frozen? a := by
  have hl : a.block < w.heap.size := by
    rcases Nat.lt_or_ge a.block w.heap.size with h | h
    · exact h
    · simp [World.cell?, Array.getElem?_eq_none h] at hc
  exact Below.frozen h hl
theorem Ext.var {w w' : World} (h : Ext w w') {P : Program} {n : String} {g : Nat} {cs : Array Value} (hg : P.globalNamed n = some g) (hv : w.var? P n = some cs) : w'.var? P n = some cs := by
  have hl : g < w.heap.size := by
    rcases Nat.lt_or_ge g w.heap.size with h | h
    · exact h
    · simp [World.var?, hg, Array.getElem?_eq_none h] at hv
  exact var?_below h hg hl hv
theorem Ext.tab {w w' : World} (h : Ext w w') {P : Program} {n : String} {g : Nat} {k : IntKind} {zs : List Int} (hg : P.globalNamed n = some g) (hv : Lib.TabIs P w n k zs) : Lib.TabIs P w' n k zs := Ext.var h hg hv

section
variable {H : Type} {enc : TypeId × Value → H} {P : Program}
theorem post_of_below {f : Func} {s : ChangeSpec} {apart fresh handsOn again : Bool} {W W' : World} {args : Array Value} {v : Value} {ds gs : List (DataW H)} {before pa pv : List MemPlace}
    (hW : DataW.Whole enc P f.params.toList s.vars apart W args.toList ds gs before)
    (hres : ∀ (b : Nat) (sp : Nat → Bool) (hd : Bool), DataW.TrodAll enc P W' b sp hd f.resultTypes.toList (v.resultList f.resultTypes.size) (s.fn H (ds ++ gs)).results [])
    (hargs : ∀ sp : Nat → Bool, (∀ p ∈ before, sp p.block = true) → DataW.TrodAll enc P W' 0 sp true f.params.toList args.toList (s.fn H (ds ++ gs)).args pa)
    (hvars : ∀ sp : Nat → Bool, (∀ p ∈ before, sp p.block = true) → DataW.TrodVars enc P W' sp s.vars (s.fn H (ds ++ gs)).vars pv)
    (hps : before = pa ++ pv) (hb : Below W.heap.size W W')
    (hok : ∀ (j : Nat) (t : TypeId) (r : Value), f.resultTypes[j]? = some t → (v.resultList f.resultTypes.size)[j]? = some r → Value.okWide P W' .any 0 t r) :
    s.post enc P f apart fresh handsOn again W args v W' := by
  have hlt : ∀ p ∈ before, p.block < W.heap.size := fun p hp => hW.lt p hp
  have hold : ∀ p ∈ before, (fun b => decide (b < W.heap.size)) p.block = true := fun p hp => by simpa using hlt p hp
  refine ⟨ds, gs, before, [], pa, pv, hW, hres _ _ _, hargs _ hold, hvars _ hold, World.keptBut_mono (fun p hp => ⟨hp, ?_⟩) (hb.frame (· ∈ before)), fun _ => ?_⟩
  · rw [hps, List.mem_append] at hp
    exact Or.inr hp
  · obtain ⟨_, _, _, _, _, hz, hn⟩ := hW
    refine ⟨hok, _, _, ([] ++ pa) ++ pv, ⟨[] ++ pa, pv, trodAll_append (hargs _ (fun _ _ => rfl)) (hres _ _ _), hvars _ (fun _ _ => rfl), rfl, ?_, ?_⟩, ?_⟩
    · intro b off hp
      have hin : MemPlace.cell b off ∈ before := by rw [hps]; simpa using hp
      rw [hb.frozen (hlt _ hin)]
      exact hz b off hin
    · intro ha
      have := hn ha
      rw [hps] at this
      simpa using this
    · intro p hp _
      rw [hps]
      simpa using hp
end

/-- what a row's list says of one of its variables -/
theorem laid_mem {P : Program} {w : World} {n : String} {d : DataW Unit} : ∀ {l : List (String × DataW Unit)} {ps : List MemPlace}, DataW.LaidVars P w l ps → (n, d) ∈ l →
    ∃ g t cs fuel p, P.globalNamed n = some g ∧ (P.globals[g]?).map (·.type) = some t ∧ w.var? P n = some cs ∧ DataW.trod (fun _ => ()) P w 0 (fun _ => true) false fuel t cs.toList = some (d, p)
  | [], _, _, hm => by cases hm
  | (n', d') :: r, ps, h, hm => by
    obtain ⟨g, t, cs, fuel, p, q, h1, h2, h3, h4, h5, _⟩ := h
    rcases List.mem_cons.1 hm with e | e
    · obtain ⟨rfl, rfl⟩ := Prod.mk.inj e
      exact ⟨g, t, cs, fuel, p, h1, h2, h3, h4⟩
    · exact laid_mem h5 e
theorem tabIs_of_mem {P : Program} {W : World} {name : String} {k : IntKind} {zs : List Int} {l : List (String × DataW Unit)} {g : Nat} {t e : TypeId} {n : Nat}
    (hg : P.globalNamed name = some g) (hty : (P.globals[g]?).map (·.type) = some t) (ht : P.underlying t = some (.array n e)) (he : P.underlying e = some (.int k)) (hce : P.cellsOf e = 1) (hct : P.cellsOf t = n)
    (h : laidMet P l W) (hm : (name, Lib.tabData k zs) ∈ l) : Lib.TabIs P W name k zs := by
  obtain ⟨ps, hl, _⟩ := h
  obtain ⟨g', t', cs, fuel, p, hg', ht', hvar, hd⟩ := laid_mem hl hm
  obtain rfl := Option.some.inj (hg.symm.trans hg')
  obtain rfl := Option.some.inj (hty.symm.trans ht')
  unfold Lib.TabIs
  rw [hvar, ← Lib.cells_of_tab ht he hce hct hd]
/-- a table of texts as a row lists it -/
def strsData {H : Type} (ls : List (List UInt8)) : DataW H := .agg (ls.map fun l => .lit (.string l))
theorem cells_of_strs {H : Type} {enc : TypeId × Value → H} {P : Program} {w : World} {base : Nat} {sp : Nat → Bool} {held : Bool} {fuel : Nat} {t e : TypeId} {n : Nat} {cs : List Value} {ls : List (List UInt8)} {p : List MemPlace}
    (ht : P.underlying t = some (.array n e)) (he : P.underlying e = some .string) (hce : P.cellsOf e = 1) (hct : P.cellsOf t = n)
    (h : DataW.trod enc P w base sp held fuel t cs = some (strsData ls, p)) : cs = ls.map fun l => Value.string ⟨l.toArray⟩ := by
  cases fuel with
  | zero => simp [DataW.trod] at h
  | succ fuel =>
    simp only [DataW.trod, ht, hce, hct, Nat.mul_one] at h
    split at h
    · rename_i hl
      obtain ⟨xs, hm, hx⟩ := Option.map_eq_some_iff.1 h
      have hxs : xs.map (·.1) = ls.map fun l => (DataW.lit (.string l) : DataW H) := by
        have := congrArg Prod.fst hx
        simpa [strsData] using this
      have hxl : xs.length = n := by simpa using Lib.mapM_length hm
      have hzl : ls.length = n := by
        have := congrArg List.length hxs
        simp at this
        omega
      apply List.ext_getElem?
      intro i
      by_cases hi : i < n
      · obtain ⟨b, hb, hf⟩ := Lib.mapM_at hm i i (by simp [hi])
        obtain ⟨s, hc, hbs⟩ := DataW.trod_string he hf
        have h1 : cs[i]? = some (.string s) := by
          have := congrArg (·[0]?) hc
          simpa [List.getElem?_take, List.getElem?_drop] using this
        have h2 : (xs.map (·.1))[i]? = some (DataW.lit (.string s.data.toList) : DataW H) := by simp [hb, hbs]
        rw [hxs] at h2
        simp only [List.getElem?_map, Option.map_eq_some_iff, DataW.lit.injEq, Lit.string.injEq] at h2
        obtain ⟨l', hl', he'⟩ := h2
        rw [h1, List.getElem?_map, hl', he']
        rfl
      · rw [List.getElem?_eq_none (by omega), List.getElem?_eq_none (by simp; omega)]
    · cases h
theorem strsAre_of_mem {P : Program} {W : World} {name : String} {ls : List (List UInt8)} {l : List (String × DataW Unit)} {g : Nat} {t e : TypeId} {n : Nat}
    (hg : P.globalNamed name = some g) (hty : (P.globals[g]?).map (·.type) = some t) (ht : P.underlying t = some (.array n e)) (he : P.underlying e = some .string) (hce : P.cellsOf e = 1) (hct : P.cellsOf t = n)
    (h : laidMet P l W) (hm : (name, strsData ls) ∈ l) : ∃ tt fr, W.heap[g]? = some (.cells (ls.map fun l => Value.string ⟨l.toArray⟩).toArray tt fr) := by
  obtain ⟨ps, hl, _⟩ := h
  obtain ⟨g', t', cs, fuel, p, hg', ht', hvar, hd⟩ := laid_mem hl hm
  obtain rfl := Option.some.inj (hg.symm.trans hg')
  obtain rfl := Option.some.inj (hty.symm.trans ht')
  have e1 := cells_of_strs ht he hce hct hd
  simp only [World.var?, hg, Option.bind_some] at hvar
  split at hvar
  · rename_i cs' tt fr hh
    obtain rfl := Option.some.inj hvar
    refine ⟨tt, fr, ?_⟩
    rw [hh, ← e1]
  · cases hvar
theorem laidMet_of_H {P : Program} {W : World} {l : List (String × DataW Unit)} (h : laidMetH P l W) (hh : (l.filter fun x => x.2.handleName?.isSome) = []) : laidMet P l W := by
  unfold laidMetH at h; rw [hh] at h; exact h
/-- the worlds behind w: some draws, some blocks -/
theorem Ext.regrown (w : World) (d : Nat) (os : Array Obj) : Ext w (Go.Sort.grow (redrawn w d) os) := below_regrown w d os
theorem quiet_same {P : Program} {f : FuncId} {args : Array Value} {w : World} {d : Nat} {os : Array Obj} {v : Value}
    (h : Calls P f args (Go.Sort.grow (redrawn w d) os) fun e w' => e = .returned v ∧ Go.Sort.grow (redrawn w d) os = w') : Calls P f args (Go.Sort.grow (redrawn w d) os) fun e w'' => e = .returned v ∧ ∃ p : Regrown, w'' = Go.Sort.grow (redrawn w p.d) p.os :=
  h.mono fun _ _ ⟨he, hw⟩ => ⟨he, ⟨d, os⟩, hw.symm⟩
theorem quiet_ext {P : Program} {f : FuncId} {args : Array Value} {w : World} {d : Nat} {os : Array Obj} {v : Value}
    (h : Calls P f args (Go.Sort.grow (redrawn w d) os) fun e w' => e = .returned v ∧ Ext (Go.Sort.grow (redrawn w d) os) w') : Calls P f args (Go.Sort.grow (redrawn w d) os) fun e w'' => e = .returned v ∧ ∃ p : Regrown, w'' = Go.Sort.grow (redrawn w p.d) p.os :=
  Calls.regrown_of h
end Go.Proofs.Ytlffmcadchbheaa
/- A world that has grown, and turned in some of its blocks alone. -/
namespace Go.Proofs.Ytlffmcadchbheaa
open Go.RowKit
/-- w' is w grown, turned at most in the blocks of a list -/
structure Turn (bs : List Nat) (w w' : World) : Prop where
  os : w'.os = w.os
  tape : w'.tape = w.tape
  output : w'.output = w.output
  size : w.heap.size ≤ w'.heap.size
  block : ∀ k, k < w.heap.size → k ∉ bs → w'.heap[k]? = w.heap[k]?
theorem Turn.refl (bs : List Nat) (w : World) : Turn bs w w := ⟨rfl, rfl, rfl, Nat.le_refl _, fun _ _ _ => rfl⟩
theorem Turn.trans {bs : List Nat} {a b c : World} (h : Turn bs a b) (k : Turn bs b c) : Turn bs a c :=
  ⟨k.os.trans h.os, k.tape.trans h.tape, k.output.trans h.output, Nat.le_trans h.size k.size, fun i hi hb => (k.block i (Nat.lt_of_lt_of_le hi h.size) hb).trans (h.block i hi hb)⟩
theorem Turn.mono {bs cs : List Nat} {w w' : World} (h : Turn bs w w') (hs : ∀ b ∈ bs, b ∈ cs) : Turn cs w w' :=
  ⟨h.os, h.tape, h.output, h.size, fun i hi hb => h.block i hi fun hm => hb (hs i hm)⟩
theorem Turn.of_ext {bs : List Nat} {w w' : World} (h : Ext w w') : Turn bs w w' := ⟨Below.os h, Below.tape h, Below.output h, Below.size h, fun i hi _ => Below.block h i hi⟩
theorem Turn.ext {w w' : World} (h : Turn [] w w') : Ext w w' := ⟨h.os, h.tape, h.output, h.size, fun i hi => h.block i hi (by simp)⟩
theorem Turn.of_grown {w w' : World} {row : Option Nat} {bs : List Nat} (h : w.grownBy w' row) (hr : ∀ b, row = some b → b ∈ bs ∨ w.heap.size ≤ b) : Turn bs w w' :=
  ⟨h.os, h.tape, h.output, h.size, fun i hi hb => h.block i hi fun e => by rcases hr i e.symm with h | h; exact hb h; omega⟩
theorem Turn.setCell {bs : List Nat} {w w' : World} (h : Turn bs w w') {a : Addr} (ha : a.block ∈ bs ∨ w.heap.size ≤ a.block) (u : Value) : Turn bs w (w'.setCell a u) := by
  refine ⟨h.os, h.tape, h.output, by simpa [World.setCell] using h.size, fun i hi hb => ?_⟩
  rw [Below.heap_setCell _ _ _ _ (by rintro rfl; rcases ha with h | h; exact hb h; omega)]
  exact h.block i hi hb
theorem Turn.below {B : Nat} {bs : List Nat} {w w' : World} (h : Turn bs w w') (hB : B ≤ w.heap.size) (hb : ∀ b ∈ bs, B ≤ b) : Below B w w' :=
  ⟨h.os, h.tape, h.output, h.size, fun i hi => h.block i (by omega) fun hm => by have := hb i hm; omega⟩
theorem Turn.cell {bs : List Nat} {w w' : World} (h : Turn bs w w') {a : Addr} {v : Value} (ha : a.block ∉ bs) (hc : w.cell? a = some v) : w'.cell? a = some v := by
  have hl : a.block < w.heap.size := by
    by_cases hl : a.block < w.heap.size
    · exact hl
    · have : w.heap[a.block]? = none := Array.getElem?_eq_none (by omega)
      simp [World.cell?, this] at hc
  rw [World.cell?_of_block (w := w) (h.block a.block hl ha)]
  exact hc
end Go.Proofs.Ytlffmcadchbheaa
/- Slices of pairs; the walk of keep.Pairs. -/
namespace Go.Proofs.Ytlffmcadchbheaa
open Go.RowKit Go.Maps
set_option maxHeartbeats 2000000
set_option maxRecDepth 100000
theorem info_pair : (Try.prog.info? 116).map (fun i => (i.zero, i.size, i.bytes)) = some (some (.agg #[.int .i64 0, .int .i64 0]), 2, 16) := by kernel_rfl
def pairC (r : Nat × Nat) : List Value := [.int .i64 r.1, .int .i64 r.2]
/-- a slice of pairs of the call's own -/
def PairRow (w : World) (base : Nat) (v : Value) (R : List (Nat × Nat)) : Prop := w.ownsRow base 116 2 v R.length (R.flatMap pairC)
theorem PairRow.nil (w : World) (base : Nat) : PairRow w base (.slice none 0 0) [] := World.ownsRow_nil _ _ _ _
theorem PairRow.alloc {w : World} {base : Nat} {v : Value} {R : List (Nat × Nat)} (h : PairRow w base v R) (o : Obj) : PairRow (w.alloc o) base v R := World.ownsRow.alloc h o
theorem PairRow.len {w : World} {base : Nat} {v : Value} {R : List (Nat × Nat)} (h : PairRow w base v R) : ∃ a c, v = .slice a R.length c ∧ R.length ≤ c ∧ c ≤ maxLen := by
  rcases h.2 with ⟨h1, h2⟩ | ⟨g, cap, cur, h1, _, _, h2, h3, _⟩
  · exact ⟨none, 0, by rw [h1, h2], by omega, Nat.zero_le _⟩
  · exact ⟨_, cap, h1, h2, h3⟩
theorem PairRow.own {w : World} {base : Nat} {v : Value} {R : List (Nat × Nat)} (h : PairRow w base v R) : ∀ b, v.ownBlock = some b → base ≤ b := by
  intro b hb
  rcases h.2 with ⟨h1, _⟩ | ⟨g, cap, cur, h1, hb1, _⟩
  · subst h1; simp [Value.ownBlock] at hb
  · subst h1; simp only [Value.ownBlock, Option.some.injEq] at hb; omega
theorem PairRow.mono {w : World} {base base' : Nat} {v : Value} {R : List (Nat × Nat)} (h : PairRow w base v R) (hb : base' ≤ base) : PairRow w base' v R := by
  refine ⟨h.1, ?_⟩
  rcases h.2 with h1 | ⟨g, cap, cur, h1, hb1, hg, h2⟩
  · exact .inl h1
  · exact .inr ⟨g, cap, cur, h1, by omega, hg, h2⟩
theorem PairRow.turn {w w' : World} {base : Nat} {bs : List Nat} {v : Value} {R : List (Nat × Nat)} (h : PairRow w base v R) (t : Turn bs w w') (hb : ∀ b ∈ bs, b < base) : PairRow w' base v R := by
  refine ⟨h.1, ?_⟩
  rcases h.2 with h1 | ⟨g, cap, cur, h1, hb1, hg, h2⟩
  · exact .inl h1
  · exact .inr ⟨g, cap, cur, h1, hb1, by rw [t.block g (Array.getElem?_eq_some_iff.1 hg).1 (fun hm => by have := hb g hm; omega)]; exact hg, h2⟩
theorem cell_pair {w : World} {a b : Value} {T : TypeId} : ∀ j u, [a, b][j]? = some u → (w.alloc (.cells #[a, b] T)).cell? ((⟨w.heap.size, 0, none⟩ : Addr).add j) = some u := by
  intro j u h
  have hb : (w.alloc (.cells #[a, b] T)).heap[w.heap.size]? = some (.cells #[a, b] T (0, 0)) := heap_alloc_new _ _
  match j, h with
  | 0, h => simp at h; subst h; simp [Addr.add]
  | 1, h => simp at h; subst h; simp [Addr.add]
  | j + 2, h => simp at h
theorem wpList_append_pair {ops : Array Oper} {rest : List Oper} {o : Oper} {a : Act} {Q : Exit → Act → World → Prop} {w : World} (hgd : o.guard = none) (s x : Operand)
    (ho : o.op = .call { callee := .builtin .append, args := #[s, x], argTypes := #[112, 112] })
    (base : Nat) (v : Value) (R : List (Nat × Nat)) (hs : a.eval s = v) (hown : PairRow w base v R) (r1 r2 : Nat) (g : Nat) (hx : a.eval x = .slice (some ⟨g, 0, none⟩) 1 1) (hgs : w.heap.size = g)
    (hlen : R.length + 1 ≤ 1099511627776) (hbase : base ≤ w.heap.size)
    (h : ∀ v' w', PairRow w' base v' (R ++ [(r1, r2)]) → (w.alloc (.cells #[.int .i64 r1, .int .i64 r2] 116)).grownBy w' v.ownBlock → wpList Try.prog ops Q rest (a.put o.dst v') w') :
    wpList Try.prog ops Q (o :: rest) a (w.alloc (.cells #[.int .i64 r1, .int .i64 r2] 116)) := by
  subst hgs
  obtain ⟨i0, hi, hz0, hz1, hz2⟩ := info_parts info_pair
  refine wpList_append_own (P := Try.prog) (w := w.alloc (.cells #[.int .i64 r1, .int .i64 r2] 116)) hgd s x 112 ho base 116 i0 _ 2 16 Try.underlying112 hi hz0 hz1 hz2 rfl (by decide) v R.length (R.flatMap pairC) hs (World.ownsRow.alloc hown _)
    ⟨w.heap.size, 0, none⟩ 1 1 (pairC (r1, r2)) hx rfl cell_pair ?_ (by unfold maxLen; omega) (by omega) (by simp; omega) ?_
  · intro u hu; simp [pairC] at hu; rcases hu with rfl | rfl <;> rfl
  · intro v' w' hown' hgrow _
    refine h v' w' ?_ hgrow
    unfold PairRow
    rw [List.length_append, List.flatMap_append]
    simpa using hown'
/-- a slice that reads as pairs, wherever it lies -/
def PairSl (w : World) (v : Value) (l : List (Nat × Nat)) : Prop := ∃ q c, v = .slice q l.length c ∧ l.length ≤ c ∧ c ≤ maxLen ∧ ∀ (i : Nat) (x : Nat × Nat), l[i]? = some x → ∃ b off, q = some ⟨b, off, none⟩ ∧ w.cell? ⟨b, off + i * 2, none⟩ = some (.int .i64 x.1) ∧ w.cell? ⟨b, off + i * 2 + 1, none⟩ = some (.int .i64 x.2)
theorem PairSl.ext {w w' : World} {v : Value} {l : List (Nat × Nat)} (h : PairSl w v l) (e : Ext w w') : PairSl w' v l := by
  obtain ⟨q, c, hv, h1, h2, hc⟩ := h
  exact ⟨q, c, hv, h1, h2, fun i x hx => by obtain ⟨b, off, hq, hc1, hc2⟩ := hc i x hx; exact ⟨b, off, hq, e.cell hc1, e.cell hc2⟩⟩
theorem flat2 : ∀ (l : List (Nat × Nat)) (i : Nat) (x : Nat × Nat), l[i]? = some x → (l.flatMap pairC)[i * 2]? = some (.int .i64 x.1) ∧ (l.flatMap pairC)[i * 2 + 1]? = some (.int .i64 x.2) := by
  intro l
  induction l with
  | nil => intro i x h; simp at h
  | cons y l ih =>
    intro i x h
    cases i with
    | zero => simp at h; subst h; simp [pairC]
    | succ i =>
      have h2 := ih i x (by simpa using h)
      rw [List.flatMap_cons]
      have e0 : (i + 1) * 2 = (pairC y).length + i * 2 := by simp [pairC]; omega
      have e1 : (i + 1) * 2 + 1 = (pairC y).length + (i * 2 + 1) := by simp [pairC]; omega
      rw [e0, show (pairC y).length + i * 2 + 1 = (pairC y).length + (i * 2 + 1) by omega, List.getElem?_append_right (by omega), List.getElem?_append_right (by omega)]
      simpa using h2
theorem PairRow.sl {w : World} {base : Nat} {v : Value} {l : List (Nat × Nat)} (h : PairRow w base v l) : PairSl w v l := by
  rcases h.2 with ⟨h1, h2⟩ | ⟨g, cap, cur, h1, hb, hg, h2, h3, h4, h5⟩
  · refine ⟨none, 0, by rw [h1, h2], by omega, Nat.zero_le _, fun i x hx => ?_⟩
    have := (List.getElem?_eq_some_iff.1 hx).1
    omega
  · refine ⟨_, cap, h1, h2, h3, fun i x hx => ⟨g, 0, rfl, ?_⟩⟩
    subst h1
    have hi : i < l.length := (List.getElem?_eq_some_iff.1 hx).1
    have hf := flat2 l i x hx
    rw [Nat.zero_add, World.ownsRow.cellAt h (i * 2) (by omega), World.ownsRow.cellAt h (i * 2 + 1) (by omega)]
    exact hf
theorem run_part2 (xs : Array Value) (i : Nat) (v : Value) (h : xs[i]? = some v) (w : World) : (part 3 xs i).run Try.prog w = .ok v w := by
  have hA : ∀ w, (isAgg 3).run Try.prog w = .ok false w := fun w => by kernel_rfl
  simp [part, hA, h]
theorem run_equal_pair' (dd : Nat) (a b c d : Int) (w : World) : (Op.equalIn (dd + 1 + 1) 116 (.agg #[.int .i64 a, .int .i64 b]) (.agg #[.int .i64 c, .int .i64 d])).run Try.prog w = .ok ((a == c) && (b == d)) w := by
  have hS : ∀ w, (sizeOf 3).run Try.prog w = .ok 1 w := fun w => by kernel_rfl
  have h0 : ∀ (x y : Value) w, (part 3 #[x, y] 0).run Try.prog w = .ok x w := fun x y w => run_part2 _ 0 x rfl w
  have h1 : ∀ (x y : Value) w, (part 3 #[x, y] 1).run Try.prog w = .ok y w := fun x y w => run_part2 _ 1 y rfl w
  have he : ∀ (x y : Int) w, (Op.equalIn (dd + 1) 3 (.int .i64 x) (.int .i64 y)).run Try.prog w = .ok (x == y) w := fun x y w => run_equalIn_int w dd 3 .i64 .i64 x y Try.underlying3
  rw [Op.equalIn]
  simp only [Sem.run_bind, run_underlying Try.underlying116, Result.andThen_ok, hS]
  simp [Std.Legacy.Range.forIn_eq_forIn_range', List.range', h0, h1, he]
  by_cases e1 : a = c <;> by_cases e2 : b = d <;> simp [e1, e2]
theorem run_equal_pair (a b c d : Int) (w : World) : (Op.equalIn 10000 116 (.agg #[.int .i64 a, .int .i64 b]) (.agg #[.int .i64 c, .int .i64 d])).run Try.prog w = .ok ((a == c) && (b == d)) w := run_equal_pair' 9998 a b c d w
end Go.Proofs.Ytlffmcadchbheaa
/- Slices of words; the walk of keep.Words. -/
namespace Go.Proofs.Ytlffmcadchbheaa
open Go.RowKit Go.Maps
set_option maxHeartbeats 2000000
set_option maxRecDepth 100000
theorem info_u64 : (Try.prog.info? 29).map (fun i => (i.zero, i.size, i.bytes)) = some (some (.int .u64 0), 1, 8) := by kernel_rfl
/-- a slice that reads as words, wherever it lies -/
def WordSl (w : World) (v : Value) (l : List Int) : Prop := ∃ q c, v = .slice q l.length c ∧ l.length ≤ c ∧ c ≤ maxLen ∧ ∀ (i : Nat) (x : Int), l[i]? = some x → ∃ b off, q = some ⟨b, off, none⟩ ∧ w.cell? ⟨b, off + i, none⟩ = some (.int .u64 x)
theorem WordSl.ext {w w' : World} {v : Value} {l : List Int} (h : WordSl w v l) (e : Ext w w') : WordSl w' v l := by
  obtain ⟨q, c, hv, h1, h2, hc⟩ := h
  exact ⟨q, c, hv, h1, h2, fun i x hx => by obtain ⟨b, off, hq, hcc⟩ := hc i x hx; exact ⟨b, off, hq, e.cell hcc⟩⟩
theorem WordSl.of_row {w : World} {base : Nat} {v : Value} {l : List Int} (h : w.ownsRow base 29 1 v l.length (l.map fun x => Value.int .u64 x)) : WordSl w v l := by
  rcases h.2 with ⟨h1, h2⟩ | ⟨g, cap, cur, h1, hb, hg, h2, h3, h4, h5⟩
  · refine ⟨none, 0, by rw [h1, h2], by omega, Nat.zero_le _, fun i x hx => ?_⟩
    have := (List.getElem?_eq_some_iff.1 hx).1
    omega
  · refine ⟨_, cap, h1, h2, h3, fun i x hx => ⟨g, 0, rfl, ?_⟩⟩
    subst h1
    have hi : i < l.length := (List.getElem?_eq_some_iff.1 hx).1
    rw [Nat.zero_add, World.ownsRow.cellAt h i (by omega), List.getElem?_map, hx]
    rfl
theorem keep_words {w : World} {va vb : Value} {a b : List Int} (ha : WordSl w va a) (hb : WordSl w vb b) : Calls Try.prog 32 #[va, vb] w fun e w' => e = .returned (.bool (decide (a = b))) ∧ Ext w w' := by
  obtain ⟨qa, ca, rfl, la1, la2, hca⟩ := ha
  obtain ⟨qb, cb, rfl, lb1, lb2, hcb⟩ := hb
  unfold maxLen at la2 lb2
  by_cases hl : a.length = b.length
  · have HA := Lib.hid hca; have HB := Lib.hid hcb
    have HL := Lib.hid hl.symm
    rw [← hl] at lb1 ⊢
    clear hca hcb hl
    go_enter Try.func32, Try.ntmps32
    go_wp2
    go_loopw [5] (fun i wr => ∃ k : Nat, k ≤ a.length ∧ i = .int .i64 k ∧ a.take k = b.take k ∧ Ext w wr) (fun i _ => a.length - (Go.RowKit.intOf i).toNat)
    case atStart => exact ⟨0, by omega, rfl, rfl, Ext.refl _⟩
    case round =>
      obtain ⟨k, hk, rfl, htk, hx⟩ := hrel
      have HT := Lib.hid htk
      clear htk
      by_cases hlt : k < a.length
      · have hltb : k < b.length := by rw [HL.out]; exact hlt
        obtain ⟨b1, o1, rfl, p0⟩ := HA.out k a[k] (List.getElem?_eq_getElem hlt)
        obtain ⟨b2, o2, rfl, q0⟩ := HB.out k b[k] (List.getElem?_eq_getElem hltb)
        have P0 := hx.cell p0; have Q0 := hx.cell q0
        clear p0 q0
        have HX := Lib.hid (show a[k] = b[k] → a.take (k + 1) = b.take (k + 1) by intro e; rw [List.take_succ_eq_append_getElem hlt, List.take_succ_eq_append_getElem hltb, e, HT.out])
        have HY := Lib.hid (show a[k] ≠ b[k] → decide (a = b) = false by intro e; exact decide_eq_false (fun h => e (by subst h; rfl)))
        generalize a[k] = x at *
        generalize b[k] = y at *
        have i1 : (k : Int) < (a.length : Int) := by omega
        by_cases hxy : x = y
        · subst hxy
          go_wp2
          go_big_quiet (fail)
          go_wp2
          exact ⟨⟨k + 1, by omega, by go_num, HX.out (by first | trivial | rfl), hx.trans (Ext.drewN _ _)⟩, by simp [Go.RowKit.intOf]; omega⟩
        · have hres := HY.out hxy
          have bne : (x == y) = false := beq_false_of_ne hxy
          have HRS := Lib.hid hres
          clear hres
          go_wp2
          go_big_quiet (fail)
          go_wp2
          go_ret
          rw [HRS.out]
          exact ⟨rfl, hx.trans (Ext.drewN _ _)⟩
      · obtain rfl : k = a.length := by omega
        have hab : a = b := by
          have := HT.out
          rw [List.take_length, ← HL.out, List.take_length] at this
          exact this
        have HAB := Lib.hid (decide_eq_true hab)
        clear hab
        go_wp2
        go_ret
        rw [HAB.out]
        exact ⟨rfl, hx⟩
  · have bl : ((a.length : Int) == (b.length : Int)) = false := beq_false_of_ne (by omega)
    have hab : decide (a = b) = false := decide_eq_false (fun e => hl (by rw [e]))
    rw [hab]
    clear hca hcb hab hl
    go_enter Try.func32, Try.ntmps32
    go_wp2
    go_ret
    exact ⟨rfl, Ext.refl _⟩
end Go.Proofs.Ytlffmcadchbheaa
/- The reference's arena in memory; what only reads it. -/
namespace Go.Proofs.Ytlffmcadchbheaa
open Go.RowKit Go.Maps Arena
set_option maxHeartbeats 4000000
set_option maxRecDepth 100000
/-- the reference's arena: its row, its words, its regions -/
structure RefAt (w : World) (q gq B n : Nat) (ws : List Int) (vR : Value) (R : List (Nat × Nat)) : Prop where
  row : w.heap[q]? = some (.cells #[.slice (some ⟨gq, 0, none⟩) n n, vR] 114 (0, 0))
  words : w.heap[gq]? = some (.cells (ws.map fun x => Value.int .u64 x).toArray 29 (0, 0))
  len : ws.length = n
  regs : PairRow w B vR R
  good : Arena.Good n R
  ne : q ≠ gq
  qB : q < B
  gB : gq < B
  least : n ≤ 20000
theorem RefAt.lt {w : World} {q gq B n : Nat} {ws : List Int} {vR : Value} {R : List (Nat × Nat)} (h : RefAt w q gq B n ws vR R) : q < w.heap.size ∧ gq < w.heap.size :=
  ⟨(Array.getElem?_eq_some_iff.1 h.row).1, (Array.getElem?_eq_some_iff.1 h.words).1⟩
theorem RefAt.turn {w w' : World} {q gq B n : Nat} {ws : List Int} {vR : Value} {R : List (Nat × Nat)} {bs : List Nat} (h : RefAt w q gq B n ws vR R) (t : Turn bs w w') (hq : q ∉ bs) (hg : gq ∉ bs) (hb : ∀ b ∈ bs, b < B) : RefAt w' q gq B n ws vR R := by
  obtain ⟨lq, lg⟩ := h.lt
  exact ⟨by rw [t.block q lq hq]; exact h.row, by rw [t.block gq lg hg]; exact h.words, h.len, h.regs.turn t hb, h.good, h.ne, h.qB, h.gB, h.least⟩
theorem RefAt.ext {w w' : World} {q gq B n : Nat} {ws : List Int} {vR : Value} {R : List (Nat × Nat)} (h : RefAt w q gq B n ws vR R) (e : Ext w w') : RefAt w' q gq B n ws vR R :=
  h.turn (Turn.of_ext (bs := []) e) (by simp) (by simp) (by simp)
theorem RefAt.cells {w : World} {q gq B n : Nat} {ws : List Int} {vR : Value} {R : List (Nat × Nat)} (h : RefAt w q gq B n ws vR R) :
    w.cell? ⟨q, 0, none⟩ = some (.slice (some ⟨gq, 0, none⟩) n n) ∧ w.cell? ⟨q, 1, none⟩ = some vR ∧ w.frozen? ⟨q, 1, none⟩ = false := by
  refine ⟨?_, ?_, ?_⟩
  · simp [World.cell?, h.row]
  · simp [World.cell?, h.row]
  · simp [World.frozen?, h.row]
theorem RefAt.word {w : World} {q gq B n : Nat} {ws : List Int} {vR : Value} {R : List (Nat × Nat)} (h : RefAt w q gq B n ws vR R) {i : Nat} (hi : i < n) : w.cell? ⟨gq, i, none⟩ = some (.int .u64 (ws.getD i 0)) ∧ w.frozen? ⟨gq, i, none⟩ = false := by
  have hl : i < ws.length := by rw [h.len]; exact hi
  constructor
  · simp [World.cell?, h.words, hl]
  · simp [World.frozen?, h.words]
theorem lenAt_zero {n : Nat} {R : List (Nat × Nat)} {k : Int} (hg : Arena.Good n R) (h0 : lenAt R k = 0) : ∀ r ∈ R, (r.1 : Int) ≠ k := by
  intro r hr e
  subst e
  have h1 := lenAt_mem hg hr
  have h2 := (hg.2 r hr).1
  omega
theorem find_yes {w : World} {q gq B n : Nat} {ws : List Int} {vR : Value} {R : List (Nat × Nat)} (h : RefAt w q gq B n ws vR R) {i : Nat} (hi : i < R.length) :
    Calls Try.prog 64 #[.pointer (some ⟨q, 0, none⟩), .int .i64 R[i].1] w fun e w' => e = .returned (.int .i64 i) ∧ w = w' := by
  obtain ⟨qa, ca, rfl, la1, la2, hca⟩ := h.regs.sl
  obtain ⟨c0, c1, _⟩ := h.cells
  have hg := h.good
  have HG := Lib.hid hg
  have HA := Lib.hid hca
  have hrl := good_len hg
  have hn := h.least
  unfold maxLen at la2
  have HI := Lib.hid (show R[i] = R[i] from rfl)
  generalize hx : R[i] = x at HI ⊢
  have HX := Lib.hid hx
  clear hca h hg hx HI
  go_enter Try.func64, Try.ntmps64
  go_wp2
  go_loop [5] (fun j => ∃ k : Nat, k ≤ i ∧ j = .int .i64 k) (fun j => R.length - (Go.RowKit.intOf j).toNat)
  case atStart => exact ⟨0, by omega, rfl⟩
  case round =>
    obtain ⟨k, hk, rfl⟩ := hrel
    have i1 : (k : Int) < (R.length : Int) := by omega
    obtain ⟨b, off, rfl, p0, p1⟩ := HA.out k _ (List.getElem?_eq_getElem (by omega))
    by_cases hlt : k < i
    · have hne := good_ne HG.out hlt hi
      have hp := (HG.out.2 R[k] (List.getElem_mem (by omega))).1
      rw [HX.out] at hne
      have bne : ((R[k].1 : Int) == (x.1 : Int)) = false := beq_false_of_ne (by omega)
      clear hne hp p1
      generalize R[k] = y at *
      go_wp2
      go_round
      case rel => exact ⟨k + 1, by omega, by go_num⟩
      case measure => simp [Go.RowKit.intOf]; omega
    · obtain rfl : k = i := by omega
      rw [HX.out] at p0
      clear p1
      go_wp2
      go_ret
      exact ⟨rfl, rfl⟩
theorem find_no {w : World} {q gq B n : Nat} {ws : List Int} {vR : Value} {R : List (Nat × Nat)} {x : Int} (h : RefAt w q gq B n ws vR R) (h0 : lenAt R x = 0) :
    Calls Try.prog 64 #[.pointer (some ⟨q, 0, none⟩), .int .i64 x] w fun e w' => e = .returned (.int .i64 (-1)) ∧ w = w' := by
  obtain ⟨qa, ca, rfl, la1, la2, hca⟩ := h.regs.sl
  obtain ⟨c0, c1, _⟩ := h.cells
  have hg := h.good
  have HZ := Lib.hid (lenAt_zero hg h0)
  have HA := Lib.hid hca
  have hrl := good_len hg
  have hn := h.least
  unfold maxLen at la2
  clear hca h hg h0
  go_enter Try.func64, Try.ntmps64
  go_wp2
  go_loop [5] (fun j => ∃ k : Nat, k ≤ R.length ∧ j = .int .i64 k) (fun j => R.length - (Go.RowKit.intOf j).toNat)
  case atStart => exact ⟨0, by omega, rfl⟩
  case round =>
    obtain ⟨k, hk, rfl⟩ := hrel
    by_cases hlt : k < R.length
    · have i1 : (k : Int) < (R.length : Int) := by omega
      obtain ⟨b, off, rfl, p0, p1⟩ := HA.out k _ (List.getElem?_eq_getElem hlt)
      have bne : ((R[k].1 : Int) == x) = false := beq_false_of_ne (HZ.out _ (List.getElem_mem hlt))
      clear p1
      generalize R[k] = y at *
      go_wp2
      go_round
      case rel => exact ⟨k + 1, by omega, by go_num⟩
      case measure => simp [Go.RowKit.intOf]; omega
    · obtain rfl : k = R.length := by omega
      go_wp2
      go_ret
      exact ⟨rfl, rfl⟩
theorem size_yes {w : World} {q gq B n : Nat} {ws : List Int} {vR : Value} {R : List (Nat × Nat)} (h : RefAt w q gq B n ws vR R) {r : Nat × Nat} (hr : r ∈ R) :
    Calls Try.prog 49 #[.pointer (some ⟨q, 0, none⟩), .int .i64 r.1] w fun e w' => e = .returned (.int .i64 r.2) ∧ w = w' := by
  obtain ⟨i, hi, rfl⟩ := List.getElem_of_mem hr
  have HF := Lib.hid (find_yes h hi)
  obtain ⟨qa, ca, rfl, la1, la2, hca⟩ := h.regs.sl
  obtain ⟨c0, c1, _⟩ := h.cells
  have hrl := good_len h.good
  have hn := h.least
  obtain ⟨b, off, rfl, p0, p1⟩ := hca i _ (List.getElem?_eq_getElem hi)
  unfold maxLen at la2
  have i1 : (i : Int) < (R.length : Int) := by omega
  clear hca h p0 hr
  generalize R[i] = y at *
  go_enter Try.func49, Try.ntmps49
  go_wp2_with fail
  refine HF.out.mono ?_; rintro e w' ⟨rfl, rfl⟩
  go_wp2
  go_ret
  exact ⟨rfl, rfl⟩
theorem size_no {w : World} {q gq B n : Nat} {ws : List Int} {vR : Value} {R : List (Nat × Nat)} {x : Int} (h : RefAt w q gq B n ws vR R) (h0 : lenAt R x = 0) :
    Calls Try.prog 49 #[.pointer (some ⟨q, 0, none⟩), .int .i64 x] w fun e w' => e = .returned (.int .i64 (-1)) ∧ w = w' := by
  have HF := Lib.hid (find_no h h0)
  clear h h0
  go_enter Try.func49, Try.ntmps49
  go_wp2_with fail
  refine HF.out.mono ?_; rintro e w' ⟨rfl, rfl⟩
  go_wp2
  go_ret
  exact ⟨rfl, rfl⟩
theorem refwords_yes {w : World} {q gq B n : Nat} {ws : List Int} {vR : Value} {R : List (Nat × Nat)} (h : RefAt w q gq B n ws vR R) {r : Nat × Nat} (hr : r ∈ R) :
    Calls Try.prog 45 #[.pointer (some ⟨q, 0, none⟩), .int .i64 r.1] w fun e w' => e = .returned (.slice (some ⟨gq, r.1, none⟩) r.2 (n - r.1)) ∧ w = w' := by
  have HF := Lib.hid (size_yes h hr)
  obtain ⟨c0, c1, _⟩ := h.cells
  have hn := h.least
  obtain ⟨h1, h2⟩ := h.good.2 r hr
  clear h hr
  have g1 : ((r.1 : Int) + (r.2 : Int)) ≤ (n : Int) := by omega
  go_enter Try.func45, Try.ntmps45
  go_wp2_with fail
  refine HF.out.mono ?_; rintro e w' ⟨rfl, rfl⟩
  go_wp2
  go_ret
  refine ⟨?_, rfl⟩
  have e1 : r.1 + r.2 - r.1 = r.2 := by omega
  simp [e1]
theorem refwords_no {w : World} {q gq B n : Nat} {ws : List Int} {vR : Value} {R : List (Nat × Nat)} {x : Int} (h : RefAt w q gq B n ws vR R) (h0 : lenAt R x = 0) :
    Calls Try.prog 45 #[.pointer (some ⟨q, 0, none⟩), .int .i64 x] w fun e w' => e = .returned (.slice none 0 0) ∧ w = w' := by
  have HF := Lib.hid (size_no h h0)
  clear h h0
  go_enter Try.func45, Try.ntmps45
  go_wp2_with fail
  refine HF.out.mono ?_; rintro e w' ⟨rfl, rfl⟩
  go_wp2
  go_ret
  exact ⟨rfl, rfl⟩
end Go.Proofs.Ytlffmcadchbheaa
/- The reference's arena: what writes its words; a new one. -/
namespace Go.Proofs.Ytlffmcadchbheaa
open Go.RowKit Go.Maps Arena
set_option maxHeartbeats 4000000
set_option maxRecDepth 100000
theorem RefAt.store {w : World} {q gq B n : Nat} {ws : List Int} {vR : Value} {R : List (Nat × Nat)} (h : RefAt w q gq B n ws vR R) (i : Nat) (v : Int) : RefAt (w.setCell ⟨gq, i, none⟩ (.int .u64 v)) q gq B n (ws.set i v) vR R := by
  have t : Turn [gq] w (w.setCell ⟨gq, i, none⟩ (.int .u64 v)) := (Turn.refl _ _).setCell (.inl (by simp)) _
  obtain ⟨lq, lg⟩ := h.lt
  refine ⟨by rw [t.block q lq (by simp; exact h.ne)]; exact h.row, ?_, by rw [List.length_set]; exact h.len, h.regs.turn t (by intro b hb; simp at hb; subst hb; exact h.gB), h.good, h.ne, h.qB, h.gB, h.least⟩
  rw [heap_setCell_same w gq i _ _ _ h.words]
  rw [List.map_set]
  simp
theorem refset_yes {w : World} {q gq B n : Nat} {ws : List Int} {vR : Value} {R : List (Nat × Nat)} (h : RefAt w q gq B n ws vR R) {r : Nat × Nat} (hr : r ∈ R) {a : Nat} (ha : a < r.2) {v : Int} :
    Calls Try.prog 38 #[.pointer (some ⟨q, 0, none⟩), .int .i64 r.1, .int .i64 a, .int .u64 v] w fun e w' => e = .returned (.bool true) ∧ RefAt w' q gq B n (ws.set (r.1 + a) v) vR R ∧ Turn [gq] w w' := by
  have HF := Lib.hid (size_yes h hr)
  obtain ⟨c0, c1, _⟩ := h.cells
  obtain ⟨h1, h2⟩ := h.good.2 r hr
  obtain ⟨k0, k1⟩ := h.word (i := r.1 + a) (by omega)
  have hn := h.least
  have b1 : decide ((a : Int) < 0) = false := decide_eq_false (by omega)
  have b2 : decide ((r.2 : Int) ≤ (a : Int)) = false := decide_eq_false (by omega)
  have HST := Lib.hid (h.store (r.1 + a) v)
  generalize ws.getD (r.1 + a) 0 = u at *
  clear h hr
  go_enter Try.func38, Try.ntmps38
  go_wp2_with fail
  refine HF.out.mono ?_; rintro e w' ⟨rfl, rfl⟩
  go_wp2
  go_ret
  exact ⟨rfl, HST.out, (Turn.refl _ _).setCell (.inl (by simp)) _⟩
theorem refset_no {w : World} {q gq B n : Nat} {ws : List Int} {vR : Value} {R : List (Nat × Nat)} (h : RefAt w q gq B n ws vR R) {x a v : Int} (h0 : lenAt R x = 0) :
    Calls Try.prog 38 #[.pointer (some ⟨q, 0, none⟩), .int .i64 x, .int .i64 a, .int .u64 v] w fun e w' => e = .returned (.bool false) ∧ w = w' := by
  have HF := Lib.hid (size_no h h0)
  clear h h0
  by_cases hneg : a < 0
  · have b1 : decide (a < 0) = true := decide_eq_true hneg
    go_enter Try.func38, Try.ntmps38
    go_wp2
    go_ret
    exact ⟨rfl, rfl⟩
  · have b1 : decide (a < 0) = false := decide_eq_false hneg
    have b2 : decide ((-1 : Int) ≤ a) = true := decide_eq_true (by omega)
    go_enter Try.func38, Try.ntmps38
    go_wp2_with fail
    refine HF.out.mono ?_; rintro e w' ⟨rfl, rfl⟩
    go_wp2
    go_ret
    exact ⟨rfl, rfl⟩
theorem refset_out {w : World} {q gq B n : Nat} {ws : List Int} {vR : Value} {R : List (Nat × Nat)} (h : RefAt w q gq B n ws vR R) {r : Nat × Nat} (hr : r ∈ R) {a v : Int} (ha : a < 0 ∨ (r.2 : Int) ≤ a) :
    Calls Try.prog 38 #[.pointer (some ⟨q, 0, none⟩), .int .i64 r.1, .int .i64 a, .int .u64 v] w fun e w' => e = .returned (.bool false) ∧ w = w' := by
  have HF := Lib.hid (size_yes h hr)
  clear h hr
  by_cases hneg : a < 0
  · have b1 : decide (a < 0) = true := decide_eq_true hneg
    clear ha
    go_enter Try.func38, Try.ntmps38
    go_wp2
    go_ret
    exact ⟨rfl, rfl⟩
  · have b1 : decide (a < 0) = false := decide_eq_false hneg
    have b2 : decide ((r.2 : Int) ≤ a) = true := decide_eq_true (by omega)
    clear ha
    go_enter Try.func38, Try.ntmps38
    go_wp2_with fail
    refine HF.out.mono ?_; rintro e w' ⟨rfl, rfl⟩
    go_wp2
    go_ret
    exact ⟨rfl, rfl⟩
theorem refnew_no {w : World} {n : Int} (hn : n < 1 ∨ 20000 < n) : Calls Try.prog 34 #[.int .i64 n] w fun e w' => e = .returned (.pointer none) ∧ w = w' := by
  by_cases h1 : n < 1
  · have b1 : decide (n < 1) = true := decide_eq_true h1
    clear hn
    go_enter Try.func34, Try.ntmps34
    go_wp2
    go_ret
    exact ⟨rfl, rfl⟩
  · have b1 : decide (n < 1) = false := decide_eq_false h1
    have b2 : decide (20000 < n) = true := decide_eq_true (by omega)
    clear hn
    go_enter Try.func34, Try.ntmps34
    go_wp2
    go_ret
    exact ⟨rfl, rfl⟩
theorem made_zeros' (n : Nat) : madeCells #[Value.int .u64 0] n = ((List.replicate n (0 : Int)).map fun x => Value.int .u64 x).toArray := by
  apply Array.ext'
  rw [toList_madeCells_one]
  simp
theorem refnew_is {w : World} {n : Nat} (h1 : 1 ≤ n) (h2 : n ≤ 20000) : Calls Try.prog 34 #[.int .i64 n] w fun e w' =>
    ∃ q gq, e = .returned (.pointer (some ⟨q, 0, none⟩)) ∧ RefAt w' q gq w'.heap.size n (List.replicate n 0) (.slice none 0 0) [] ∧ Ext w w' ∧ w.heap.size ≤ q ∧ w.heap.size ≤ gq := by
  have b1 : decide ((n : Int) < 1) = false := decide_eq_false (by omega)
  have b2 : decide (20000 < (n : Int)) = false := decide_eq_false (by omega)
  have hmk := run_make_row' (P := Try.prog) 22 29 (.int .u64 0) 8 Try.underlying22 info_u64 rfl .i64 .i64 n (by omega) (by omega)
  go_enter Try.func34, Try.ntmps34
  go_wp2
  go_ret
  refine ⟨w.heap.size + 1, w.heap.size, rfl, ⟨?_, ?_, by simp, PairRow.nil _ _, good_nil _, by omega, by simp, by simp; omega, h2⟩, (Ext.alloc _ _).trans (Ext.alloc _ _), by omega, by omega⟩
  · have := heap_alloc_new (w.alloc (.cells (madeCells #[Value.int .u64 0] n) 29)) (.cells #[.slice (some ⟨w.heap.size, 0, none⟩) n n, .slice none 0 0] 114)
    simpa using this
  · rw [Below.block (Below.alloc (B := w.heap.size + 1) (Below.refl _ _) (by simp) _) w.heap.size (by omega), heap_alloc_new, made_zeros']
end Go.Proofs.Ytlffmcadchbheaa
/- A region that draws its order, whose last operation waits for all others: the others by 'wpAnyH' (loads first), the last one as in a plain region. -/
namespace Go.Proofs.Ytlffmcadchbheaa
open Go
section
variable {P : Program} {md : Region.Mode}
/-- the post of all but the last operation -/
def lastQ (P : Program) (ops : Array Oper) (ol : Oper) (Q : Exit → Act → World → Prop) : Exit → Act → World → Prop
  | .normal, a, w => wpList P ops Q [ol] a w
  | e, a, w => Q e a w
theorem lets_last {ops : Array Oper} {ol : Oper} {Q : Exit → Act → World → Prop} (h : LetsOut (lastQ P ops ol Q)) : LetsOut Q := h
theorem Oper.wp_switch {o : Oper} {a : Act} {w : World} {K K' : Act → World → Prop} {Q Q' : Exit → Act → World → Prop} (hK : ∀ a w, K a w → K' a w) (hp : ∀ c a w, Q' (.panic c) a w → Q (.panic c) a w) (hl : LetsOut Q' → LetsOut Q)
    (hh : o.wp P a w K Q') : o.wp P a w K' Q := by
  unfold Oper.wp at *
  generalize (execOp a.eval o).run P w = r at *
  cases r with
  | ok n w' =>
    cases n <;> simp only [Oper.upon] at hh ⊢ <;>
      first
        | exact hK _ _ hh
        | exact Calls.mono hh (fun e w'' he => by cases e <;> first | exact hK _ _ he | exact hp _ _ _ he | exact hl he)
        | exact Rows.mono hh (fun _ _ he => hK _ _ he)
  | halt x w' =>
    cases x <;> simp only [Oper.upon] at hh ⊢ <;> first | exact hp _ _ _ hh | exact hh
/-- the side conditions, as one Bool -/
def lastB (ops : Array Oper) (n : Nat) : Bool :=
  decide (ops.size = n + 1) && Region.sinkB .any ops n && Region.chainB .any ops n &&
  ((List.range (n + 1)).all fun i => match ops[i]? with
    | some o => (o.after.all fun e => !(Region.binds .any e) || decide (e.on < i)) && (match o.guard with | some (g, _) => decide (g < i) | none => true)
    | none => false) &&
  (match ops[n]? with | some o => o.guard.isNone | none => false)
theorem wanted_same {ops init : Array Oper} {n : Nat} (hi : ∀ i, i < n → init[i]? = ops[i]?) {o : Oper} (hg : ∀ g b, o.guard = some (g, b) → g < n) (t : Array Value) : Region.wanted o (yielded init t) = Region.wanted o (yielded ops t) := by
  unfold Region.wanted
  cases h : o.guard with
  | none => rfl
  | some x =>
    obtain ⟨g, b⟩ := x
    have : yielded init t g = yielded ops t g := by unfold yielded; rw [hi g (hg g b h)]
    simp [this]
theorem last_core {ops init : Array Oper} {n : Nat} {ol : Oper} {Q : Exit → Act → World → Prop} (hsz : ops.size = n + 1) (hin : init.size = n) (hi : ∀ i, i < n → init[i]? = ops[i]?)
    (hs : Region.sinkB .any ops n = true) (hc : Region.chainB .any ops n = true) (hedge : ∀ (i : Nat) (o : Oper), ops[i]? = some o → ∀ e ∈ o.after, Region.binds .any e = true → e.on < i) (hguard : ∀ (i : Nat) (o : Oper), ops[i]? = some o → ∀ g b, o.guard = some (g, b) → g < i)
    (hol : ops[n]? = some ol) (_hog : ol.guard = none) :
    ∀ (fuel : Nat) (l' l : Array Bool) (a : Act) (w : World), l'.size = n → (∀ i, i < n → ∀ d, l'.getD i d = l.getD i d) → HeadInv .any ops n l →
      wpAny P .any init (lastQ P ops ol Q) fuel l' a w → wpAny P .any ops Q (fuel + 1) l a w := by
  -- what is ready, in both
  have hready : ∀ (l' l : Array Bool), l'.size = n → (∀ i, i < n → ∀ d, l'.getD i d = l.getD i d) → ∀ i, i < n → (i ∈ Region.ready .any init l' ↔ i ∈ Region.ready .any ops l) := by
    intro l' l hl' hll i hin'
    rw [mem_ready, mem_ready, hll i hin' true, hi i hin']
    constructor
    · rintro ⟨h0, o, ho, h⟩
      refine ⟨h0, o, ho, fun e he hb => ?_⟩
      have := hedge i o ho e he hb
      rw [← hll e.on (by omega)]
      exact h e he hb
    · rintro ⟨h0, o, ho, h⟩
      refine ⟨h0, o, ho, fun e he hb => ?_⟩
      have := hedge i o ho e he hb
      rw [hll e.on (by omega)]
      exact h e he hb
  -- nothing ready: all have come up
  have hall : ∀ (l : Array Bool), l.size = ops.size → (∀ i, i < n → i ∉ Region.ready .any ops l) → ∀ m i, i < m → i < n → l.getD i false = true := by
    intro l hlsz hno m
    induction m with
    | zero => intro i h; omega
    | succ m ih =>
      intro i him hin'
      by_cases hlt : i < m
      · exact ih i hlt hin'
      · obtain rfl : i = m := by omega
        cases hv : l.getD i false with
        | true => rfl
        | false =>
          refine absurd (mem_ready.2 ⟨getD_in (by omega) hv, ?_⟩) (hno i hin')
          obtain ⟨o, ho⟩ : ∃ o, ops[i]? = some o := ⟨_, Array.getElem?_eq_getElem (by omega)⟩
          exact ⟨o, ho, fun e he hb => ih e.on (hedge i o ho e he hb) (by have := hedge i o ho e he hb; omega)⟩
  have hnready : ∀ (l : Array Bool), HeadInv .any ops n l → (∀ i, i < n → l.getD i false = true) → n ∈ Region.ready .any ops l := by
    intro l inv h
    exact mem_ready.2 ⟨inv.tail n (Nat.le_refl _) (by omega), ol, hol, fun e he hb => h e.on (hedge n ol hol e he hb)⟩
  have hdone : ∀ (l : Array Bool), l.size = ops.size → (∀ i, i < n → l.getD i false = true) → Region.ready .any ops (l.setIfInBounds n true) = [] := by
    intro l hlsz h
    refine List.eq_nil_iff_forall_not_mem.2 fun i hr => ?_
    obtain ⟨h0, o, ho, _⟩ := mem_ready.1 hr
    have hlt : i < ops.size := (Array.getElem?_eq_some_iff.1 ho).1
    have h1 := getD_both h0
    by_cases hin' : i < n
    · rw [getD_set_ne false (by omega), h i hin'] at h1; cases h1
    · obtain rfl : i = n := by omega
      rw [Array.getD_eq_getD_getElem?, Array.getElem?_setIfInBounds_self_of_lt (by omega)] at h1
      simp at h1
  have hlast : ∀ (f : Nat) (l : Array Bool) (a : Act) (w : World), l.size = ops.size → (∀ i, i < n → l.getD i false = true) → lastQ P ops ol Q .normal a w → wpOp P ops Q n (wpAny P .any ops Q f (l.setIfInBounds n true)) a w := by
    intro f l a w hlsz h hq
    have hd := hdone l hlsz h
    have hmono : ∀ a w, Q .normal a w → wpAny P .any ops Q f (l.setIfInBounds n true) a w := by
      intro a w hQ
      cases f with
      | zero => exact ⟨hd, hQ⟩
      | succ f => exact ⟨fun _ => hQ, fun i hi' => by rw [hd] at hi'; cases hi'⟩
    unfold wpOp
    rw [hol]
    simp only
    have hq2 : wpList P ops Q [ol] a w := hq
    unfold wpList at hq2
    split at hq2
    · rename_i hw
      rw [if_pos hw]
      refine hq2.imp (Oper.wp_mono fun a w h => ?_) id
      exact hmono a w (by simpa [wpList] using h)
    · rename_i hw
      rw [if_neg hw]
      exact hmono _ _ (by simpa [wpList] using hq2)
  intro fuel
  induction fuel with
  | zero =>
    intro l' l a w hl' hll inv h
    have hno : ∀ i, i < n → i ∉ Region.ready .any ops l := fun i hin' hr => by
      have := (hready l' l hl' hll i hin').2 hr
      rw [h.1] at this; cases this
    have hA := fun i (hin' : i < n) => hall l inv.size hno (i + 1) i (by omega) hin'
    refine ⟨fun h0 => absurd (hnready l inv hA) (by rw [h0]; simp), fun i hr => ?_⟩
    have hin2 : i = n := by
      by_cases hin' : i < n
      · exact absurd hr (hno i hin')
      · obtain ⟨_, o, ho, _⟩ := mem_ready.1 hr
        have : i < ops.size := (Array.getElem?_eq_some_iff.1 ho).1
        omega
    subst hin2
    exact hlast 0 l a w inv.size hA h.2
  | succ fuel ih =>
    intro l' l a w hl' hll inv h
    have hQn : (∀ i, i < n → i ∉ Region.ready .any ops l) → lastQ P ops ol Q .normal a w := by
      intro hno
      refine h.1 (List.eq_nil_iff_forall_not_mem.2 fun i hr => ?_)
      obtain ⟨_, o, ho, _⟩ := mem_ready.1 hr
      have hlt : i < n := by rw [← hin]; exact (Array.getElem?_eq_some_iff.1 ho).1
      exact hno i hlt ((hready l' l hl' hll i hlt).1 hr)
    refine ⟨fun h0 => ?_, fun i hr => ?_⟩
    · have hno : ∀ i, i < n → i ∉ Region.ready .any ops l := fun i _ hr => by rw [h0] at hr; cases hr
      have hA := fun i (hin' : i < n) => hall l inv.size hno (i + 1) i (by omega) hin'
      exact absurd (hnready l inv hA) (by rw [h0]; simp)
    · by_cases hin' : i < n
      · have h2 := h.2 i ((hready l' l hl' hll i hin').2 hr)
        have inv2 := inv.set hr hin'
        unfold wpOp at h2 ⊢
        rw [hi i hin'] at h2
        obtain ⟨_, o, ho, _⟩ := mem_ready.1 hr
        rw [ho] at h2 ⊢
        simp only at h2 ⊢
        rw [wanted_same hi (fun g b hg => by have := hguard i o ho g b hg; omega)] at h2
        have hstep : ∀ a' w', wpAny P .any init (lastQ P ops ol Q) fuel (l'.setIfInBounds i true) a' w' → wpAny P .any ops Q (fuel + 1) (l.setIfInBounds i true) a' w' := fun a' w' hh => by
          refine ih _ _ a' w' (by simpa using hl') (fun k hk d => ?_) inv2 hh
          by_cases hik : i = k
          · subst hik
            have hlsz := inv.size
            simp [Array.getD_eq_getD_getElem?, hl', hlsz, hsz, hk, Nat.lt_succ_of_lt hk]
          · rw [getD_set_ne d hik, getD_set_ne d hik]; exact hll k hk d
        split at h2
        · rename_i hw
          rw [if_pos hw]
          rcases h2 with h2 | ⟨h2, h3⟩
          · exact .inl (Oper.wp_switch (Q' := lastQ P ops ol Q) hstep (fun _ _ _ h => h) (lets_last (P := P) (ops := ops) (ol := ol)) h2)
          · exact .inr ⟨h2, lets_last (P := P) (ops := ops) (ol := ol) h3⟩
        · rename_i hw
          rw [if_neg hw]
          exact hstep _ _ h2
      · obtain ⟨_, o, ho, _⟩ := mem_ready.1 hr
        have hlt : i < ops.size := (Array.getElem?_eq_some_iff.1 ho).1
        obtain rfl : i = n := by omega
        have hno : ∀ k, k < i → k ∉ Region.ready .any ops l := fun k hk hrk => by
          have hun := (mem_ready.1 hrk).1
          exact absurd hr (tail_waits hs hc (by omega) inv _ k rfl hk hun i (Nat.le_refl _))
        exact hlast (fuel + 1) l a w inv.size (fun k hk => hall l inv.size hno (k + 1) k (by omega) hk) (hQn hno)
/-- THE LAW: all but the last by 'wpAnyH' under S, the last one as in a plain region -/
theorem wp_region_last (n : Nat) {id : Nat} {ops : Array Oper} {Q : Exit → Act → World → Prop} {a : Act} {w : World} (S : World → Prop) (hm : P.follows .mixedOrders = true) (hB : lastB ops n = true) (ol : Oper) (hol : ops[n]? = some ol)
    (hS : S w.drew) (h : S w.drew → wpAnyH P .any (ops.toList.take n).toArray (lastQ P ops ol Q) S n (Array.replicate n false) a w.drew) : (Code.region id ops true).wp P Q a w := by
  unfold lastB at hB
  simp only [Bool.and_eq_true, decide_eq_true_eq] at hB
  obtain ⟨⟨⟨⟨hsz, hs⟩, hc⟩, hall⟩, hg⟩ := hB
  have hall' : ∀ (i : Nat) (o : Oper), ops[i]? = some o → (∀ e ∈ o.after, Region.binds .any e = true → e.on < i) ∧ ∀ g b, o.guard = some (g, b) → g < i := by
    intro i o ho
    have hlt : i < ops.size := (Array.getElem?_eq_some_iff.1 ho).1
    have := List.all_eq_true.1 hall i (List.mem_range.2 (by omega))
    rw [ho] at this
    simp only [Bool.and_eq_true] at this
    refine ⟨fun e he hb => ?_, fun g b hgb => ?_⟩
    · have h1 := Array.all_eq_true_iff_forall_mem.1 this.1 e he
      rw [hb] at h1
      simpa using h1
    · have h2 := this.2
      rw [hgb] at h2
      simpa using h2
  have hog : ol.guard = none := by rw [hol] at hg; simpa using hg
  have htl : (ops.toList.take n).length = n := by rw [List.length_take, Array.length_toList, hsz]; omega
  refine wp_region_any hm ?_
  rw [hsz]
  refine last_core (init := (ops.toList.take n).toArray) hsz (by simpa using htl) (fun i hi => ?_) hs hc (fun i o ho => (hall' i o ho).1) (fun i o ho => (hall' i o ho).2) hol hog n (Array.replicate n false) (Array.replicate (n + 1) false) a w.drew
    (by simp) (fun i hi d => by simp [Array.getD_eq_getD_getElem?, hi, Nat.lt_succ_of_lt hi]) ⟨by simp [hsz], (fun j oj _ hl => by rw [getD_replicate_false] at hl; exact absurd hl (by decide)), fun t _ ht => by simp [Array.getD_eq_getD_getElem?, show t < n + 1 by omega]⟩ (wpAny_of_held _ _ _ _ (h hS))
  rw [List.getElem?_toArray, List.getElem?_take_of_lt hi, Array.getElem?_toList]
end
end Go.Proofs.Ytlffmcadchbheaa
/- Pairs appended to pairs: what an append may take them from. -/
namespace Go.Proofs.Ytlffmcadchbheaa
open Go.RowKit Go.Maps
set_option maxHeartbeats 4000000
set_option maxRecDepth 100000
/-- what an append may take its elements from: a slice that reads as pairs, nil or at an address -/
def PairSrc (w : World) (u : Value) (L : List (Nat × Nat)) : Prop := PairSl w u L ∧ ((∃ ad m c, u = .slice (some ad) m c) ∨ u = .slice none 0 0)
theorem pairSl_take {w : World} {q : Option Addr} {c k : Nat} {R : List (Nat × Nat)} (h : PairSl w (.slice q R.length c) R) (hk : k ≤ R.length) : PairSl w (sliced q 0 k c 2) (R.take k) := by
  obtain ⟨q', c', he, h1, h2, hc⟩ := h
  obtain ⟨rfl, _, rfl⟩ := Value.slice.inj he
  have hl : (R.take k).length = k := by rw [List.length_take]; omega
  refine ⟨if c = 0 then q else q.map (·.add (0 * 2)), c, by unfold sliced; rw [hl, Nat.sub_zero, Nat.sub_zero], by omega, h2, fun i x hx => ?_⟩
  have hi : i < (R.take k).length := (List.getElem?_eq_some_iff.1 hx).1
  rw [List.getElem?_take_of_lt (by omega)] at hx
  obtain ⟨b, off, rfl, p0, p1⟩ := hc i x hx
  exact ⟨b, off, by split <;> simp [Addr.add], p0, p1⟩
theorem pairSl_drop {w : World} {q : Option Addr} {c k : Nat} {R : List (Nat × Nat)} (h : PairSl w (.slice q R.length c) R) (hk : k ≤ R.length) : PairSl w (sliced q k R.length c 2) (R.drop k) := by
  obtain ⟨q', c', he, h1, h2, hc⟩ := h
  obtain ⟨rfl, _, rfl⟩ := Value.slice.inj he
  have hl : (R.drop k).length = R.length - k := by rw [List.length_drop]
  refine ⟨if c = k then q else q.map (·.add (k * 2)), c - k, by unfold sliced; rw [hl], by omega, by omega, fun i x hx => ?_⟩
  have hi : i < (R.drop k).length := (List.getElem?_eq_some_iff.1 hx).1
  rw [List.getElem?_drop] at hx
  obtain ⟨b, off, rfl, p0, p1⟩ := hc (k + i) x hx
  refine ⟨b, off + k * 2, ?_, ?_, ?_⟩
  · rw [if_neg (by omega)]; simp [Addr.add]
  · rw [show off + k * 2 + i * 2 = off + (k + i) * 2 by omega]; exact p0
  · rw [show off + k * 2 + i * 2 + 1 = off + (k + i) * 2 + 1 by omega]; exact p1
theorem flat2_length (L : List (Nat × Nat)) : (L.flatMap pairC).length = L.length * 2 := by
  induction L with
  | nil => rfl
  | cons x L ih => rw [List.flatMap_cons, List.length_append, ih]; simp [pairC]; omega
theorem pair_elem : Try.prog.elem 112 = 116 := by kernel_rfl
theorem pair_size (w : World) : (sizeOf (Try.prog.elem 112)).run Try.prog w = .ok 2 w := by kernel_rfl
theorem src_of {w : World} {q : Option Addr} {n c l h m : Nat} {L : List (Nat × Nat)} (hv : (∃ ad, q = some ad) ∨ (q = none ∧ c = 0 ∧ n = 0)) (hh : h ≤ m) (hm : m ≤ c) (hs : PairSl w (sliced q l h m 2) L) : PairSrc w (sliced q l h m 2) L := by
  refine ⟨hs, ?_⟩
  rcases hv with ⟨ad, rfl⟩ | ⟨rfl, rfl, rfl⟩
  · left
    unfold sliced
    split
    · exact ⟨_, _, _, rfl⟩
    · exact ⟨_, _, _, rfl⟩
  · right
    obtain rfl : m = 0 := by omega
    obtain rfl : h = 0 := by omega
    unfold sliced
    simp
theorem PairRow.nilOr {w : World} {B : Nat} {v : Value} {R : List (Nat × Nat)} (h : PairRow w B v R) : ∃ q c, v = .slice q R.length c ∧ R.length ≤ c ∧ ((∃ ad, q = some ad) ∨ (q = none ∧ c = 0 ∧ R.length = 0)) := by
  rcases h.2 with ⟨h1, h2⟩ | ⟨b, c, cur, h1, hb, hg, h2, h3, h4, h5⟩
  · exact ⟨none, 0, by rw [h1, h2], by omega, .inr ⟨rfl, rfl, h2⟩⟩
  · exact ⟨_, c, h1, h2, .inl ⟨_, rfl⟩⟩
theorem head_src {w : World} {B k : Nat} {v : Value} {R : List (Nat × Nat)} (h : PairRow w B v R) (hk : k ≤ R.length) :
    ∃ u, (∀ W, (Instr.slice 112 v none (some (.int .i64 k)) none).run Try.prog W = .ok u W) ∧ ∀ W, PairRow W B v R → PairSrc W u (R.take k) := by
  obtain ⟨q, c, rfl, hc, hn⟩ := h.nilOr
  refine ⟨sliced q 0 k c 2, fun W => ?_, fun W hW => src_of hn (by omega) (Nat.le_refl _) (pairSl_take hW.sl hk)⟩
  rw [run_slice_h W 112 q R.length c (by rw [pair_elem]; exact Try.underlying112) .i64 k (by omega) (by omega), pair_size]
  simp
theorem tail_src {w : World} {B k : Nat} {v : Value} {R : List (Nat × Nat)} (h : PairRow w B v R) (hk : k ≤ R.length) :
    ∃ u, (∀ W, (Instr.slice 112 v (some (.int .i64 k)) none none).run Try.prog W = .ok u W) ∧ ∀ W, PairRow W B v R → PairSrc W u (R.drop k) := by
  obtain ⟨q, c, rfl, hc, hn⟩ := h.nilOr
  refine ⟨sliced q k R.length c 2, fun W => ?_, fun W hW => src_of hn (by omega) (Nat.le_refl _) (pairSl_drop hW.sl hk)⟩
  rw [run_slice_l W 112 q R.length c (by rw [pair_elem]; exact Try.underlying112) .i64 k (by omega) (by omega), pair_size]
  simp
/-- an append of pairs, wherever they lie, to a row of the call's own, at a step of a region that draws -/
theorem step_append_pairs {w : World} {ops : Array Oper} {o : Oper} {a : Act} {K : Act → World → Prop} {Q : Exit → Act → World → Prop} {E : Prop} (hgd : o.guard = none) (s x : Operand)
    (ho : o.op = .call { callee := .builtin .append, args := #[s, x], argTypes := #[112, 112] })
    (base : Nat) (v u : Value) (R L : List (Nat × Nat)) (hs : a.eval s = v) (hown : PairRow w base v R) (hx : a.eval x = u) (hu : PairSrc w u L)
    (h63 : R.length + L.length ≤ 1000000) (hbase : base ≤ w.heap.size)
    (h : ∀ v' w', PairRow w' base v' (R ++ L) → w.grownBy w' v.ownBlock → K (a.put o.dst v') w') :
    if Region.wanted o (yielded ops a.tmps) = true then Oper.wp Try.prog o a w K Q else E := by
  have hw : Region.wanted o (yielded ops a.tmps) = true := by simp [Region.wanted, hgd]
  rw [if_pos hw]
  obtain ⟨i0, hi, hz0, hz1, hz2⟩ := info_parts info_pair
  have hrun : ∃ v' w', (Builtin.append_ #[112, 112] o.type #[v, u]).run Try.prog w = .ok v' w' ∧ PairRow w' base v' (R ++ L) ∧ w.grownBy w' v.ownBlock := by
    obtain ⟨⟨q, c, hv, h1, h2, hc⟩, hsrc⟩ := hu
    rcases hsrc with ⟨ad, m, c', rfl⟩ | rfl
    · obtain ⟨rfl, rfl, rfl⟩ := Value.slice.inj hv
      have hnews : ∀ j y, (L.flatMap pairC)[j]? = some y → w.cell? (ad.add j) = some y := by
        intro j y hj
        have hjl : j < (L.flatMap pairC).length := (List.getElem?_eq_some_iff.1 hj).1
        rw [flat2_length L] at hjl
        obtain ⟨b, off, hq, p0, p1⟩ := hc (j / 2) _ (List.getElem?_eq_getElem (by omega))
        obtain rfl := Option.some.inj hq
        obtain ⟨f0, f1⟩ := flat2 L (j / 2) _ (List.getElem?_eq_getElem (by omega))
        rw [Go.WideShapes.add_plain]
        rcases Nat.mod_two_eq_zero_or_one j with e | e
        · have ej : j / 2 * 2 = j := by omega
          rw [ej] at f0 p0
          rw [p0, ← f0, hj]
        · have ej : j / 2 * 2 + 1 = j := by omega
          rw [ej] at f1
          rw [Nat.add_assoc, ej] at p1
          rw [p1, ← f1, hj]
      have hone : ∀ y ∈ L.flatMap pairC, y.oneCell' = true := by
        intro y hy
        obtain ⟨r, _, hr⟩ := List.mem_flatMap.1 hy
        simp [pairC] at hr
        rcases hr with rfl | rfl <;> rfl
      obtain ⟨v', w', hr, h3, h4, _, _⟩ := run_append_own_at (P := Try.prog) w base 112 o.type 116 i0 _ 2 16 Try.underlying112 hi hz0 hz1 hz2 rfl (by decide) v R.length (R.flatMap pairC) hown
        ad L.length c' (L.flatMap pairC) (flat2_length L) hnews hone (by unfold maxLen; omega) (by omega) hbase
      exact ⟨v', w', hr, by unfold PairRow; rw [List.length_append, List.flatMap_append]; exact h3, h4⟩
    · obtain ⟨_, hl, _⟩ := Value.slice.inj hv
      obtain rfl : L = [] := List.length_eq_zero_iff.1 hl.symm
      refine ⟨v, w, run_append_owned_none w base 112 o.type 116 i0 2 Try.underlying112 hi v R.length (R.flatMap pairC) hown, by rw [List.append_nil]; exact hown, ?_⟩
      exact ⟨rfl, rfl, rfl, Nat.le_refl _, fun _ _ _ => rfl⟩
  obtain ⟨v', w', hr, h2, h3⟩ := hrun
  unfold Oper.wp execOp
  simp only [ho, resolve, invoke, builtin, Sem.run_bind, Sem.run_pure, Result.andThen_ok, List.map_toArray, List.map_cons, List.map_nil, hs, hx, hr]
  exact h v' w' h2 h3
theorem keep3 {w w' : World} {a : Addr} {v : Value} (h : w.cell? a = some v) (f : w.frozen? a = false) (e : Ext w w') : w'.cell? a = some v ∧ w'.frozen? a = false ∧ Ext w w' :=
  ⟨e.cell h, (e.frozen h).trans f, e⟩
theorem ext_grown {w W W' : World} {v : Value} (e : Ext w W) (hg : W.grownBy W' v.ownBlock) (hv : ∀ b, v.ownBlock = some b → w.heap.size ≤ b) : Ext w W' :=
  Below.grown e hg e.size hv
theorem empty_row (w : World) : PairRow (w.alloc (.cells #[] 116)).drew w.heap.size (.slice (some ⟨w.heap.size, 0, none⟩) 0 0) [] :=
  World.ownsRow.drew (World.ownsRow_lit w #[] 0 (Nat.le_refl _) (Nat.zero_le _) rfl)
theorem empty_at {w : World} {b B : Nat} (hb : w.heap[b]? = some (.cells #[] 116 (0, 0))) (hB : B ≤ b) : PairRow w B (.slice (some ⟨b, 0, none⟩) 0 0) [] :=
  ⟨rfl, .inr ⟨b, 0, #[], rfl, hB, hb, Nat.le_refl _, Nat.zero_le _, rfl, rfl⟩⟩
theorem pair_at {w : World} {b x y : Nat} (hb : w.heap[b]? = some (.cells #[.int .i64 x, .int .i64 y] 116 (0, 0))) : PairSrc w (.slice (some ⟨b, 0, none⟩) 1 1) [(x, y)] := by
  refine ⟨⟨_, 1, rfl, by simp, by unfold maxLen; omega, fun i z hz => ?_⟩, .inl ⟨_, _, _, rfl⟩⟩
  have hi : i = 0 := by
    have := (List.getElem?_eq_some_iff.1 hz).1
    simp at this; exact this
  subst hi
  simp at hz
  subst hz
  exact ⟨b, 0, rfl, by simp [World.cell?, hb], by simp [World.cell?, hb]⟩
end Go.Proofs.Ytlffmcadchbheaa
