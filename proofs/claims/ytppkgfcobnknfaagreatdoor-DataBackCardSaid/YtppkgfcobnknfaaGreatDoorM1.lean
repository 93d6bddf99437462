/- Proved here: the contracts and laws of BitsP, ObjP, Ext, Turn, Blk, Sli, Fill, ObjA, ObjB, ObjC, ObjD, ObjE of this claim, each beneath its own remark; conditions: those that each theorem names. -/
import Derived.Test.YtppkgfcobnknfaaGreatDoorProg
import Derived.WalkKit
import Derived.Laws.BitsAllLaws
import Derived.WalkSpells
import Derived.WalkLawsBesides
import Derived.ChangeSame
import Derived.Lib.LaidTab
import Derived.Lib.Hide
import Derived.Lib.AppendIntMem
import Derived.Lib.QuietBelow
import Derived.BigQuiet
import Derived.Lib.BufferMore
import Derived.Maps.OwnSet
import Derived.Maps.AppendAt
import Derived.Laws.OwnMore
import Derived.Laws.CopyOwn
import Derived.Deep.OwnRows
import Derived.Lib.SliceRun
import Derived.Deep.RegionHeld3
import Derived.Deep.DrawnRows
import Derived.Deep.QuietTactic
/- Bits of words: parts that lie apart, joined. -/
namespace Go.Proofs.YtppkgfcobnknfaaGreatDoor
open Go
theorem or_apart (i a b : Nat) (ha : a < 2 ^ i) (hb : b % 2 ^ i = 0) (ha2 : a < 18446744073709551616) (hb2 : b < 18446744073709551616) : bits .or .u64 (a : Int) (b : Int) = ((a + b : Nat) : Int) := by
  rw [u64_or_nat a b ha2 hb2, Nat.or_comm, nat_join i b a hb ha, Nat.add_comm]
theorem or_apart' (i a b : Nat) (ha : a < 2 ^ i) (hb : b % 2 ^ i = 0) (ha2 : a < 18446744073709551616) (hb2 : b < 18446744073709551616) : bits .or .u64 (b : Int) (a : Int) = ((a + b : Nat) : Int) := by
  rw [u64_or_nat b a hb2 ha2, nat_join i b a hb ha, Nat.add_comm]
theorem head_or (kd tg : Int) (n : Nat) (h1 : 0 ≤ kd) (h2 : kd < 256) (h3 : 0 ≤ tg) (h4 : tg < 16777216) (h5 : n ≤ 4294967295) :
    bits .or .u64 (bits .or .u64 kd (tg * 256)) ((n : Int) * 4294967296) = kd + 256 * tg + 4294967296 * (n : Int) := by
  obtain ⟨a, rfl⟩ := Int.eq_ofNat_of_zero_le h1
  obtain ⟨b, rfl⟩ := Int.eq_ofNat_of_zero_le h3
  rw [show ((b : Int) * 256) = ((b * 256 : Nat) : Int) by omega, or_apart 8 a (b * 256) (by omega) (by omega) (by omega) (by omega), show ((n : Int) * 4294967296) = ((n * 4294967296 : Nat) : Int) by omega,
    or_apart 32 (a + b * 256) (n * 4294967296) (by omega) (by omega) (by omega) (by omega)]
  omega
end Go.Proofs.YtppkgfcobnknfaaGreatDoor
/- Objects in a row of words, in plain Lean. -/
namespace Go.Proofs.YtppkgfcobnknfaaGreatDoor
open Go
def rowB (tg : Int) (n m : Nat) (least most : Nat) (top : Int) : Bool := decide (0 ≤ tg) && decide (tg ≤ top) && decide (least ≤ n) && decide (n ≤ most) && decide (m = 0)
/-- may an object be: its kind, its tag, how many fields, how many bytes -/
def mayK (kd tg : Int) (n m : Nat) : Bool :=
  if kd = 1 then rowB tg n m 1 8 255 else if kd = 2 then decide (tg = 0) && decide (n = 0) && decide (m ≤ 400) else if kd = 3 then rowB tg n m 0 400 0 else if kd = 4 then rowB tg n m 0 30 59 else false
def sizeK (kd : Int) (n m : Nat) : Nat := if kd = 2 then m else n
def bodyK (kd : Int) (n m : Nat) : Nat := if kd = 2 then (m + 7) / 8 else n
def headK (kd tg : Int) (n m : Nat) : Int := kd + 256 * tg + 4294967296 * (sizeK kd n m : Int)
structure Ob where
  kind : Int
  tag : Int
  fields : List Int
  text : ByteArray
def mayO (o : Ob) : Bool := mayK o.kind o.tag o.fields.length o.text.size
def wordsO (o : Ob) : Nat := 1 + bodyK o.kind o.fields.length o.text.size
def headO (o : Ob) : Int := headK o.kind o.tag o.fields.length o.text.size
theorem rowB_true {tg : Int} {n m least most : Nat} {top : Int} (h : rowB tg n m least most top = true) : 0 ≤ tg ∧ tg ≤ top ∧ least ≤ n ∧ n ≤ most ∧ m = 0 := by
  unfold rowB at h
  simp only [Bool.and_eq_true, decide_eq_true_eq] at h
  obtain ⟨⟨⟨⟨h1, h2⟩, h3⟩, h4⟩, h5⟩ := h
  exact ⟨h1, h2, h3, h4, h5⟩
/-- what may be, by its kind -/
theorem mayK_cases {kd tg : Int} {n m : Nat} (h : mayK kd tg n m = true) : (kd = 1 ∧ 0 ≤ tg ∧ tg ≤ 255 ∧ 1 ≤ n ∧ n ≤ 8 ∧ m = 0) ∨ (kd = 2 ∧ tg = 0 ∧ n = 0 ∧ m ≤ 400) ∨ (kd = 3 ∧ tg = 0 ∧ n ≤ 400 ∧ m = 0) ∨ (kd = 4 ∧ 0 ≤ tg ∧ tg ≤ 59 ∧ n ≤ 30 ∧ m = 0) := by
  unfold mayK at h
  split at h
  · obtain ⟨h1, h2, h3, h4, h5⟩ := rowB_true h
    exact .inl ⟨by assumption, h1, h2, h3, h4, h5⟩
  · split at h
    · simp only [Bool.and_eq_true, decide_eq_true_eq] at h
      exact .inr (.inl ⟨by assumption, h.1.1, h.1.2, h.2⟩)
    · split at h
      · obtain ⟨h1, h2, h3, h4, h5⟩ := rowB_true h
        exact .inr (.inr (.inl ⟨by assumption, by omega, h4, h5⟩))
      · split at h
        · obtain ⟨h1, h2, h3, h4, h5⟩ := rowB_true h
          exact .inr (.inr (.inr ⟨by assumption, h1, h2, h4, h5⟩))
        · cases h
theorem mayK_bounds {kd tg : Int} {n m : Nat} (h : mayK kd tg n m = true) : 1 ≤ kd ∧ kd ≤ 4 ∧ 0 ≤ tg ∧ tg ≤ 255 ∧ n ≤ 400 ∧ m ≤ 400 ∧ sizeK kd n m ≤ 400 ∧ bodyK kd n m ≤ 400 := by
  unfold sizeK bodyK
  rcases mayK_cases h with ⟨rfl, h⟩ | ⟨rfl, h⟩ | ⟨rfl, h⟩ | ⟨rfl, h⟩ <;> refine ⟨by omega, by omega, by omega, by omega, by omega, by omega, ?_, ?_⟩ <;> simp <;> omega
/-- a word's eight bytes, the least first -/
def bytes8 (w : Int) : List UInt8 := (List.range 8).map fun j => UInt8.ofNat (w.toNat / 256 ^ j % 256)
def bytesOf (W : List Int) : List UInt8 := W.flatMap bytes8
/-- bytes as one number, the least first -/
def pk : List UInt8 → Nat
  | [] => 0
  | b :: l => b.toNat + 256 * pk l
def pieceN (l : List UInt8) (j : Nat) : Int := (pk ((l.drop (8 * j)).take 8) : Int)
/-- a text's words -/
def pieces (l : List UInt8) : List Int := (List.range ((l.length + 7) / 8)).map (pieceN l)
def bodyO (o : Ob) : List Int := if o.kind = 2 then pieces o.text.data.toList else o.fields
def layO (o : Ob) : List Int := headO o :: bodyO o
/-- the object that begins a row of words -/
def readS : List Int → Option Ob
  | [] => none
  | h :: r =>
    let kd := h % 256
    let tg := h / 256 % 16777216
    let sz := (h / 4294967296).toNat
    if 1 ≤ kd ∧ kd ≤ 4 ∧ sz ≤ 400 ∧ bodyK kd sz sz ≤ r.length then
      let b := r.take (bodyK kd sz sz)
      let o : Ob := if kd = 2 then ⟨kd, tg, [], ⟨((bytesOf b).take sz).toArray⟩⟩ else ⟨kd, tg, b, ByteArray.empty⟩
      if (kd = 2 → ((bytesOf b).drop sz).all (· == 0) = true) ∧ mayO o = true then some o else none
    else none
/-- all objects of a row of words, each with its place -/
def objsN : Nat → List Int → Nat → Option (List (Nat × Ob))
  | 0, _, _ => some []
  | f + 1, S, at_ => if S = [] then some [] else match readS S with
    | none => none
    | some o => (objsN f (S.drop (wordsO o)) (at_ + wordsO o)).map ((at_, o) :: ·)
def objs (S : List Int) (at_ : Nat) : Option (List (Nat × Ob)) := objsN (S.length + 1) S at_
def isIntW (w : Int) : Bool := decide (w % 2 = 1)
/-- may a word be a field: the places, the semispace's first word -/
def fieldOK (P : List Nat) (first : Nat) (w : Int) : Bool := isIntW w || (decide (w / 2 < 4294967296) && P.any fun a => decide (((first + a : Nat) : Int) = w / 2))
def fieldsOK (first : Nat) (L : List (Nat × Ob)) : Bool := L.all fun x => x.2.fields.all (fieldOK (L.map (·.1)) first)
def allS (first : Nat) (S : List Int) : Option (List (Nat × Ob)) := match objs S 0 with
  | none => none
  | some L => if fieldsOK first L then some L else none
end Go.Proofs.YtppkgfcobnknfaaGreatDoor
/- 'Ext': a later world in which all that was there is as it was. And a row's last step over it (HOWTO extra-small 9). -/
namespace Go.Proofs.YtppkgfcobnknfaaGreatDoor
open Go.RowKit Go.WideShapes Go.ChangeShapes

/-- all that was there is as it was -/
def Ext (w w' : World) : Prop := Below w.heap.size w w'
theorem Ext.refl (w : World) : Ext w w := Below.refl _ _
theorem Ext.below {w w' : World} (h : Ext w w') : Below w.heap.size w w' := h
theorem Ext.size {w w' : World} (h : Ext w w') : w.heap.size ≤ w'.heap.size := Below.size h
theorem Ext.trans {a b c : World} (h : Ext a b) (k : Ext b c) : Ext a c := Below.trans h (Below.mono k h.size)
theorem Ext.alloc (w : World) (o : Obj) : Ext w (w.alloc o) := Below.alloc (Below.refl _ _) (Nat.le_refl _) o
theorem Ext.drew (w : World) : Ext w w.drew := Below.drew (Below.refl _ _)
theorem Ext.drewN (w : World) (n : Nat) : Ext w (w.drewN n) := below_drewN (Below.refl _ _) n
theorem Ext.grow (w : World) (k : Nat) (os : Array Obj) : Ext w (Go.Sort.grow (w.drewN k) os) := Go.Lib.below_grow _ _ (Nat.le_refl _) k os
theorem Ext.cell {w w' : World} (h : Ext w w') {a : Addr} {v : Value} (hc : w.cell? a = some v) : w'.cell? a = some v := by
  have hl : a.block < w.heap.size := by
    rcases Nat.lt_or_ge a.block w.heap.size with h | h
    · exact h
    · simp [World.cell?, Array.getElem?_eq_none h] at hc
  rw [Below.cell h hl]; exact hc
theorem Ext.frozen {w w' : World} (h : Ext w w') {a : Addr} {v : Value} (hc : w.cell? a = some v) : w'.frozen? a = w.frozen? a := by
  have hl : a.block < w.heap.size := by
    rcases Nat.lt_or_ge a.block w.heap.size with h | h
    · exact h
    · simp [World.cell?, Array.getElem?_eq_none h] at hc
  exact Below.frozen h hl
theorem Ext.var {w w' : World} (h : Ext w w') {P : Program} {n : String} {g : Nat} {cs : Array Value} (hg : P.globalNamed n = some g) (hv : w.var? P n = some cs) : w'.var? P n = some cs := by
  have hl : g < w.heap.size := by
    rcases Nat.lt_or_ge g w.heap.size with h | h
    · exact h
    · simp [World.var?, hg, Array.getElem?_eq_none h] at hv
  exact var?_below h hg hl hv
theorem Ext.tab {w w' : World} (h : Ext w w') {P : Program} {n : String} {g : Nat} {k : IntKind} {zs : List Int} (hg : P.globalNamed n = some g) (hv : Lib.TabIs P w n k zs) : Lib.TabIs P w' n k zs := Ext.var h hg hv

section
variable {H : Type} {enc : TypeId × Value → H} {P : Program}
theorem post_of_below {f : Func} {s : ChangeSpec} {apart fresh handsOn again : Bool} {W W' : World} {args : Array Value} {v : Value} {ds gs : List (DataW H)} {before pa pv : List MemPlace}
    (hW : DataW.Whole enc P f.params.toList s.vars apart W args.toList ds gs before)
    (hres : ∀ (b : Nat) (sp : Nat → Bool) (hd : Bool), DataW.TrodAll enc P W' b sp hd f.resultTypes.toList (v.resultList f.resultTypes.size) (s.fn H (ds ++ gs)).results [])
    (hargs : ∀ sp : Nat → Bool, (∀ p ∈ before, sp p.block = true) → DataW.TrodAll enc P W' 0 sp true f.params.toList args.toList (s.fn H (ds ++ gs)).args pa)
    (hvars : ∀ sp : Nat → Bool, (∀ p ∈ before, sp p.block = true) → DataW.TrodVars enc P W' sp s.vars (s.fn H (ds ++ gs)).vars pv)
    (hps : before = pa ++ pv) (hb : Below W.heap.size W W')
    (hok : ∀ (j : Nat) (t : TypeId) (r : Value), f.resultTypes[j]? = some t → (v.resultList f.resultTypes.size)[j]? = some r → Value.okWide P W' .any 0 t r) :
    s.post enc P f apart fresh handsOn again W args v W' := by
  have hlt : ∀ p ∈ before, p.block < W.heap.size := fun p hp => hW.lt p hp
  have hold : ∀ p ∈ before, (fun b => decide (b < W.heap.size)) p.block = true := fun p hp => by simpa using hlt p hp
  refine ⟨ds, gs, before, [], pa, pv, hW, hres _ _ _, hargs _ hold, hvars _ hold, World.keptBut_mono (fun p hp => ⟨hp, ?_⟩) (hb.frame (· ∈ before)), fun _ => ?_⟩
  · rw [hps, List.mem_append] at hp
    exact Or.inr hp
  · obtain ⟨_, _, _, _, _, hz, hn⟩ := hW
    refine ⟨hok, _, _, ([] ++ pa) ++ pv, ⟨[] ++ pa, pv, trodAll_append (hargs _ (fun _ _ => rfl)) (hres _ _ _), hvars _ (fun _ _ => rfl), rfl, ?_, ?_⟩, ?_⟩
    · intro b off hp
      have hin : MemPlace.cell b off ∈ before := by rw [hps]; simpa using hp
      rw [hb.frozen (hlt _ hin)]
      exact hz b off hin
    · intro ha
      have := hn ha
      rw [hps] at this
      simpa using this
    · intro p hp _
      rw [hps]
      simpa using hp
end

/-- what a row's list says of one of its variables -/
theorem laid_mem {P : Program} {w : World} {n : String} {d : DataW Unit} : ∀ {l : List (String × DataW Unit)} {ps : List MemPlace}, DataW.LaidVars P w l ps → (n, d) ∈ l →
    ∃ g t cs fuel p, P.globalNamed n = some g ∧ (P.globals[g]?).map (·.type) = some t ∧ w.var? P n = some cs ∧ DataW.trod (fun _ => ()) P w 0 (fun _ => true) false fuel t cs.toList = some (d, p)
  | [], _, _, hm => by cases hm
  | (n', d') :: r, ps, h, hm => by
    obtain ⟨g, t, cs, fuel, p, q, h1, h2, h3, h4, h5, _⟩ := h
    rcases List.mem_cons.1 hm with e | e
    · obtain ⟨rfl, rfl⟩ := Prod.mk.inj e
      exact ⟨g, t, cs, fuel, p, h1, h2, h3, h4⟩
    · exact laid_mem h5 e
theorem tabIs_of_mem {P : Program} {W : World} {name : String} {k : IntKind} {zs : List Int} {l : List (String × DataW Unit)} {g : Nat} {t e : TypeId} {n : Nat}
    (hg : P.globalNamed name = some g) (hty : (P.globals[g]?).map (·.type) = some t) (ht : P.underlying t = some (.array n e)) (he : P.underlying e = some (.int k)) (hce : P.cellsOf e = 1) (hct : P.cellsOf t = n)
    (h : laidMet P l W) (hm : (name, Lib.tabData k zs) ∈ l) : Lib.TabIs P W name k zs := by
  obtain ⟨ps, hl, _⟩ := h
  obtain ⟨g', t', cs, fuel, p, hg', ht', hvar, hd⟩ := laid_mem hl hm
  obtain rfl := Option.some.inj (hg.symm.trans hg')
  obtain rfl := Option.some.inj (hty.symm.trans ht')
  unfold Lib.TabIs
  rw [hvar, ← Lib.cells_of_tab ht he hce hct hd]
/-- a table of texts as a row lists it -/
def strsData {H : Type} (ls : List (List UInt8)) : DataW H := .agg (ls.map fun l => .lit (.string l))
theorem cells_of_strs {H : Type} {enc : TypeId × Value → H} {P : Program} {w : World} {base : Nat} {sp : Nat → Bool} {held : Bool} {fuel : Nat} {t e : TypeId} {n : Nat} {cs : List Value} {ls : List (List UInt8)} {p : List MemPlace}
    (ht : P.underlying t = some (.array n e)) (he : P.underlying e = some .string) (hce : P.cellsOf e = 1) (hct : P.cellsOf t = n)
    (h : DataW.trod enc P w base sp held fuel t cs = some (strsData ls, p)) : cs = ls.map fun l => Value.string ⟨l.toArray⟩ := by
  cases fuel with
  | zero => simp [DataW.trod] at h
  | succ fuel =>
    simp only [DataW.trod, ht, hce, hct, Nat.mul_one] at h
    split at h
    · rename_i hl
      obtain ⟨xs, hm, hx⟩ := Option.map_eq_some_iff.1 h
      have hxs : xs.map (·.1) = ls.map fun l => (DataW.lit (.string l) : DataW H) := by
        have := congrArg Prod.fst hx
        simpa [strsData] using this
      have hxl : xs.length = n := by simpa using Lib.mapM_length hm
      have hzl : ls.length = n := by
        have := congrArg List.length hxs
        simp at this
        omega
      apply List.ext_getElem?
      intro i
      by_cases hi : i < n
      · obtain ⟨b, hb, hf⟩ := Lib.mapM_at hm i i (by simp [hi])
        obtain ⟨s, hc, hbs⟩ := DataW.trod_string he hf
        have h1 : cs[i]? = some (.string s) := by
          have := congrArg (·[0]?) hc
          simpa [List.getElem?_take, List.getElem?_drop] using this
        have h2 : (xs.map (·.1))[i]? = some (DataW.lit (.string s.data.toList) : DataW H) := by simp [hb, hbs]
        rw [hxs] at h2
        simp only [List.getElem?_map, Option.map_eq_some_iff, DataW.lit.injEq, Lit.string.injEq] at h2
        obtain ⟨l', hl', he'⟩ := h2
        rw [h1, List.getElem?_map, hl', he']
        rfl
      · rw [List.getElem?_eq_none (by omega), List.getElem?_eq_none (by simp; omega)]
    · cases h
theorem strsAre_of_mem {P : Program} {W : World} {name : String} {ls : List (List UInt8)} {l : List (String × DataW Unit)} {g : Nat} {t e : TypeId} {n : Nat}
    (hg : P.globalNamed name = some g) (hty : (P.globals[g]?).map (·.type) = some t) (ht : P.underlying t = some (.array n e)) (he : P.underlying e = some .string) (hce : P.cellsOf e = 1) (hct : P.cellsOf t = n)
    (h : laidMet P l W) (hm : (name, strsData ls) ∈ l) : ∃ tt fr, W.heap[g]? = some (.cells (ls.map fun l => Value.string ⟨l.toArray⟩).toArray tt fr) := by
  obtain ⟨ps, hl, _⟩ := h
  obtain ⟨g', t', cs, fuel, p, hg', ht', hvar, hd⟩ := laid_mem hl hm
  obtain rfl := Option.some.inj (hg.symm.trans hg')
  obtain rfl := Option.some.inj (hty.symm.trans ht')
  have e1 := cells_of_strs ht he hce hct hd
  simp only [World.var?, hg, Option.bind_some] at hvar
  split at hvar
  · rename_i cs' tt fr hh
    obtain rfl := Option.some.inj hvar
    refine ⟨tt, fr, ?_⟩
    rw [hh, ← e1]
  · cases hvar
theorem laidMet_of_H {P : Program} {W : World} {l : List (String × DataW Unit)} (h : laidMetH P l W) (hh : (l.filter fun x => x.2.handleName?.isSome) = []) : laidMet P l W := by
  unfold laidMetH at h; rw [hh] at h; exact h
/-- the worlds behind w: some draws, some blocks -/
theorem Ext.regrown (w : World) (d : Nat) (os : Array Obj) : Ext w (Go.Sort.grow (redrawn w d) os) := below_regrown w d os
theorem quiet_same {P : Program} {f : FuncId} {args : Array Value} {w : World} {d : Nat} {os : Array Obj} {v : Value}
    (h : Calls P f args (Go.Sort.grow (redrawn w d) os) fun e w' => e = .returned v ∧ Go.Sort.grow (redrawn w d) os = w') : Calls P f args (Go.Sort.grow (redrawn w d) os) fun e w'' => e = .returned v ∧ ∃ p : Regrown, w'' = Go.Sort.grow (redrawn w p.d) p.os :=
  h.mono fun _ _ ⟨he, hw⟩ => ⟨he, ⟨d, os⟩, hw.symm⟩
theorem quiet_ext {P : Program} {f : FuncId} {args : Array Value} {w : World} {d : Nat} {os : Array Obj} {v : Value}
    (h : Calls P f args (Go.Sort.grow (redrawn w d) os) fun e w' => e = .returned v ∧ Ext (Go.Sort.grow (redrawn w d) os) w') : Calls P f args (Go.Sort.grow (redrawn w d) os) fun e w'' => e = .returned v ∧ ∃ p : Regrown, w'' = Go.Sort.grow (redrawn w p.d) p.os :=
  Calls.regrown_of h
end Go.Proofs.YtppkgfcobnknfaaGreatDoor
/- A world that has grown, and turned in some of its blocks alone. -/
namespace Go.Proofs.YtppkgfcobnknfaaGreatDoor
open Go.RowKit
/-- w' is w grown, turned at most in the blocks of a list -/
structure Turn (bs : List Nat) (w w' : World) : Prop where
  os : w'.os = w.os
  tape : w'.tape = w.tape
  output : w'.output = w.output
  size : w.heap.size ≤ w'.heap.size
  block : ∀ k, k < w.heap.size → k ∉ bs → w'.heap[k]? = w.heap[k]?
theorem Turn.refl (bs : List Nat) (w : World) : Turn bs w w := ⟨rfl, rfl, rfl, Nat.le_refl _, fun _ _ _ => rfl⟩
theorem Turn.trans {bs : List Nat} {a b c : World} (h : Turn bs a b) (k : Turn bs b c) : Turn bs a c :=
  ⟨k.os.trans h.os, k.tape.trans h.tape, k.output.trans h.output, Nat.le_trans h.size k.size, fun i hi hb => (k.block i (Nat.lt_of_lt_of_le hi h.size) hb).trans (h.block i hi hb)⟩
theorem Turn.mono {bs cs : List Nat} {w w' : World} (h : Turn bs w w') (hs : ∀ b ∈ bs, b ∈ cs) : Turn cs w w' :=
  ⟨h.os, h.tape, h.output, h.size, fun i hi hb => h.block i hi fun hm => hb (hs i hm)⟩
theorem Turn.of_ext {bs : List Nat} {w w' : World} (h : Ext w w') : Turn bs w w' := ⟨Below.os h, Below.tape h, Below.output h, Below.size h, fun i hi _ => Below.block h i hi⟩
theorem Turn.ext {w w' : World} (h : Turn [] w w') : Ext w w' := ⟨h.os, h.tape, h.output, h.size, fun i hi => h.block i hi (by simp)⟩
theorem Turn.of_grown {w w' : World} {row : Option Nat} {bs : List Nat} (h : w.grownBy w' row) (hr : ∀ b, row = some b → b ∈ bs ∨ w.heap.size ≤ b) : Turn bs w w' :=
  ⟨h.os, h.tape, h.output, h.size, fun i hi hb => h.block i hi fun e => by rcases hr i e.symm with h | h; exact hb h; omega⟩
theorem Turn.setCell {bs : List Nat} {w w' : World} (h : Turn bs w w') {a : Addr} (ha : a.block ∈ bs ∨ w.heap.size ≤ a.block) (u : Value) : Turn bs w (w'.setCell a u) := by
  refine ⟨h.os, h.tape, h.output, by simpa [World.setCell] using h.size, fun i hi hb => ?_⟩
  rw [Below.heap_setCell _ _ _ _ (by rintro rfl; rcases ha with h | h; exact hb h; omega)]
  exact h.block i hi hb
theorem Turn.below {B : Nat} {bs : List Nat} {w w' : World} (h : Turn bs w w') (hB : B ≤ w.heap.size) (hb : ∀ b ∈ bs, B ≤ b) : Below B w w' :=
  ⟨h.os, h.tape, h.output, h.size, fun i hi => h.block i (by omega) fun hm => by have := hb i hm; omega⟩
theorem Turn.cell {bs : List Nat} {w w' : World} (h : Turn bs w w') {a : Addr} {v : Value} (ha : a.block ∉ bs) (hc : w.cell? a = some v) : w'.cell? a = some v := by
  have hl : a.block < w.heap.size := by
    by_cases hl : a.block < w.heap.size
    · exact hl
    · have : w.heap[a.block]? = none := Array.getElem?_eq_none (by omega)
      simp [World.cell?, this] at hc
  rw [World.cell?_of_block (w := w) (h.block a.block hl ha)]
  exact hc
end Go.Proofs.YtppkgfcobnknfaaGreatDoor
/- Worlds of several new blocks: what lies where, under one letter. -/
namespace Go.Proofs.YtppkgfcobnknfaaGreatDoor
open Go.RowKit
theorem blocks1 (w : World) (o0 : Obj) : Ext w (w.alloc o0) ∧ (w.alloc o0).heap.size = w.heap.size + 1 ∧ (w.alloc o0).heap[w.heap.size]? = some o0 := by
  exact ⟨Ext.alloc _ _, by simp, heap_alloc_new _ _⟩
theorem at_alloc1 {P : Program} {f : FuncId} {args : Array Value} {w : World} {o0 : Obj} {Q : Ending → World → Prop} (h : ∀ W : World, Ext w W → W.heap.size = w.heap.size + 1 → W.heap[w.heap.size]? = some o0 → Calls P f args W Q) : Calls P f args (w.alloc o0) Q := by
  obtain ⟨e, s, b0⟩ := blocks1 w o0
  exact h _ e s b0
theorem blocks2 (w : World) (o0 o1 : Obj) : Ext w ((w.alloc o0).alloc o1) ∧ ((w.alloc o0).alloc o1).heap.size = w.heap.size + 1 + 1 ∧ ((w.alloc o0).alloc o1).heap[w.heap.size]? = some o0 ∧ ((w.alloc o0).alloc o1).heap[w.heap.size + 1]? = some o1 := by
  obtain ⟨e, s, b0⟩ := blocks1 w o0
  refine ⟨e.trans (Ext.alloc _ _), by rw [← s]; simp, (Below.block (Ext.alloc _ _) _ (by rw [s]; omega)).trans b0, ?_⟩
  rw [← s]; exact heap_alloc_new _ _
theorem at_alloc2 {P : Program} {f : FuncId} {args : Array Value} {w : World} {o0 o1 : Obj} {Q : Ending → World → Prop} (h : ∀ W : World, Ext w W → W.heap.size = w.heap.size + 1 + 1 → W.heap[w.heap.size]? = some o0 → W.heap[w.heap.size + 1]? = some o1 → Calls P f args W Q) : Calls P f args ((w.alloc o0).alloc o1) Q := by
  obtain ⟨e, s, b0, b1⟩ := blocks2 w o0 o1
  exact h _ e s b0 b1
theorem blocks3 (w : World) (o0 o1 o2 : Obj) : Ext w (((w.alloc o0).alloc o1).alloc o2) ∧ (((w.alloc o0).alloc o1).alloc o2).heap.size = w.heap.size + 1 + 1 + 1 ∧ (((w.alloc o0).alloc o1).alloc o2).heap[w.heap.size]? = some o0 ∧ (((w.alloc o0).alloc o1).alloc o2).heap[w.heap.size + 1]? = some o1 ∧ (((w.alloc o0).alloc o1).alloc o2).heap[w.heap.size + 1 + 1]? = some o2 := by
  obtain ⟨e, s, b0, b1⟩ := blocks2 w o0 o1
  refine ⟨e.trans (Ext.alloc _ _), by rw [← s]; simp, (Below.block (Ext.alloc _ _) _ (by rw [s]; omega)).trans b0, (Below.block (Ext.alloc _ _) _ (by rw [s]; omega)).trans b1, ?_⟩
  rw [← s]; exact heap_alloc_new _ _
theorem at_alloc3 {P : Program} {f : FuncId} {args : Array Value} {w : World} {o0 o1 o2 : Obj} {Q : Ending → World → Prop} (h : ∀ W : World, Ext w W → W.heap.size = w.heap.size + 1 + 1 + 1 → W.heap[w.heap.size]? = some o0 → W.heap[w.heap.size + 1]? = some o1 → W.heap[w.heap.size + 1 + 1]? = some o2 → Calls P f args W Q) : Calls P f args (((w.alloc o0).alloc o1).alloc o2) Q := by
  obtain ⟨e, s, b0, b1, b2⟩ := blocks3 w o0 o1 o2
  exact h _ e s b0 b1 b2
theorem blocks4 (w : World) (o0 o1 o2 o3 : Obj) : Ext w ((((w.alloc o0).alloc o1).alloc o2).alloc o3) ∧ ((((w.alloc o0).alloc o1).alloc o2).alloc o3).heap.size = w.heap.size + 1 + 1 + 1 + 1 ∧ ((((w.alloc o0).alloc o1).alloc o2).alloc o3).heap[w.heap.size]? = some o0 ∧ ((((w.alloc o0).alloc o1).alloc o2).alloc o3).heap[w.heap.size + 1]? = some o1 ∧ ((((w.alloc o0).alloc o1).alloc o2).alloc o3).heap[w.heap.size + 1 + 1]? = some o2 ∧ ((((w.alloc o0).alloc o1).alloc o2).alloc o3).heap[w.heap.size + 1 + 1 + 1]? = some o3 := by
  obtain ⟨e, s, b0, b1, b2⟩ := blocks3 w o0 o1 o2
  refine ⟨e.trans (Ext.alloc _ _), by rw [← s]; simp, (Below.block (Ext.alloc _ _) _ (by rw [s]; omega)).trans b0, (Below.block (Ext.alloc _ _) _ (by rw [s]; omega)).trans b1, (Below.block (Ext.alloc _ _) _ (by rw [s]; omega)).trans b2, ?_⟩
  rw [← s]; exact heap_alloc_new _ _
theorem at_alloc4 {P : Program} {f : FuncId} {args : Array Value} {w : World} {o0 o1 o2 o3 : Obj} {Q : Ending → World → Prop} (h : ∀ W : World, Ext w W → W.heap.size = w.heap.size + 1 + 1 + 1 + 1 → W.heap[w.heap.size]? = some o0 → W.heap[w.heap.size + 1]? = some o1 → W.heap[w.heap.size + 1 + 1]? = some o2 → W.heap[w.heap.size + 1 + 1 + 1]? = some o3 → Calls P f args W Q) : Calls P f args ((((w.alloc o0).alloc o1).alloc o2).alloc o3) Q := by
  obtain ⟨e, s, b0, b1, b2, b3⟩ := blocks4 w o0 o1 o2 o3
  exact h _ e s b0 b1 b2 b3
theorem blocks5 (w : World) (o0 o1 o2 o3 o4 : Obj) : Ext w (((((w.alloc o0).alloc o1).alloc o2).alloc o3).alloc o4) ∧ (((((w.alloc o0).alloc o1).alloc o2).alloc o3).alloc o4).heap.size = w.heap.size + 1 + 1 + 1 + 1 + 1 ∧ (((((w.alloc o0).alloc o1).alloc o2).alloc o3).alloc o4).heap[w.heap.size]? = some o0 ∧ (((((w.alloc o0).alloc o1).alloc o2).alloc o3).alloc o4).heap[w.heap.size + 1]? = some o1 ∧ (((((w.alloc o0).alloc o1).alloc o2).alloc o3).alloc o4).heap[w.heap.size + 1 + 1]? = some o2 ∧ (((((w.alloc o0).alloc o1).alloc o2).alloc o3).alloc o4).heap[w.heap.size + 1 + 1 + 1]? = some o3 ∧ (((((w.alloc o0).alloc o1).alloc o2).alloc o3).alloc o4).heap[w.heap.size + 1 + 1 + 1 + 1]? = some o4 := by
  obtain ⟨e, s, b0, b1, b2, b3⟩ := blocks4 w o0 o1 o2 o3
  refine ⟨e.trans (Ext.alloc _ _), by rw [← s]; simp, (Below.block (Ext.alloc _ _) _ (by rw [s]; omega)).trans b0, (Below.block (Ext.alloc _ _) _ (by rw [s]; omega)).trans b1, (Below.block (Ext.alloc _ _) _ (by rw [s]; omega)).trans b2, (Below.block (Ext.alloc _ _) _ (by rw [s]; omega)).trans b3, ?_⟩
  rw [← s]; exact heap_alloc_new _ _
theorem at_alloc5 {P : Program} {f : FuncId} {args : Array Value} {w : World} {o0 o1 o2 o3 o4 : Obj} {Q : Ending → World → Prop} (h : ∀ W : World, Ext w W → W.heap.size = w.heap.size + 1 + 1 + 1 + 1 + 1 → W.heap[w.heap.size]? = some o0 → W.heap[w.heap.size + 1]? = some o1 → W.heap[w.heap.size + 1 + 1]? = some o2 → W.heap[w.heap.size + 1 + 1 + 1]? = some o3 → W.heap[w.heap.size + 1 + 1 + 1 + 1]? = some o4 → Calls P f args W Q) : Calls P f args (((((w.alloc o0).alloc o1).alloc o2).alloc o3).alloc o4) Q := by
  obtain ⟨e, s, b0, b1, b2, b3, b4⟩ := blocks5 w o0 o1 o2 o3 o4
  exact h _ e s b0 b1 b2 b3 b4
theorem blocks6 (w : World) (o0 o1 o2 o3 o4 o5 : Obj) : Ext w ((((((w.alloc o0).alloc o1).alloc o2).alloc o3).alloc o4).alloc o5) ∧ ((((((w.alloc o0).alloc o1).alloc o2).alloc o3).alloc o4).alloc o5).heap.size = w.heap.size + 1 + 1 + 1 + 1 + 1 + 1 ∧ ((((((w.alloc o0).alloc o1).alloc o2).alloc o3).alloc o4).alloc o5).heap[w.heap.size]? = some o0 ∧ ((((((w.alloc o0).alloc o1).alloc o2).alloc o3).alloc o4).alloc o5).heap[w.heap.size + 1]? = some o1 ∧ ((((((w.alloc o0).alloc o1).alloc o2).alloc o3).alloc o4).alloc o5).heap[w.heap.size + 1 + 1]? = some o2 ∧ ((((((w.alloc o0).alloc o1).alloc o2).alloc o3).alloc o4).alloc o5).heap[w.heap.size + 1 + 1 + 1]? = some o3 ∧ ((((((w.alloc o0).alloc o1).alloc o2).alloc o3).alloc o4).alloc o5).heap[w.heap.size + 1 + 1 + 1 + 1]? = some o4 ∧ ((((((w.alloc o0).alloc o1).alloc o2).alloc o3).alloc o4).alloc o5).heap[w.heap.size + 1 + 1 + 1 + 1 + 1]? = some o5 := by
  obtain ⟨e, s, b0, b1, b2, b3, b4⟩ := blocks5 w o0 o1 o2 o3 o4
  refine ⟨e.trans (Ext.alloc _ _), by rw [← s]; simp, (Below.block (Ext.alloc _ _) _ (by rw [s]; omega)).trans b0, (Below.block (Ext.alloc _ _) _ (by rw [s]; omega)).trans b1, (Below.block (Ext.alloc _ _) _ (by rw [s]; omega)).trans b2, (Below.block (Ext.alloc _ _) _ (by rw [s]; omega)).trans b3, (Below.block (Ext.alloc _ _) _ (by rw [s]; omega)).trans b4, ?_⟩
  rw [← s]; exact heap_alloc_new _ _
theorem at_alloc6 {P : Program} {f : FuncId} {args : Array Value} {w : World} {o0 o1 o2 o3 o4 o5 : Obj} {Q : Ending → World → Prop} (h : ∀ W : World, Ext w W → W.heap.size = w.heap.size + 1 + 1 + 1 + 1 + 1 + 1 → W.heap[w.heap.size]? = some o0 → W.heap[w.heap.size + 1]? = some o1 → W.heap[w.heap.size + 1 + 1]? = some o2 → W.heap[w.heap.size + 1 + 1 + 1]? = some o3 → W.heap[w.heap.size + 1 + 1 + 1 + 1]? = some o4 → W.heap[w.heap.size + 1 + 1 + 1 + 1 + 1]? = some o5 → Calls P f args W Q) : Calls P f args ((((((w.alloc o0).alloc o1).alloc o2).alloc o3).alloc o4).alloc o5) Q := by
  obtain ⟨e, s, b0, b1, b2, b3, b4, b5⟩ := blocks6 w o0 o1 o2 o3 o4 o5
  exact h _ e s b0 b1 b2 b3 b4 b5
theorem blocks7 (w : World) (o0 o1 o2 o3 o4 o5 o6 : Obj) : Ext w (((((((w.alloc o0).alloc o1).alloc o2).alloc o3).alloc o4).alloc o5).alloc o6) ∧ (((((((w.alloc o0).alloc o1).alloc o2).alloc o3).alloc o4).alloc o5).alloc o6).heap.size = w.heap.size + 1 + 1 + 1 + 1 + 1 + 1 + 1 ∧ (((((((w.alloc o0).alloc o1).alloc o2).alloc o3).alloc o4).alloc o5).alloc o6).heap[w.heap.size]? = some o0 ∧ (((((((w.alloc o0).alloc o1).alloc o2).alloc o3).alloc o4).alloc o5).alloc o6).heap[w.heap.size + 1]? = some o1 ∧ (((((((w.alloc o0).alloc o1).alloc o2).alloc o3).alloc o4).alloc o5).alloc o6).heap[w.heap.size + 1 + 1]? = some o2 ∧ (((((((w.alloc o0).alloc o1).alloc o2).alloc o3).alloc o4).alloc o5).alloc o6).heap[w.heap.size + 1 + 1 + 1]? = some o3 ∧ (((((((w.alloc o0).alloc o1).alloc o2).alloc o3).alloc o4).alloc o5).alloc o6).heap[w.heap.size + 1 + 1 + 1 + 1]? = some o4 ∧ (((((((w.alloc o0).alloc o1).alloc o2).alloc o3).alloc o4).alloc o5).alloc o6).heap[w.heap.size + 1 + 1 + 1 + 1 + 1]? = some o5 ∧ (((((((w.alloc o0).alloc o1).alloc o2).alloc o3).alloc o4).alloc o5).alloc o6).heap[w.heap.size + 1 + 1 + 1 + 1 + 1 + 1]? = some o6 := by
  obtain ⟨e, s, b0, b1, b2, b3, b4, b5⟩ := blocks6 w o0 o1 o2 o3 o4 o5
  refine ⟨e.trans (Ext.alloc _ _), by rw [← s]; simp, (Below.block (Ext.alloc _ _) _ (by rw [s]; omega)).trans b0, (Below.block (Ext.alloc _ _) _ (by rw [s]; omega)).trans b1, (Below.block (Ext.alloc _ _) _ (by rw [s]; omega)).trans b2, (Below.block (Ext.alloc _ _) _ (by rw [s]; omega)).trans b3, (Below.block (Ext.alloc _ _) _ (by rw [s]; omega)).trans b4, (Below.block (Ext.alloc _ _) _ (by rw [s]; omega)).trans b5, ?_⟩
  rw [← s]; exact heap_alloc_new _ _
theorem at_alloc7 {P : Program} {f : FuncId} {args : Array Value} {w : World} {o0 o1 o2 o3 o4 o5 o6 : Obj} {Q : Ending → World → Prop} (h : ∀ W : World, Ext w W → W.heap.size = w.heap.size + 1 + 1 + 1 + 1 + 1 + 1 + 1 → W.heap[w.heap.size]? = some o0 → W.heap[w.heap.size + 1]? = some o1 → W.heap[w.heap.size + 1 + 1]? = some o2 → W.heap[w.heap.size + 1 + 1 + 1]? = some o3 → W.heap[w.heap.size + 1 + 1 + 1 + 1]? = some o4 → W.heap[w.heap.size + 1 + 1 + 1 + 1 + 1]? = some o5 → W.heap[w.heap.size + 1 + 1 + 1 + 1 + 1 + 1]? = some o6 → Calls P f args W Q) : Calls P f args (((((((w.alloc o0).alloc o1).alloc o2).alloc o3).alloc o4).alloc o5).alloc o6) Q := by
  obtain ⟨e, s, b0, b1, b2, b3, b4, b5, b6⟩ := blocks7 w o0 o1 o2 o3 o4 o5 o6
  exact h _ e s b0 b1 b2 b3 b4 b5 b6
theorem blocks8 (w : World) (o0 o1 o2 o3 o4 o5 o6 o7 : Obj) : Ext w ((((((((w.alloc o0).alloc o1).alloc o2).alloc o3).alloc o4).alloc o5).alloc o6).alloc o7) ∧ ((((((((w.alloc o0).alloc o1).alloc o2).alloc o3).alloc o4).alloc o5).alloc o6).alloc o7).heap.size = w.heap.size + 1 + 1 + 1 + 1 + 1 + 1 + 1 + 1 ∧ ((((((((w.alloc o0).alloc o1).alloc o2).alloc o3).alloc o4).alloc o5).alloc o6).alloc o7).heap[w.heap.size]? = some o0 ∧ ((((((((w.alloc o0).alloc o1).alloc o2).alloc o3).alloc o4).alloc o5).alloc o6).alloc o7).heap[w.heap.size + 1]? = some o1 ∧ ((((((((w.alloc o0).alloc o1).alloc o2).alloc o3).alloc o4).alloc o5).alloc o6).alloc o7).heap[w.heap.size + 1 + 1]? = some o2 ∧ ((((((((w.alloc o0).alloc o1).alloc o2).alloc o3).alloc o4).alloc o5).alloc o6).alloc o7).heap[w.heap.size + 1 + 1 + 1]? = some o3 ∧ ((((((((w.alloc o0).alloc o1).alloc o2).alloc o3).alloc o4).alloc o5).alloc o6).alloc o7).heap[w.heap.size + 1 + 1 + 1 + 1]? = some o4 ∧ ((((((((w.alloc o0).alloc o1).alloc o2).alloc o3).alloc o4).alloc o5).alloc o6).alloc o7).heap[w.heap.size + 1 + 1 + 1 + 1 + 1]? = some o5 ∧ ((((((((w.alloc o0).alloc o1).alloc o2).alloc o3).alloc o4).alloc o5).alloc o6).alloc o7).heap[w.heap.size + 1 + 1 + 1 + 1 + 1 + 1]? = some o6 ∧ ((((((((w.alloc o0).alloc o1).alloc o2).alloc o3).alloc o4).alloc o5).alloc o6).alloc o7).heap[w.heap.size + 1 + 1 + 1 + 1 + 1 + 1 + 1]? = some o7 := by
  obtain ⟨e, s, b0, b1, b2, b3, b4, b5, b6⟩ := blocks7 w o0 o1 o2 o3 o4 o5 o6
  refine ⟨e.trans (Ext.alloc _ _), by rw [← s]; simp, (Below.block (Ext.alloc _ _) _ (by rw [s]; omega)).trans b0, (Below.block (Ext.alloc _ _) _ (by rw [s]; omega)).trans b1, (Below.block (Ext.alloc _ _) _ (by rw [s]; omega)).trans b2, (Below.block (Ext.alloc _ _) _ (by rw [s]; omega)).trans b3, (Below.block (Ext.alloc _ _) _ (by rw [s]; omega)).trans b4, (Below.block (Ext.alloc _ _) _ (by rw [s]; omega)).trans b5, (Below.block (Ext.alloc _ _) _ (by rw [s]; omega)).trans b6, ?_⟩
  rw [← s]; exact heap_alloc_new _ _
theorem at_alloc8 {P : Program} {f : FuncId} {args : Array Value} {w : World} {o0 o1 o2 o3 o4 o5 o6 o7 : Obj} {Q : Ending → World → Prop} (h : ∀ W : World, Ext w W → W.heap.size = w.heap.size + 1 + 1 + 1 + 1 + 1 + 1 + 1 + 1 → W.heap[w.heap.size]? = some o0 → W.heap[w.heap.size + 1]? = some o1 → W.heap[w.heap.size + 1 + 1]? = some o2 → W.heap[w.heap.size + 1 + 1 + 1]? = some o3 → W.heap[w.heap.size + 1 + 1 + 1 + 1]? = some o4 → W.heap[w.heap.size + 1 + 1 + 1 + 1 + 1]? = some o5 → W.heap[w.heap.size + 1 + 1 + 1 + 1 + 1 + 1]? = some o6 → W.heap[w.heap.size + 1 + 1 + 1 + 1 + 1 + 1 + 1]? = some o7 → Calls P f args W Q) : Calls P f args ((((((((w.alloc o0).alloc o1).alloc o2).alloc o3).alloc o4).alloc o5).alloc o6).alloc o7) Q := by
  obtain ⟨e, s, b0, b1, b2, b3, b4, b5, b6, b7⟩ := blocks8 w o0 o1 o2 o3 o4 o5 o6 o7
  exact h _ e s b0 b1 b2 b3 b4 b5 b6 b7
theorem cell_at {w : World} {b i : Nat} {cs : Array Value} {T : TypeId} {fr : Nat × Nat} {v : Value} (hb : w.heap[b]? = some (.cells cs T fr)) (hv : cs[i]? = some v) : w.cell? ⟨b, i, none⟩ = some v := by
  rw [World.cell?, hb]; exact hv
theorem free_at {w : World} {b i : Nat} {cs : Array Value} {T : TypeId} (hb : w.heap[b]? = some (.cells cs T (0, 0))) : w.frozen? ⟨b, i, none⟩ = false := by
  simp [World.frozen?, hb]
theorem cells1 {w : World} {b : Nat} {x0 : Value} {T : TypeId} {fr : Nat × Nat} (h : w.heap[b]? = some (.cells #[x0] T fr)) : w.cell? ⟨b, 0, none⟩ = some x0 :=
  cell_at h rfl
theorem cells2 {w : World} {b : Nat} {x0 x1 : Value} {T : TypeId} {fr : Nat × Nat} (h : w.heap[b]? = some (.cells #[x0, x1] T fr)) : w.cell? ⟨b, 0, none⟩ = some x0 ∧ w.cell? ⟨b, 1, none⟩ = some x1 :=
  ⟨cell_at h rfl, cell_at h rfl⟩
theorem cells3 {w : World} {b : Nat} {x0 x1 x2 : Value} {T : TypeId} {fr : Nat × Nat} (h : w.heap[b]? = some (.cells #[x0, x1, x2] T fr)) : w.cell? ⟨b, 0, none⟩ = some x0 ∧ w.cell? ⟨b, 1, none⟩ = some x1 ∧ w.cell? ⟨b, 2, none⟩ = some x2 :=
  ⟨cell_at h rfl, cell_at h rfl, cell_at h rfl⟩
theorem cells4 {w : World} {b : Nat} {x0 x1 x2 x3 : Value} {T : TypeId} {fr : Nat × Nat} (h : w.heap[b]? = some (.cells #[x0, x1, x2, x3] T fr)) : w.cell? ⟨b, 0, none⟩ = some x0 ∧ w.cell? ⟨b, 1, none⟩ = some x1 ∧ w.cell? ⟨b, 2, none⟩ = some x2 ∧ w.cell? ⟨b, 3, none⟩ = some x3 :=
  ⟨cell_at h rfl, cell_at h rfl, cell_at h rfl, cell_at h rfl⟩
theorem cells5 {w : World} {b : Nat} {x0 x1 x2 x3 x4 : Value} {T : TypeId} {fr : Nat × Nat} (h : w.heap[b]? = some (.cells #[x0, x1, x2, x3, x4] T fr)) : w.cell? ⟨b, 0, none⟩ = some x0 ∧ w.cell? ⟨b, 1, none⟩ = some x1 ∧ w.cell? ⟨b, 2, none⟩ = some x2 ∧ w.cell? ⟨b, 3, none⟩ = some x3 ∧ w.cell? ⟨b, 4, none⟩ = some x4 :=
  ⟨cell_at h rfl, cell_at h rfl, cell_at h rfl, cell_at h rfl, cell_at h rfl⟩
theorem cells6 {w : World} {b : Nat} {x0 x1 x2 x3 x4 x5 : Value} {T : TypeId} {fr : Nat × Nat} (h : w.heap[b]? = some (.cells #[x0, x1, x2, x3, x4, x5] T fr)) : w.cell? ⟨b, 0, none⟩ = some x0 ∧ w.cell? ⟨b, 1, none⟩ = some x1 ∧ w.cell? ⟨b, 2, none⟩ = some x2 ∧ w.cell? ⟨b, 3, none⟩ = some x3 ∧ w.cell? ⟨b, 4, none⟩ = some x4 ∧ w.cell? ⟨b, 5, none⟩ = some x5 :=
  ⟨cell_at h rfl, cell_at h rfl, cell_at h rfl, cell_at h rfl, cell_at h rfl, cell_at h rfl⟩
theorem cells7 {w : World} {b : Nat} {x0 x1 x2 x3 x4 x5 x6 : Value} {T : TypeId} {fr : Nat × Nat} (h : w.heap[b]? = some (.cells #[x0, x1, x2, x3, x4, x5, x6] T fr)) : w.cell? ⟨b, 0, none⟩ = some x0 ∧ w.cell? ⟨b, 1, none⟩ = some x1 ∧ w.cell? ⟨b, 2, none⟩ = some x2 ∧ w.cell? ⟨b, 3, none⟩ = some x3 ∧ w.cell? ⟨b, 4, none⟩ = some x4 ∧ w.cell? ⟨b, 5, none⟩ = some x5 ∧ w.cell? ⟨b, 6, none⟩ = some x6 :=
  ⟨cell_at h rfl, cell_at h rfl, cell_at h rfl, cell_at h rfl, cell_at h rfl, cell_at h rfl, cell_at h rfl⟩
theorem cells8 {w : World} {b : Nat} {x0 x1 x2 x3 x4 x5 x6 x7 : Value} {T : TypeId} {fr : Nat × Nat} (h : w.heap[b]? = some (.cells #[x0, x1, x2, x3, x4, x5, x6, x7] T fr)) : w.cell? ⟨b, 0, none⟩ = some x0 ∧ w.cell? ⟨b, 1, none⟩ = some x1 ∧ w.cell? ⟨b, 2, none⟩ = some x2 ∧ w.cell? ⟨b, 3, none⟩ = some x3 ∧ w.cell? ⟨b, 4, none⟩ = some x4 ∧ w.cell? ⟨b, 5, none⟩ = some x5 ∧ w.cell? ⟨b, 6, none⟩ = some x6 ∧ w.cell? ⟨b, 7, none⟩ = some x7 :=
  ⟨cell_at h rfl, cell_at h rfl, cell_at h rfl, cell_at h rfl, cell_at h rfl, cell_at h rfl, cell_at h rfl, cell_at h rfl⟩
theorem cells9 {w : World} {b : Nat} {x0 x1 x2 x3 x4 x5 x6 x7 x8 : Value} {T : TypeId} {fr : Nat × Nat} (h : w.heap[b]? = some (.cells #[x0, x1, x2, x3, x4, x5, x6, x7, x8] T fr)) : w.cell? ⟨b, 0, none⟩ = some x0 ∧ w.cell? ⟨b, 1, none⟩ = some x1 ∧ w.cell? ⟨b, 2, none⟩ = some x2 ∧ w.cell? ⟨b, 3, none⟩ = some x3 ∧ w.cell? ⟨b, 4, none⟩ = some x4 ∧ w.cell? ⟨b, 5, none⟩ = some x5 ∧ w.cell? ⟨b, 6, none⟩ = some x6 ∧ w.cell? ⟨b, 7, none⟩ = some x7 ∧ w.cell? ⟨b, 8, none⟩ = some x8 :=
  ⟨cell_at h rfl, cell_at h rfl, cell_at h rfl, cell_at h rfl, cell_at h rfl, cell_at h rfl, cell_at h rfl, cell_at h rfl, cell_at h rfl⟩
theorem cells10 {w : World} {b : Nat} {x0 x1 x2 x3 x4 x5 x6 x7 x8 x9 : Value} {T : TypeId} {fr : Nat × Nat} (h : w.heap[b]? = some (.cells #[x0, x1, x2, x3, x4, x5, x6, x7, x8, x9] T fr)) : w.cell? ⟨b, 0, none⟩ = some x0 ∧ w.cell? ⟨b, 1, none⟩ = some x1 ∧ w.cell? ⟨b, 2, none⟩ = some x2 ∧ w.cell? ⟨b, 3, none⟩ = some x3 ∧ w.cell? ⟨b, 4, none⟩ = some x4 ∧ w.cell? ⟨b, 5, none⟩ = some x5 ∧ w.cell? ⟨b, 6, none⟩ = some x6 ∧ w.cell? ⟨b, 7, none⟩ = some x7 ∧ w.cell? ⟨b, 8, none⟩ = some x8 ∧ w.cell? ⟨b, 9, none⟩ = some x9 :=
  ⟨cell_at h rfl, cell_at h rfl, cell_at h rfl, cell_at h rfl, cell_at h rfl, cell_at h rfl, cell_at h rfl, cell_at h rfl, cell_at h rfl, cell_at h rfl⟩
theorem cells11 {w : World} {b : Nat} {x0 x1 x2 x3 x4 x5 x6 x7 x8 x9 x10 : Value} {T : TypeId} {fr : Nat × Nat} (h : w.heap[b]? = some (.cells #[x0, x1, x2, x3, x4, x5, x6, x7, x8, x9, x10] T fr)) : w.cell? ⟨b, 0, none⟩ = some x0 ∧ w.cell? ⟨b, 1, none⟩ = some x1 ∧ w.cell? ⟨b, 2, none⟩ = some x2 ∧ w.cell? ⟨b, 3, none⟩ = some x3 ∧ w.cell? ⟨b, 4, none⟩ = some x4 ∧ w.cell? ⟨b, 5, none⟩ = some x5 ∧ w.cell? ⟨b, 6, none⟩ = some x6 ∧ w.cell? ⟨b, 7, none⟩ = some x7 ∧ w.cell? ⟨b, 8, none⟩ = some x8 ∧ w.cell? ⟨b, 9, none⟩ = some x9 ∧ w.cell? ⟨b, 10, none⟩ = some x10 :=
  ⟨cell_at h rfl, cell_at h rfl, cell_at h rfl, cell_at h rfl, cell_at h rfl, cell_at h rfl, cell_at h rfl, cell_at h rfl, cell_at h rfl, cell_at h rfl, cell_at h rfl⟩
theorem cells12 {w : World} {b : Nat} {x0 x1 x2 x3 x4 x5 x6 x7 x8 x9 x10 x11 : Value} {T : TypeId} {fr : Nat × Nat} (h : w.heap[b]? = some (.cells #[x0, x1, x2, x3, x4, x5, x6, x7, x8, x9, x10, x11] T fr)) : w.cell? ⟨b, 0, none⟩ = some x0 ∧ w.cell? ⟨b, 1, none⟩ = some x1 ∧ w.cell? ⟨b, 2, none⟩ = some x2 ∧ w.cell? ⟨b, 3, none⟩ = some x3 ∧ w.cell? ⟨b, 4, none⟩ = some x4 ∧ w.cell? ⟨b, 5, none⟩ = some x5 ∧ w.cell? ⟨b, 6, none⟩ = some x6 ∧ w.cell? ⟨b, 7, none⟩ = some x7 ∧ w.cell? ⟨b, 8, none⟩ = some x8 ∧ w.cell? ⟨b, 9, none⟩ = some x9 ∧ w.cell? ⟨b, 10, none⟩ = some x10 ∧ w.cell? ⟨b, 11, none⟩ = some x11 :=
  ⟨cell_at h rfl, cell_at h rfl, cell_at h rfl, cell_at h rfl, cell_at h rfl, cell_at h rfl, cell_at h rfl, cell_at h rfl, cell_at h rfl, cell_at h rfl, cell_at h rfl, cell_at h rfl⟩
theorem new_block {w : World} {o : Obj} {n : Nat} (h : w.heap.size = n) : (w.alloc o).heap[n]? = some o := by
  subst h; exact heap_alloc_new _ _
end Go.Proofs.YtppkgfcobnknfaaGreatDoor
/- Slices whose elements are rows of cells: read wherever they lie, or of the call's own; append, stores, cuts. -/
namespace Go.Proofs.YtppkgfcobnknfaaGreatDoor
open Go.RowKit Go.Maps
/-- each row has s cells, each of one cell -/
def Rows1 (s : Nat) (l : List (List Value)) : Prop := ∀ cs ∈ l, cs.length = s ∧ ∀ u ∈ cs, u.oneCell' = true
theorem Rows1.nil (s : Nat) : Rows1 s [] := fun _ h => by cases h
theorem Rows1.app {s : Nat} {l k : List (List Value)} (h : Rows1 s l) (g : Rows1 s k) : Rows1 s (l ++ k) := fun cs hm => (List.mem_append.1 hm).elim (h cs) (g cs)
theorem Rows1.take {s : Nat} {l : List (List Value)} (h : Rows1 s l) (k : Nat) : Rows1 s (l.take k) := fun cs hm => h cs (List.mem_of_mem_take hm)
theorem Rows1.drop {s : Nat} {l : List (List Value)} (h : Rows1 s l) (k : Nat) : Rows1 s (l.drop k) := fun cs hm => h cs (List.mem_of_mem_drop hm)
theorem Rows1.one {s : Nat} {cs : List Value} (h1 : cs.length = s) (h2 : ∀ u ∈ cs, u.oneCell' = true) : Rows1 s [cs] := fun c hm => by
  rw [List.mem_singleton] at hm; subst hm; exact ⟨h1, h2⟩
theorem flat_len {s : Nat} : ∀ {l : List (List Value)}, Rows1 s l → l.flatten.length = l.length * s
  | [], _ => by simp
  | c :: l, h => by
    have h1 := (h c (.head _)).1
    have h2 := flat_len (s := s) (l := l) (fun cs hm => h cs (.tail _ hm))
    rw [List.flatten_cons, List.length_append, h1, h2, List.length_cons, Nat.add_mul]; omega
theorem flat_at {s : Nat} : ∀ {l : List (List Value)}, Rows1 s l → ∀ {i f : Nat} {cs : List Value} {u : Value}, l[i]? = some cs → cs[f]? = some u → l.flatten[i * s + f]? = some u
  | [], _, i, f, cs, u, h, _ => by simp at h
  | c :: l, hr, i, f, cs, u, h, hu => by
    have h1 := (hr c (.head _)).1
    cases i with
    | zero =>
      simp at h; subst h
      have hf : f < c.length := (List.getElem?_eq_some_iff.1 hu).1
      rw [List.flatten_cons, Nat.zero_mul, Nat.zero_add, List.getElem?_append_left hf, hu]
    | succ i =>
      have ih := flat_at (s := s) (l := l) (fun cs hm => hr cs (.tail _ hm)) (i := i) (f := f) (cs := cs) (u := u) (by simpa using h) hu
      rw [List.flatten_cons, List.getElem?_append_right (by rw [h1, Nat.add_mul]; omega), h1, show (i + 1) * s + f - s = i * s + f by rw [Nat.add_mul]; omega]
      exact ih
theorem flat_one {s : Nat} {l : List (List Value)} (h : Rows1 s l) : ∀ u ∈ l.flatten, u.oneCell' = true := by
  intro u hu
  obtain ⟨cs, hm, hc⟩ := List.mem_flatten.1 hu
  exact (h cs hm).2 u hc
theorem flat_take {s : Nat} : ∀ {l : List (List Value)}, Rows1 s l → ∀ k, (l.take k).flatten = l.flatten.take (k * s)
  | [], _, k => by simp
  | c :: l, h, 0 => by simp
  | c :: l, h, k + 1 => by
    have h1 := (h c (.head _)).1
    have ih := flat_take (s := s) (l := l) (fun cs hm => h cs (.tail _ hm)) k
    have e1 : c.take ((k + 1) * s) = c := List.take_of_length_le (by rw [h1, Nat.add_mul]; omega)
    have e2 : (k + 1) * s - s = k * s := by rw [Nat.add_mul]; omega
    rw [List.take_succ_cons, List.flatten_cons, List.flatten_cons, List.take_append, h1, e1, e2, ih]
/-- a slice without elements: nil, or at whatever address -/
def EmptyV (v : Value) : Prop := v = .slice none 0 0 ∨ ∃ a c, v = .slice (some a) 0 c ∧ c ≤ maxLen
/-- a slice that reads as rows of s cells, nil or at a plain address -/
def RowsP (w : World) (v : Value) (s : Nat) (l : List (List Value)) : Prop := Rows1 s l ∧ ((EmptyV v ∧ l = []) ∨
  ∃ b off c, v = .slice (some ⟨b, off, none⟩) l.length c ∧ l.length ≤ c ∧ c ≤ maxLen ∧ ∀ (j : Nat) (u : Value), l.flatten[j]? = some u → w.cell? ⟨b, off + j, none⟩ = some u)
theorem RowsP.ext {w w' : World} {v : Value} {s : Nat} {l : List (List Value)} (h : RowsP w v s l) (e : Ext w w') : RowsP w' v s l := by
  obtain ⟨h1, h2⟩ := h
  refine ⟨h1, ?_⟩
  rcases h2 with h2 | ⟨b, off, c, h3, h4, h5, h6⟩
  · exact .inl h2
  · exact .inr ⟨b, off, c, h3, h4, h5, fun j u hu => e.cell (h6 j u hu)⟩
theorem RowsP.nil (w : World) (s : Nat) : RowsP w (.slice none 0 0) s [] := ⟨Rows1.nil s, .inl ⟨.inl rfl, rfl⟩⟩
/-- its length, and its cells -/
theorem RowsP.at {w : World} {v : Value} {s : Nat} {l : List (List Value)} (h : RowsP w v s l) : ∃ q c, v = .slice q l.length c ∧ l.length ≤ c ∧ c ≤ maxLen ∧
    ∀ (i : Nat) (cs : List Value), l[i]? = some cs → ∃ b off, q = some ⟨b, off, none⟩ ∧ ∀ (f : Nat) (u : Value), cs[f]? = some u → w.cell? ⟨b, off + i * s + f, none⟩ = some u := by
  obtain ⟨h1, h2⟩ := h
  rcases h2 with ⟨rfl | ⟨a, c, rfl, hc⟩, rfl⟩ | ⟨b, off, c, rfl, h4, h5, h6⟩
  · exact ⟨none, 0, rfl, Nat.le_refl _, Nat.zero_le _, fun i cs h => by simp at h⟩
  · exact ⟨some a, c, rfl, Nat.zero_le _, hc, fun i cs h => by simp at h⟩
  · exact ⟨_, c, rfl, h4, h5, fun i cs hi => ⟨b, off, rfl, fun f u hu => by rw [Nat.add_assoc]; exact h6 _ u (flat_at h1 hi hu)⟩⟩
/-- a slice of the call's own -/
def OwnP (w : World) (base : Nat) (T : TypeId) (v : Value) (s : Nat) (l : List (List Value)) : Prop := Rows1 s l ∧ w.ownsRow base T s v l.length l.flatten
theorem OwnP.nil (w : World) (base : Nat) (T : TypeId) (s : Nat) : OwnP w base T (.slice none 0 0) s [] := ⟨Rows1.nil s, World.ownsRow_nil _ _ _ _⟩
theorem OwnP.forms {w : World} {base : Nat} {T : TypeId} {v : Value} {s : Nat} {l : List (List Value)} (h : OwnP w base T v s l) : (v = .slice none 0 0 ∧ l = []) ∨
    ∃ g cap cur, v = .slice (some ⟨g, 0, none⟩) l.length cap ∧ base ≤ g ∧ w.heap[g]? = some (.cells cur T (0, 0)) ∧ l.length ≤ cap ∧ cap ≤ maxLen ∧ cur.size = cap * s ∧ cur.toList.take (l.length * s) = l.flatten := by
  rcases h.2.2 with ⟨h1, h2⟩ | h1
  · exact .inl ⟨h1, List.eq_nil_of_length_eq_zero h2⟩
  · exact .inr h1
theorem OwnP.of_form {w : World} {base g cap : Nat} {T : TypeId} {s : Nat} {cur : Array Value} {l : List (List Value)} (h1 : Rows1 s l) (hb : base ≤ g) (hg : w.heap[g]? = some (.cells cur T (0, 0))) (hc : l.length ≤ cap) (hm : cap ≤ maxLen)
    (hs : cur.size = cap * s) (ht : cur.toList.take (l.length * s) = l.flatten) : OwnP w base T (.slice (some ⟨g, 0, none⟩) l.length cap) s l :=
  ⟨h1, flat_len h1, .inr ⟨g, cap, cur, rfl, hb, hg, hc, hm, hs, ht⟩⟩
theorem OwnP.len {w : World} {base : Nat} {T : TypeId} {v : Value} {s : Nat} {l : List (List Value)} (h : OwnP w base T v s l) : ∃ q c, v = .slice q l.length c ∧ l.length ≤ c ∧ c ≤ maxLen := by
  rcases h.forms with ⟨rfl, rfl⟩ | ⟨g, cap, cur, h1, _, _, h2, h3, _⟩
  · exact ⟨none, 0, rfl, Nat.le_refl _, Nat.zero_le _⟩
  · exact ⟨_, cap, h1, h2, h3⟩
theorem OwnP.own {w : World} {base : Nat} {T : TypeId} {v : Value} {s : Nat} {l : List (List Value)} (h : OwnP w base T v s l) : ∀ b, v.ownBlock = some b → base ≤ b ∧ b < w.heap.size := by
  intro b hb
  rcases h.forms with ⟨rfl, _⟩ | ⟨g, cap, cur, rfl, hb1, hg, _⟩
  · simp [Value.ownBlock] at hb
  · simp only [Value.ownBlock, Option.some.injEq] at hb
    exact ⟨by omega, by rw [← hb]; exact (Array.getElem?_eq_some_iff.1 hg).1⟩
theorem OwnP.p {w : World} {base : Nat} {T : TypeId} {v : Value} {s : Nat} {l : List (List Value)} (h : OwnP w base T v s l) : RowsP w v s l := by
  refine ⟨h.1, ?_⟩
  rcases h.forms with ⟨rfl, rfl⟩ | ⟨g, cap, cur, rfl, hb, hg, h2, h3, h4, h5⟩
  · exact .inl ⟨.inl rfl, rfl⟩
  · refine .inr ⟨g, 0, cap, rfl, h2, h3, fun j u hu => ?_⟩
    have hj : j < l.flatten.length := (List.getElem?_eq_some_iff.1 hu).1
    rw [flat_len h.1] at hj
    rw [← h5, List.getElem?_take_of_lt hj] at hu
    simpa [World.cell?, hg] using hu
/-- it stays where nothing of its block turns -/
theorem OwnP.stays {w w' : World} {base : Nat} {T : TypeId} {v : Value} {s : Nat} {l : List (List Value)} (h : OwnP w base T v s l) (hw : ∀ b, v.ownBlock = some b → b < w.heap.size → w'.heap[b]? = w.heap[b]?) : OwnP w' base T v s l := by
  rcases h.forms with ⟨rfl, rfl⟩ | ⟨g, cap, cur, rfl, hb, hg, h2, h3, h4, h5⟩
  · exact OwnP.nil _ _ _ _
  · exact OwnP.of_form h.1 hb (by rw [hw g rfl (Array.getElem?_eq_some_iff.1 hg).1]; exact hg) h2 h3 h4 h5
theorem OwnP.ext {w w' : World} {base : Nat} {T : TypeId} {v : Value} {s : Nat} {l : List (List Value)} (h : OwnP w base T v s l) (e : Ext w w') : OwnP w' base T v s l := h.stays fun b _ hl => Below.block e b hl
theorem OwnP.turn {w w' : World} {base : Nat} {T : TypeId} {v : Value} {s : Nat} {l : List (List Value)} {bs : List Nat} (h : OwnP w base T v s l) (t : Turn bs w w') (hn : ∀ b, v.ownBlock = some b → b ∉ bs) : OwnP w' base T v s l := h.stays fun b hb hl => t.block b hl (hn b hb)
theorem OwnP.grown {w w' : World} {base : Nat} {T : TypeId} {v : Value} {s : Nat} {l : List (List Value)} {row : Option Nat} (h : OwnP w base T v s l) (t : w.grownBy w' row) (hn : ∀ b, v.ownBlock = some b → row ≠ some b) : OwnP w' base T v s l :=
  h.stays fun b hb hl => t.block b hl (fun e => hn b hb e.symm)
theorem OwnP.mono {w : World} {base base' : Nat} {T : TypeId} {v : Value} {s : Nat} {l : List (List Value)} (h : OwnP w base T v s l) (hb : base' ≤ base) : OwnP w base' T v s l := by
  rcases h.forms with ⟨rfl, rfl⟩ | ⟨g, cap, cur, rfl, hb1, hg, h2, h3, h4, h5⟩
  · exact OwnP.nil _ _ _ _
  · exact OwnP.of_form h.1 (Nat.le_trans hb hb1) hg h2 h3 h4 h5
/-- the first k of it -/
theorem OwnP.take {w : World} {base : Nat} {T : TypeId} {q : Option Addr} {n c : Nat} {s : Nat} {l : List (List Value)} (h : OwnP w base T (.slice q n c) s l) {k : Nat} (hk : k ≤ l.length) : OwnP w base T (.slice q k c) s (l.take k) := by
  have hl : (l.take k).length = k := by rw [List.length_take]; omega
  rcases h.forms with ⟨h1, rfl⟩ | ⟨g, cap, cur, h1, hb, hg, h2, h3, h4, h5⟩
  · obtain ⟨rfl, rfl, rfl⟩ := Value.slice.inj h1
    obtain rfl : k = 0 := by simpa using hk
    exact OwnP.nil _ _ _ _
  · obtain ⟨rfl, rfl, rfl⟩ := Value.slice.inj h1
    have := OwnP.of_form (T := T) (base := base) (cap := c) (h.1.take k) hb hg (by omega) h3 h4 (by
      rw [hl, flat_take h.1, ← h5, List.take_take, Nat.min_eq_left (Nat.mul_le_mul_right s hk)])
    rw [hl] at this
    exact this
theorem OwnP.cell {w : World} {base : Nat} {T : TypeId} {q : Option Addr} {n c : Nat} {s : Nat} {l : List (List Value)} (h : OwnP w base T (.slice q n c) s l) {i f : Nat} {cs : List Value} {u : Value} (hi : l[i]? = some cs) (hu : cs[f]? = some u) :
    ∃ g, q = some ⟨g, 0, none⟩ ∧ base ≤ g ∧ w.cell? ⟨g, i * s + f, none⟩ = some u ∧ w.frozen? ⟨g, i * s + f, none⟩ = false := by
  rcases h.forms with ⟨_, rfl⟩ | ⟨g, cap, cur, h1, hb, hg, h2, h3, h4, h5⟩
  · simp at hi
  · obtain ⟨rfl, rfl, rfl⟩ := Value.slice.inj h1
    have hx := flat_at h.1 hi hu
    have hj : i * s + f < l.flatten.length := (List.getElem?_eq_some_iff.1 hx).1
    rw [flat_len h.1] at hj
    rw [← h5, List.getElem?_take_of_lt hj] at hx
    exact ⟨g, rfl, hb, by simpa [World.cell?, hg] using hx, by simp [World.frozen?, hg]⟩
theorem flat_set {s : Nat} : ∀ {l : List (List Value)}, Rows1 s l → ∀ {i f : Nat} {cs : List Value} (u : Value), l[i]? = some cs → f < s → (l.set i (cs.set f u)).flatten = l.flatten.set (i * s + f) u
  | [], _, i, f, cs, u, h, _ => by simp at h
  | c :: l, hr, i, f, cs, u, h, hf => by
    have h1 := (hr c (.head _)).1
    cases i with
    | zero =>
      simp at h; subst h
      rw [List.set_cons_zero, List.flatten_cons, List.flatten_cons, Nat.zero_mul, Nat.zero_add, List.set_append_left _ _ (by omega)]
    | succ i =>
      have ih := flat_set (s := s) (l := l) (fun cs hm => hr cs (.tail _ hm)) (i := i) (f := f) (cs := cs) u (by simpa using h) hf
      rw [List.set_cons_succ, List.flatten_cons, List.flatten_cons, List.set_append_right _ _ (by rw [h1, Nat.add_mul]; omega), h1, ih, show (i + 1) * s + f - s = i * s + f by rw [Nat.add_mul]; omega]
theorem Rows1.set {s : Nat} {l : List (List Value)} (h : Rows1 s l) {i f : Nat} {cs : List Value} {u : Value} (hi : l[i]? = some cs) (hu : u.oneCell' = true) : Rows1 s (l.set i (cs.set f u)) := by
  intro c hm
  rcases List.mem_or_eq_of_mem_set hm with hm | rfl
  · exact h c hm
  · have hc := h cs (List.mem_of_getElem? hi)
    refine ⟨by rw [List.length_set]; exact hc.1, fun x hx => ?_⟩
    rcases List.mem_or_eq_of_mem_set hx with hx | rfl
    · exact hc.2 x hx
    · exact hu
/-- a store into one of its cells -/
theorem OwnP.store {w : World} {base : Nat} {T : TypeId} {g n c : Nat} {s : Nat} {l : List (List Value)} (h : OwnP w base T (.slice (some ⟨g, 0, none⟩) n c) s l) {i f : Nat} {cs : List Value} (hi : l[i]? = some cs) (hf : f < s) {u : Value} (hu : u.oneCell' = true) :
    OwnP (w.setCell ⟨g, i * s + f, none⟩ u) base T (.slice (some ⟨g, 0, none⟩) n c) s (l.set i (cs.set f u)) := by
  rcases h.forms with ⟨h1, _⟩ | ⟨g', cap, cur, h1, hb, hg, h2, h3, h4, h5⟩
  · cases h1
  · obtain ⟨e1, rfl, rfl⟩ := Value.slice.inj h1
    obtain ⟨rfl, _⟩ := Addr.mk.inj (Option.some.inj e1)
    have hl : (l.set i (cs.set f u)).length = l.length := List.length_set
    have hil : i < l.length := (List.getElem?_eq_some_iff.1 hi).1
    have := OwnP.of_form (w := w.setCell ⟨g, i * s + f, none⟩ u) (T := T) (base := base) (g := g) (cap := c) (cur := cur.setIfInBounds (i * s + f) u) (h.1.set (f := f) (u := u) hi hu) hb (Go.Lib.heap_setCell_same hg u) (by rw [hl]; exact h2) h3 (by simpa using h4) (by
      rw [hl, flat_set h.1 u hi hf, ← h5]
      simp only [Array.toList_setIfInBounds]
      rw [List.take_set])
    rw [hl] at this
    exact this
/-- the words of a slice's element type -/
structure ElemT (P : Program) (ST T : TypeId) (s bytes : Nat) : Prop where
  under : P.underlying ST = some (.slice T)
  info : ∃ z, (P.info? T).map (fun i => (i.zero, i.size, i.bytes)) = some (some z, s, bytes) ∧ z.cells.size = s
  pos : 0 < s
theorem run_append_rows {P : Program} {ST T : TypeId} {s bytes : Nat} (E : ElemT P ST T s bytes) {w : World} (base : Nat) (ty : TypeId) {v u : Value} {R L : List (List Value)} (hv : OwnP w base T v s R) (hu : RowsP w u s L)
    (h63 : R.length + L.length ≤ maxLen) (hbytes : (R.length + L.length) * bytes ≤ 140737488355328) (hbase : base ≤ w.heap.size) :
    ∃ v' w', (Builtin.append_ #[ST, ST] ty #[v, u]).run P w = .ok v' w' ∧ OwnP w' base T v' s (R ++ L) ∧ w.grownBy w' v.ownBlock ∧ (v'.ownBlock = v.ownBlock ∨ v'.ownBlock = some w.heap.size) ∧ ((L ≠ [] ∨ v ≠ .slice none 0 0) → v' ≠ .slice none 0 0) := by
  obtain ⟨z, hinfo, hz⟩ := E.info
  obtain ⟨i0, hi, hz0, hz1, hz2⟩ := info_parts hinfo
  obtain ⟨h1, h2⟩ := hu
  rcases h2 with ⟨rfl | ⟨a, c, rfl, hc⟩, rfl⟩ | ⟨b, off, c, rfl, h4, h5, h6⟩
  · refine ⟨v, w, run_append_owned_none w base ST ty T i0 s E.under hi v R.length R.flatten hv.2, by rw [List.append_nil]; exact hv, ⟨rfl, rfl, rfl, Nat.le_refl _, fun _ _ _ => rfl⟩, .inl rfl, fun h => h.elim (fun h => absurd rfl h) id⟩
  · obtain ⟨v', w', hr, ho, hg, hn, hb⟩ := run_append_own_at (P := P) w base ST ty T i0 z s bytes E.under hi hz0 hz1 hz2 hz E.pos v R.length R.flatten hv.2 a 0 c ([] : List Value) (by simp)
      (fun j y hj => by simp at hj) (fun u hu => by simp at hu) h63 hbytes hbase
    refine ⟨v', w', hr, ⟨hv.1.app h1, by rw [List.length_append, List.flatten_append]; exact ho⟩, hg, hb, fun h e => ?_⟩
    obtain ⟨e1, e2⟩ := hn.1 e
    rcases h with h | h
    · exact h rfl
    · exact h e1
  · obtain ⟨v', w', hr, ho, hg, hn, hb⟩ := run_append_own_at (P := P) w base ST ty T i0 z s bytes E.under hi hz0 hz1 hz2 hz E.pos v R.length R.flatten hv.2 ⟨b, off, none⟩ L.length c L.flatten (flat_len h1)
      (fun j y hj => by rw [Go.WideShapes.add_plain]; exact h6 j y hj) (flat_one h1) h63 hbytes hbase
    refine ⟨v', w', hr, ⟨hv.1.app h1, by rw [List.length_append, List.flatten_append]; exact ho⟩, hg, hb, fun h e => ?_⟩
    obtain ⟨e1, e2⟩ := hn.1 e
    rcases h with h | h
    · exact h (List.eq_nil_of_length_eq_zero e2)
    · exact h e1
/-- append, at a plain region's list -/
theorem wpList_append_rows {P : Program} {ST T : TypeId} {s bytes : Nat} (E : ElemT P ST T s bytes) {w : World} {ops : Array Oper} {rest : List Oper} {o : Oper} {a : Act} {Q : Exit → Act → World → Prop} (hgd : o.guard = none) (so xo : Operand)
    (ho : o.op = .call { callee := .builtin .append, args := #[so, xo], argTypes := #[ST, ST] })
    (base : Nat) (v u : Value) (R L : List (List Value)) (hs : a.eval so = v) (hown : OwnP w base T v s R) (hx : a.eval xo = u) (hu : RowsP w u s L)
    (h63 : R.length + L.length ≤ maxLen) (hbytes : (R.length + L.length) * bytes ≤ 140737488355328) (hbase : base ≤ w.heap.size)
    (h : ∀ v' w', OwnP w' base T v' s (R ++ L) → w.grownBy w' v.ownBlock → (v'.ownBlock = v.ownBlock ∨ v'.ownBlock = some w.heap.size) → ((L ≠ [] ∨ v ≠ .slice none 0 0) → v' ≠ .slice none 0 0) → wpList P ops Q rest (a.put o.dst v') w') :
    wpList P ops Q (o :: rest) a w := by
  obtain ⟨v', w', hr, h2, h3, h4, h5⟩ := run_append_rows E base o.type hown hu h63 hbytes hbase
  refine wpList_plain hgd fun K hK => ?_
  unfold Oper.wp execOp
  simp only [ho, resolve, invoke, builtin, Sem.run_bind, Sem.run_pure, Result.andThen_ok, List.map_toArray, List.map_cons, List.map_nil, hs, hx, hr]
  exact hK _ _ (h v' w' h2 h3 h4 h5)
/-- append, at a step of a region that draws -/
theorem step_append_rows {P : Program} {ST T : TypeId} {s bytes : Nat} (E : ElemT P ST T s bytes) {w : World} {ops : Array Oper} {o : Oper} {a : Act} {K : Act → World → Prop} {Q : Exit → Act → World → Prop} {F : Prop} (hgd : o.guard = none) (so xo : Operand)
    (ho : o.op = .call { callee := .builtin .append, args := #[so, xo], argTypes := #[ST, ST] })
    (base : Nat) (v u : Value) (R L : List (List Value)) (hs : a.eval so = v) (hown : OwnP w base T v s R) (hx : a.eval xo = u) (hu : RowsP w u s L)
    (h63 : R.length + L.length ≤ maxLen) (hbytes : (R.length + L.length) * bytes ≤ 140737488355328) (hbase : base ≤ w.heap.size)
    (h : ∀ v' w', OwnP w' base T v' s (R ++ L) → w.grownBy w' v.ownBlock → (v'.ownBlock = v.ownBlock ∨ v'.ownBlock = some w.heap.size) → ((L ≠ [] ∨ v ≠ .slice none 0 0) → v' ≠ .slice none 0 0) → K (a.put o.dst v') w') :
    if Region.wanted o (yielded ops a.tmps) = true then Oper.wp P o a w K Q else F := by
  have hw : Region.wanted o (yielded ops a.tmps) = true := by simp [Region.wanted, hgd]
  rw [if_pos hw]
  obtain ⟨v', w', hr, h2, h3, h4, h5⟩ := run_append_rows E base o.type hown hu h63 hbytes hbase
  unfold Oper.wp execOp
  simp only [ho, resolve, invoke, builtin, Sem.run_bind, Sem.run_pure, Result.andThen_ok, List.map_toArray, List.map_cons, List.map_nil, hs, hx, hr]
  exact h v' w' h2 h3 h4 h5
/-- one row that lies in a block of its own -/
theorem rows_of_block {w : World} {g : Nat} {cs : Array Value} {T : TypeId} {fr : Nat × Nat} {s : Nat} (h : w.heap[g]? = some (.cells cs T fr)) (hs : cs.size = s) (h1 : ∀ u ∈ cs.toList, u.oneCell' = true) : RowsP w (.slice (some ⟨g, 0, none⟩) 1 1) s [cs.toList] := by
  refine ⟨Rows1.one (by simpa using hs) h1, .inr ⟨g, 0, 1, rfl, Nat.le_refl _, by unfold maxLen; omega, fun j u hu => ?_⟩⟩
  simpa [World.cell?, h] using hu
theorem grown_ext {w w' : World} {row : Option Nat} {B : Nat} {a : World} (e : Below B a w) (h : w.grownBy w' row) (hr : ∀ b, row = some b → B ≤ b) (hB : B ≤ w.heap.size) : Below B a w' := Below.grown e h hB hr
/-- a slice expression on the first k of a slice -/
theorem run_take {P : Program} {ST T : TypeId} {s bytes : Nat} (E : ElemT P ST T s bytes) (w : World) (q : Option Addr) (n c k : Nat) (hk : k ≤ c) (_hc : c ≤ maxLen) : (Instr.slice ST (.slice q n c) none (some (.int .i64 k)) none).run P w = .ok (.slice q k c) w := by
  obtain ⟨z, hinfo, _⟩ := E.info
  obtain ⟨i0, hi, hz0, hz1, hz2⟩ := info_parts hinfo
  have hel : P.elem ST = T := by simp [Program.elem, E.under]
  have hsz : (sizeOf (P.elem ST)).run P w = .ok s w := by rw [hel]; simp [sizeOf, typeInfo, hi, hz1]
  unfold maxLen at _hc
  rw [run_slice_h w ST q n c (by rw [hel]; exact E.under) .i64 k (by omega) (by omega), hsz]
  simp [sliced]
  intro _
  cases q <;> simp [Addr.add]
theorem flat1 {l : List (List Value)} (h : Rows1 1 l) : l.flatten.length = l.length := by rw [flat_len h, Nat.mul_one]
theorem flat1_drop : ∀ {l : List (List Value)}, Rows1 1 l → ∀ k, (l.drop k).flatten = l.flatten.drop k
  | [], _, k => by simp
  | c :: l, h, 0 => by simp
  | c :: l, h, k + 1 => by
    have h1 := (h c (.head _)).1
    have ih := flat1_drop (l := l) (fun cs hm => h cs (.tail _ hm)) k
    have e1 : c.drop (k + 1) = [] := List.drop_of_length_le (by rw [h1]; omega)
    have e2 : k + 1 - 1 = k := by omega
    rw [List.drop_succ_cons, List.flatten_cons, List.drop_append, h1, e1, e2, ih, List.nil_append]
/-- copy, between slices of one-cell elements: the target a row of the call's own -/
theorem wpList_copy_rows {P : Program} {ST T : TypeId} {bytes : Nat} (E : ElemT P ST T 1 bytes) {w : World} {ops : Array Oper} {rest : List Oper} {o : Oper} {a : Act} {Q : Exit → Act → World → Prop} (hgd : o.guard = none) (d s : Operand)
    (ho : o.op = .call { callee := .builtin .copy, args := #[d, s], argTypes := #[ST, ST] }) (base : Nat) (v u : Value) (D L : List (List Value)) (hd : a.eval d = v) (hown : OwnP w base T v 1 D) (hs : a.eval s = u) (hu : RowsP w u 1 L)
    (h : ∀ w', OwnP w' base T v 1 (L.take (Nat.min L.length D.length) ++ D.drop (Nat.min L.length D.length)) → w.grownBy w' v.ownBlock → w'.heap.size = w.heap.size → wpList P ops Q rest (a.put o.dst (goInt (Nat.min L.length D.length))) w') :
    wpList P ops Q (o :: rest) a w := by
  obtain ⟨z, hinfo, hz⟩ := E.info
  obtain ⟨i0, hi, hz0, hz1, hz2⟩ := info_parts hinfo
  have hsz : (P.info? T).map (·.size) = some 1 := by rw [hi]; simp [hz1]
  obtain ⟨dp, dCap, rfl, _, _⟩ := hown.len
  have hu' := hu
  obtain ⟨h1, h2⟩ := hu
  obtain ⟨sp, sCap, rfl, _, _, _⟩ := hu'.at
  have hle1 : Nat.min L.length D.length ≤ L.length := Nat.min_le_left _ _
  have hle2 : Nat.min L.length D.length ≤ D.length := Nat.min_le_right _ _
  generalize hm : Nat.min L.length D.length = m at *
  by_cases h0 : m = 0
  · subst h0
    refine wpList_copy_nothing hgd d s ST ST ho T E.under hsz dp sp D.length dCap L.length sCap hd hs hm ?_
    exact h w (by simpa using hown) ⟨rfl, rfl, rfl, Nat.le_refl _, fun _ _ _ => rfl⟩ rfl
  · rcases h2 with ⟨_, rfl⟩ | ⟨b, off, c, e1, h4, h5, h6⟩
    · simp at hle1; omega
    · obtain ⟨rfl, _, rfl⟩ := Value.slice.inj e1
      rcases hown.forms with ⟨_, rfl⟩ | ⟨g, cap, cur, e2, hb, hg, k2, k3, k4, k5⟩
      · simp at hle2; omega
      · obtain ⟨rfl, _, rfl⟩ := Value.slice.inj e2
        have hcl : (L.take m).flatten.length = m := by rw [flat1 (h1.take m), List.length_take]; omega
        have hcs : cur.size = dCap := by rw [k4, Nat.mul_one]
        rw [Nat.mul_one] at k5
        refine wpList_copy_own hgd d s ST ST ho T E.under hsz g 0 D.length dCap ⟨b, off, none⟩ L.length sCap hd hs cur T hg (L.take m).flatten (by rw [hcl, ← hm]) (fun j v hj => ?_) (by omega) (flat_one (h1.take m)) ?_
        · rw [Go.WideShapes.add_plain]
          rw [flat_take h1, Nat.mul_one] at hj
          have hjm : j < m := by
            have := (List.getElem?_eq_some_iff.1 hj).1
            rw [List.length_take] at this; omega
          rw [List.getElem?_take_of_lt hjm] at hj
          exact h6 j v hj
        · rw [hcl]
          have hnl : (L.take m ++ D.drop m).length = D.length := by rw [List.length_append, List.length_take, List.length_drop]; omega
          have hnew : OwnP (w.setRow g (cur.toList.take 0 ++ ((L.take m).flatten ++ cur.toList.drop (0 + (L.take m).flatten.length))).toArray) base T (.slice (some ⟨g, 0, none⟩) (L.take m ++ D.drop m).length dCap) 1 (L.take m ++ D.drop m) := by
            refine OwnP.of_form ((h1.take m).app (hown.1.drop m)) hb (setRow_heap w g _ _ T _ hg) (by rw [hnl]; exact k2) k3 ?_ ?_
            · generalize (L.take m).flatten = X at *
              simp; omega
            · rw [hnl, Nat.mul_one, List.flatten_append, flat1_drop hown.1, ← k5]
              simp only [List.take_zero, List.nil_append, Nat.zero_add]
              rw [List.take_append, hcl, List.take_of_length_le (by rw [hcl]; exact hle2), List.drop_take]
          rw [hnl, hcl] at hnew
          refine h _ hnew ⟨rfl, rfl, rfl, by simp [World.setRow], fun k hk hne => ?_⟩ (by simp [World.setRow])
          exact setRow_other w g k _ (by intro e; subst e; exact hne rfl)
theorem flat_rep (n : Nat) (z : Value) : (List.replicate n [z]).flatten = List.replicate n z := by
  induction n with
  | zero => rfl
  | succ n ih => rw [List.replicate_succ, List.flatten_cons, ih, List.replicate_succ]; rfl
/-- a row that was just made -/
theorem made_own (w : World) (T : TypeId) (z : Value) (n base : Nat) (h1 : z.oneCell' = true) (hb : base ≤ w.heap.size) (hm : n ≤ maxLen) : OwnP (w.alloc (.cells (madeCells #[z] n) T)) base T (.slice (some ⟨w.heap.size, 0, none⟩) n n) 1 (List.replicate n [z]) := by
  have hr : Rows1 1 (List.replicate n [z]) := by
    intro cs hm
    obtain ⟨_, rfl⟩ := List.mem_replicate.1 hm
    exact ⟨rfl, fun u hu => by rw [List.mem_singleton] at hu; subst hu; exact h1⟩
  have := OwnP.of_form (T := T) (base := base) (cap := n) hr hb (heap_alloc_new w (.cells (madeCells #[z] n) T)) (by simp) hm (by rw [size_madeCells]; omega) (by
    rw [toList_madeCells_one, flat_rep, List.length_replicate, Nat.mul_one, List.take_of_length_le (by simp)])
  rw [List.length_replicate] at this
  exact this
theorem made_at {w : World} {T : TypeId} {z : Value} {n base g : Nat} (h1 : z.oneCell' = true) (hg : w.heap.size = g) (hb : base ≤ g) (hm : n ≤ maxLen) : OwnP (w.alloc (.cells (madeCells #[z] n) T)) base T (.slice (some ⟨g, 0, none⟩) n n) 1 (List.replicate n [z]) := by
  subst hg; exact made_own w T z n base h1 hb hm
theorem grown3 {w w' : World} {o0 o1 o2 : Obj} {g : Nat} (h : World.grownBy (((w.alloc o0).alloc o1).alloc o2) w' (some g)) (hg : g = w.heap.size + 1 + 1) : Ext w w' ∧ w.heap.size + 1 + 1 + 1 ≤ w'.heap.size ∧ w'.heap[w.heap.size]? = some o0 ∧ w'.heap[w.heap.size + 1]? = some o1 := by
  obtain ⟨e, s, b0, b1, b2⟩ := blocks3 w o0 o1 o2
  have hs := h.size
  rw [s] at hs
  exact ⟨Below.grown e h (by rw [s]; omega) (fun b hb => by cases hb; omega), hs, (h.block _ (by rw [s]; omega) (by simp; omega)).trans b0, (h.block _ (by rw [s]; omega) (by simp; omega)).trans b1⟩
/-- a call at a world of which this is known -/
theorem at_gen {P : Program} {f : FuncId} {args : Array Value} {w : World} {Q : Ending → World → Prop} (F : World → Prop) (hF : F w) (h : ∀ W, F W → Calls P f args W Q) : Calls P f args w Q := h w hF
theorem grown_of_ext {w w' : World} (h : Ext w w') (row : Option Nat) : w.grownBy w' row := ⟨Below.os h, Below.tape h, Below.output h, Below.size h, fun k hk _ => Below.block h k hk⟩
theorem grown_turn {w w' : World} {row : Option Nat} {bs : List Nat} (h : w.grownBy w' row) (hr : ∀ b, row = some b → b ∈ bs) : Turn bs w w' := Turn.of_grown h fun b hb => .inl (hr b hb)
theorem grown_block {w w' : World} {row : Option Nat} {k : Nat} {o : Obj} (g : w.grownBy w' row) (h : w.heap[k]? = some o) (hn : row ≠ some k) : w'.heap[k]? = some o := by
  rw [g.block k (Array.getElem?_eq_some_iff.1 h).1 (fun e => hn e.symm)]; exact h
theorem own_any {q : Option Addr} {n c m d b : Nat} (h : (Value.slice q n c).ownBlock = some b) : (Value.slice q m d).ownBlock = some b := by cases q <;> exact h
theorem Ext.go {w w1 w2 : World} {B : Nat} (h : Ext w w1) (k : Below B w1 w2) (hB : w.heap.size ≤ B) : Ext w w2 := Below.trans h (Below.mono k hB)
end Go.Proofs.YtppkgfcobnknfaaGreatDoor
/- A whole block stored anew, cell by cell: the world behind it under one letter. -/
namespace Go.Proofs.YtppkgfcobnknfaaGreatDoor
open Go.RowKit
theorem wp_gen {P : Program} {c : Code} {Q : Exit → Act → World → Prop} {a : Act} {w : World} (F : World → Prop) (hF : F w) (h : ∀ W, F W → Code.wp P c Q a W) : Code.wp P c Q a w := h w hF
theorem list_gen {P : Program} {ops : Array Oper} {rest : List Oper} {Q : Exit → Act → World → Prop} {a : Act} {w : World} (F : World → Prop) (hF : F w) (h : ∀ W, F W → wpList P ops Q rest a W) : wpList P ops Q rest a w := h w hF
theorem wp_alloc1 {P : Program} {c : Code} {Q : Exit → Act → World → Prop} {a : Act} {w : World} {o : Obj} (h : ∀ W : World, Ext w W → W.heap.size = w.heap.size + 1 → W.heap[w.heap.size]? = some o → Code.wp P c Q a W) : Code.wp P c Q a (w.alloc o) :=
  h _ (blocks1 w o).1 (blocks1 w o).2.1 (blocks1 w o).2.2
theorem wp_alloc2 {P : Program} {c : Code} {Q : Exit → Act → World → Prop} {a : Act} {w : World} {o o' : Obj} (h : ∀ W : World, Ext w W → W.heap.size = w.heap.size + 1 + 1 → W.heap[w.heap.size]? = some o → W.heap[w.heap.size + 1]? = some o' → Code.wp P c Q a W) : Code.wp P c Q a ((w.alloc o).alloc o') :=
  h _ (blocks2 w o o').1 (blocks2 w o o').2.1 (blocks2 w o o').2.2.1 (blocks2 w o o').2.2.2
/-- one cell of a known block stored -/
theorem fill1 {w : World} {b i : Nat} {cs : Array Value} {T : TypeId} (h : w.heap[b]? = some (.cells cs T (0, 0))) (y : Value) : (w.setCell ⟨b, i, none⟩ y).heap[b]? = some (.cells (cs.setIfInBounds i y) T (0, 0)) ∧ Turn [b] w (w.setCell ⟨b, i, none⟩ y) ∧ (w.setCell ⟨b, i, none⟩ y).heap.size = w.heap.size :=
  ⟨Go.Lib.heap_setCell_same h y, (Turn.refl _ _).setCell (.inl (by simp)) _, by simp⟩
theorem calls_fill1 {P : Program} {f : FuncId} {args : Array Value} {w : World} {Q : Ending → World → Prop} {b i : Nat} {cs : Array Value} {T : TypeId} {y : Value} (h0 : w.heap[b]? = some (.cells cs T (0, 0))) (h : ∀ W : World, W.heap[b]? = some (.cells (cs.setIfInBounds i y) T (0, 0)) → Turn [b] w W → W.heap.size = w.heap.size → Calls P f args W Q) : Calls P f args (w.setCell ⟨b, i, none⟩ y) Q :=
  h _ (fill1 h0 y).1 (fill1 h0 y).2.1 (fill1 h0 y).2.2
theorem wp_fill1 {P : Program} {c : Code} {Q : Exit → Act → World → Prop} {a : Act} {w : World} {b i : Nat} {cs : Array Value} {T : TypeId} {y : Value} (h0 : w.heap[b]? = some (.cells cs T (0, 0))) (h : ∀ W : World, W.heap[b]? = some (.cells (cs.setIfInBounds i y) T (0, 0)) → Turn [b] w W → W.heap.size = w.heap.size → Code.wp P c Q a W) : Code.wp P c Q a (w.setCell ⟨b, i, none⟩ y) :=
  h _ (fill1 h0 y).1 (fill1 h0 y).2.1 (fill1 h0 y).2.2
theorem fill2 {w : World} {b : Nat} {x0 x1 : Value} {T : TypeId} (h : w.heap[b]? = some (.cells #[x0, x1] T (0, 0))) (y0 y1 : Value) : ((w.setCell ⟨b, 0, none⟩ y0).setCell ⟨b, 1, none⟩ y1).heap[b]? = some (.cells #[y0, y1] T (0, 0)) ∧ Turn [b] w ((w.setCell ⟨b, 0, none⟩ y0).setCell ⟨b, 1, none⟩ y1) ∧ ((w.setCell ⟨b, 0, none⟩ y0).setCell ⟨b, 1, none⟩ y1).heap.size = w.heap.size := by
  refine ⟨by simp [World.setCell, Array.getElem?_modify, h], ?_, by simp only [World.size_setCell]⟩
  iterate 2 refine Turn.setCell ?_ (.inl (by simp)) _
  exact Turn.refl _ _
theorem calls_fill2 {P : Program} {f : FuncId} {args : Array Value} {w : World} {Q : Ending → World → Prop} {b : Nat} {x0 x1 y0 y1 : Value} {T : TypeId} (h0 : w.heap[b]? = some (.cells #[x0, x1] T (0, 0))) (h : ∀ W : World, W.heap[b]? = some (.cells #[y0, y1] T (0, 0)) → Turn [b] w W → W.heap.size = w.heap.size → Calls P f args W Q) : Calls P f args ((w.setCell ⟨b, 0, none⟩ y0).setCell ⟨b, 1, none⟩ y1) Q :=
  h _ (fill2 h0 _ _).1 (fill2 h0 _ _).2.1 (fill2 h0 _ _).2.2
theorem wp_fill2 {P : Program} {c : Code} {Q : Exit → Act → World → Prop} {a : Act} {w : World} {b : Nat} {x0 x1 y0 y1 : Value} {T : TypeId} (h0 : w.heap[b]? = some (.cells #[x0, x1] T (0, 0))) (h : ∀ W : World, W.heap[b]? = some (.cells #[y0, y1] T (0, 0)) → Turn [b] w W → W.heap.size = w.heap.size → Code.wp P c Q a W) : Code.wp P c Q a ((w.setCell ⟨b, 0, none⟩ y0).setCell ⟨b, 1, none⟩ y1) :=
  h _ (fill2 h0 _ _).1 (fill2 h0 _ _).2.1 (fill2 h0 _ _).2.2
theorem fill3 {w : World} {b : Nat} {x0 x1 x2 : Value} {T : TypeId} (h : w.heap[b]? = some (.cells #[x0, x1, x2] T (0, 0))) (y0 y1 y2 : Value) : (((w.setCell ⟨b, 0, none⟩ y0).setCell ⟨b, 1, none⟩ y1).setCell ⟨b, 2, none⟩ y2).heap[b]? = some (.cells #[y0, y1, y2] T (0, 0)) ∧ Turn [b] w (((w.setCell ⟨b, 0, none⟩ y0).setCell ⟨b, 1, none⟩ y1).setCell ⟨b, 2, none⟩ y2) ∧ (((w.setCell ⟨b, 0, none⟩ y0).setCell ⟨b, 1, none⟩ y1).setCell ⟨b, 2, none⟩ y2).heap.size = w.heap.size := by
  refine ⟨by simp [World.setCell, Array.getElem?_modify, h], ?_, by simp only [World.size_setCell]⟩
  iterate 3 refine Turn.setCell ?_ (.inl (by simp)) _
  exact Turn.refl _ _
theorem calls_fill3 {P : Program} {f : FuncId} {args : Array Value} {w : World} {Q : Ending → World → Prop} {b : Nat} {x0 x1 x2 y0 y1 y2 : Value} {T : TypeId} (h0 : w.heap[b]? = some (.cells #[x0, x1, x2] T (0, 0))) (h : ∀ W : World, W.heap[b]? = some (.cells #[y0, y1, y2] T (0, 0)) → Turn [b] w W → W.heap.size = w.heap.size → Calls P f args W Q) : Calls P f args (((w.setCell ⟨b, 0, none⟩ y0).setCell ⟨b, 1, none⟩ y1).setCell ⟨b, 2, none⟩ y2) Q :=
  h _ (fill3 h0 _ _ _).1 (fill3 h0 _ _ _).2.1 (fill3 h0 _ _ _).2.2
theorem wp_fill3 {P : Program} {c : Code} {Q : Exit → Act → World → Prop} {a : Act} {w : World} {b : Nat} {x0 x1 x2 y0 y1 y2 : Value} {T : TypeId} (h0 : w.heap[b]? = some (.cells #[x0, x1, x2] T (0, 0))) (h : ∀ W : World, W.heap[b]? = some (.cells #[y0, y1, y2] T (0, 0)) → Turn [b] w W → W.heap.size = w.heap.size → Code.wp P c Q a W) : Code.wp P c Q a (((w.setCell ⟨b, 0, none⟩ y0).setCell ⟨b, 1, none⟩ y1).setCell ⟨b, 2, none⟩ y2) :=
  h _ (fill3 h0 _ _ _).1 (fill3 h0 _ _ _).2.1 (fill3 h0 _ _ _).2.2
theorem fill4 {w : World} {b : Nat} {x0 x1 x2 x3 : Value} {T : TypeId} (h : w.heap[b]? = some (.cells #[x0, x1, x2, x3] T (0, 0))) (y0 y1 y2 y3 : Value) : ((((w.setCell ⟨b, 0, none⟩ y0).setCell ⟨b, 1, none⟩ y1).setCell ⟨b, 2, none⟩ y2).setCell ⟨b, 3, none⟩ y3).heap[b]? = some (.cells #[y0, y1, y2, y3] T (0, 0)) ∧ Turn [b] w ((((w.setCell ⟨b, 0, none⟩ y0).setCell ⟨b, 1, none⟩ y1).setCell ⟨b, 2, none⟩ y2).setCell ⟨b, 3, none⟩ y3) ∧ ((((w.setCell ⟨b, 0, none⟩ y0).setCell ⟨b, 1, none⟩ y1).setCell ⟨b, 2, none⟩ y2).setCell ⟨b, 3, none⟩ y3).heap.size = w.heap.size := by
  refine ⟨by simp [World.setCell, Array.getElem?_modify, h], ?_, by simp only [World.size_setCell]⟩
  iterate 4 refine Turn.setCell ?_ (.inl (by simp)) _
  exact Turn.refl _ _
theorem calls_fill4 {P : Program} {f : FuncId} {args : Array Value} {w : World} {Q : Ending → World → Prop} {b : Nat} {x0 x1 x2 x3 y0 y1 y2 y3 : Value} {T : TypeId} (h0 : w.heap[b]? = some (.cells #[x0, x1, x2, x3] T (0, 0))) (h : ∀ W : World, W.heap[b]? = some (.cells #[y0, y1, y2, y3] T (0, 0)) → Turn [b] w W → W.heap.size = w.heap.size → Calls P f args W Q) : Calls P f args ((((w.setCell ⟨b, 0, none⟩ y0).setCell ⟨b, 1, none⟩ y1).setCell ⟨b, 2, none⟩ y2).setCell ⟨b, 3, none⟩ y3) Q :=
  h _ (fill4 h0 _ _ _ _).1 (fill4 h0 _ _ _ _).2.1 (fill4 h0 _ _ _ _).2.2
theorem wp_fill4 {P : Program} {c : Code} {Q : Exit → Act → World → Prop} {a : Act} {w : World} {b : Nat} {x0 x1 x2 x3 y0 y1 y2 y3 : Value} {T : TypeId} (h0 : w.heap[b]? = some (.cells #[x0, x1, x2, x3] T (0, 0))) (h : ∀ W : World, W.heap[b]? = some (.cells #[y0, y1, y2, y3] T (0, 0)) → Turn [b] w W → W.heap.size = w.heap.size → Code.wp P c Q a W) : Code.wp P c Q a ((((w.setCell ⟨b, 0, none⟩ y0).setCell ⟨b, 1, none⟩ y1).setCell ⟨b, 2, none⟩ y2).setCell ⟨b, 3, none⟩ y3) :=
  h _ (fill4 h0 _ _ _ _).1 (fill4 h0 _ _ _ _).2.1 (fill4 h0 _ _ _ _).2.2
theorem fill5 {w : World} {b : Nat} {x0 x1 x2 x3 x4 : Value} {T : TypeId} (h : w.heap[b]? = some (.cells #[x0, x1, x2, x3, x4] T (0, 0))) (y0 y1 y2 y3 y4 : Value) : (((((w.setCell ⟨b, 0, none⟩ y0).setCell ⟨b, 1, none⟩ y1).setCell ⟨b, 2, none⟩ y2).setCell ⟨b, 3, none⟩ y3).setCell ⟨b, 4, none⟩ y4).heap[b]? = some (.cells #[y0, y1, y2, y3, y4] T (0, 0)) ∧ Turn [b] w (((((w.setCell ⟨b, 0, none⟩ y0).setCell ⟨b, 1, none⟩ y1).setCell ⟨b, 2, none⟩ y2).setCell ⟨b, 3, none⟩ y3).setCell ⟨b, 4, none⟩ y4) ∧ (((((w.setCell ⟨b, 0, none⟩ y0).setCell ⟨b, 1, none⟩ y1).setCell ⟨b, 2, none⟩ y2).setCell ⟨b, 3, none⟩ y3).setCell ⟨b, 4, none⟩ y4).heap.size = w.heap.size := by
  refine ⟨by simp [World.setCell, Array.getElem?_modify, h], ?_, by simp only [World.size_setCell]⟩
  iterate 5 refine Turn.setCell ?_ (.inl (by simp)) _
  exact Turn.refl _ _
theorem calls_fill5 {P : Program} {f : FuncId} {args : Array Value} {w : World} {Q : Ending → World → Prop} {b : Nat} {x0 x1 x2 x3 x4 y0 y1 y2 y3 y4 : Value} {T : TypeId} (h0 : w.heap[b]? = some (.cells #[x0, x1, x2, x3, x4] T (0, 0))) (h : ∀ W : World, W.heap[b]? = some (.cells #[y0, y1, y2, y3, y4] T (0, 0)) → Turn [b] w W → W.heap.size = w.heap.size → Calls P f args W Q) : Calls P f args (((((w.setCell ⟨b, 0, none⟩ y0).setCell ⟨b, 1, none⟩ y1).setCell ⟨b, 2, none⟩ y2).setCell ⟨b, 3, none⟩ y3).setCell ⟨b, 4, none⟩ y4) Q :=
  h _ (fill5 h0 _ _ _ _ _).1 (fill5 h0 _ _ _ _ _).2.1 (fill5 h0 _ _ _ _ _).2.2
theorem wp_fill5 {P : Program} {c : Code} {Q : Exit → Act → World → Prop} {a : Act} {w : World} {b : Nat} {x0 x1 x2 x3 x4 y0 y1 y2 y3 y4 : Value} {T : TypeId} (h0 : w.heap[b]? = some (.cells #[x0, x1, x2, x3, x4] T (0, 0))) (h : ∀ W : World, W.heap[b]? = some (.cells #[y0, y1, y2, y3, y4] T (0, 0)) → Turn [b] w W → W.heap.size = w.heap.size → Code.wp P c Q a W) : Code.wp P c Q a (((((w.setCell ⟨b, 0, none⟩ y0).setCell ⟨b, 1, none⟩ y1).setCell ⟨b, 2, none⟩ y2).setCell ⟨b, 3, none⟩ y3).setCell ⟨b, 4, none⟩ y4) :=
  h _ (fill5 h0 _ _ _ _ _).1 (fill5 h0 _ _ _ _ _).2.1 (fill5 h0 _ _ _ _ _).2.2
theorem fill6 {w : World} {b : Nat} {x0 x1 x2 x3 x4 x5 : Value} {T : TypeId} (h : w.heap[b]? = some (.cells #[x0, x1, x2, x3, x4, x5] T (0, 0))) (y0 y1 y2 y3 y4 y5 : Value) : ((((((w.setCell ⟨b, 0, none⟩ y0).setCell ⟨b, 1, none⟩ y1).setCell ⟨b, 2, none⟩ y2).setCell ⟨b, 3, none⟩ y3).setCell ⟨b, 4, none⟩ y4).setCell ⟨b, 5, none⟩ y5).heap[b]? = some (.cells #[y0, y1, y2, y3, y4, y5] T (0, 0)) ∧ Turn [b] w ((((((w.setCell ⟨b, 0, none⟩ y0).setCell ⟨b, 1, none⟩ y1).setCell ⟨b, 2, none⟩ y2).setCell ⟨b, 3, none⟩ y3).setCell ⟨b, 4, none⟩ y4).setCell ⟨b, 5, none⟩ y5) ∧ ((((((w.setCell ⟨b, 0, none⟩ y0).setCell ⟨b, 1, none⟩ y1).setCell ⟨b, 2, none⟩ y2).setCell ⟨b, 3, none⟩ y3).setCell ⟨b, 4, none⟩ y4).setCell ⟨b, 5, none⟩ y5).heap.size = w.heap.size := by
  refine ⟨by simp [World.setCell, Array.getElem?_modify, h], ?_, by simp only [World.size_setCell]⟩
  iterate 6 refine Turn.setCell ?_ (.inl (by simp)) _
  exact Turn.refl _ _
theorem calls_fill6 {P : Program} {f : FuncId} {args : Array Value} {w : World} {Q : Ending → World → Prop} {b : Nat} {x0 x1 x2 x3 x4 x5 y0 y1 y2 y3 y4 y5 : Value} {T : TypeId} (h0 : w.heap[b]? = some (.cells #[x0, x1, x2, x3, x4, x5] T (0, 0))) (h : ∀ W : World, W.heap[b]? = some (.cells #[y0, y1, y2, y3, y4, y5] T (0, 0)) → Turn [b] w W → W.heap.size = w.heap.size → Calls P f args W Q) : Calls P f args ((((((w.setCell ⟨b, 0, none⟩ y0).setCell ⟨b, 1, none⟩ y1).setCell ⟨b, 2, none⟩ y2).setCell ⟨b, 3, none⟩ y3).setCell ⟨b, 4, none⟩ y4).setCell ⟨b, 5, none⟩ y5) Q :=
  h _ (fill6 h0 _ _ _ _ _ _).1 (fill6 h0 _ _ _ _ _ _).2.1 (fill6 h0 _ _ _ _ _ _).2.2
theorem wp_fill6 {P : Program} {c : Code} {Q : Exit → Act → World → Prop} {a : Act} {w : World} {b : Nat} {x0 x1 x2 x3 x4 x5 y0 y1 y2 y3 y4 y5 : Value} {T : TypeId} (h0 : w.heap[b]? = some (.cells #[x0, x1, x2, x3, x4, x5] T (0, 0))) (h : ∀ W : World, W.heap[b]? = some (.cells #[y0, y1, y2, y3, y4, y5] T (0, 0)) → Turn [b] w W → W.heap.size = w.heap.size → Code.wp P c Q a W) : Code.wp P c Q a ((((((w.setCell ⟨b, 0, none⟩ y0).setCell ⟨b, 1, none⟩ y1).setCell ⟨b, 2, none⟩ y2).setCell ⟨b, 3, none⟩ y3).setCell ⟨b, 4, none⟩ y4).setCell ⟨b, 5, none⟩ y5) :=
  h _ (fill6 h0 _ _ _ _ _ _).1 (fill6 h0 _ _ _ _ _ _).2.1 (fill6 h0 _ _ _ _ _ _).2.2
theorem fill7 {w : World} {b : Nat} {x0 x1 x2 x3 x4 x5 x6 : Value} {T : TypeId} (h : w.heap[b]? = some (.cells #[x0, x1, x2, x3, x4, x5, x6] T (0, 0))) (y0 y1 y2 y3 y4 y5 y6 : Value) : (((((((w.setCell ⟨b, 0, none⟩ y0).setCell ⟨b, 1, none⟩ y1).setCell ⟨b, 2, none⟩ y2).setCell ⟨b, 3, none⟩ y3).setCell ⟨b, 4, none⟩ y4).setCell ⟨b, 5, none⟩ y5).setCell ⟨b, 6, none⟩ y6).heap[b]? = some (.cells #[y0, y1, y2, y3, y4, y5, y6] T (0, 0)) ∧ Turn [b] w (((((((w.setCell ⟨b, 0, none⟩ y0).setCell ⟨b, 1, none⟩ y1).setCell ⟨b, 2, none⟩ y2).setCell ⟨b, 3, none⟩ y3).setCell ⟨b, 4, none⟩ y4).setCell ⟨b, 5, none⟩ y5).setCell ⟨b, 6, none⟩ y6) ∧ (((((((w.setCell ⟨b, 0, none⟩ y0).setCell ⟨b, 1, none⟩ y1).setCell ⟨b, 2, none⟩ y2).setCell ⟨b, 3, none⟩ y3).setCell ⟨b, 4, none⟩ y4).setCell ⟨b, 5, none⟩ y5).setCell ⟨b, 6, none⟩ y6).heap.size = w.heap.size := by
  refine ⟨by simp [World.setCell, Array.getElem?_modify, h], ?_, by simp only [World.size_setCell]⟩
  iterate 7 refine Turn.setCell ?_ (.inl (by simp)) _
  exact Turn.refl _ _
theorem calls_fill7 {P : Program} {f : FuncId} {args : Array Value} {w : World} {Q : Ending → World → Prop} {b : Nat} {x0 x1 x2 x3 x4 x5 x6 y0 y1 y2 y3 y4 y5 y6 : Value} {T : TypeId} (h0 : w.heap[b]? = some (.cells #[x0, x1, x2, x3, x4, x5, x6] T (0, 0))) (h : ∀ W : World, W.heap[b]? = some (.cells #[y0, y1, y2, y3, y4, y5, y6] T (0, 0)) → Turn [b] w W → W.heap.size = w.heap.size → Calls P f args W Q) : Calls P f args (((((((w.setCell ⟨b, 0, none⟩ y0).setCell ⟨b, 1, none⟩ y1).setCell ⟨b, 2, none⟩ y2).setCell ⟨b, 3, none⟩ y3).setCell ⟨b, 4, none⟩ y4).setCell ⟨b, 5, none⟩ y5).setCell ⟨b, 6, none⟩ y6) Q :=
  h _ (fill7 h0 _ _ _ _ _ _ _).1 (fill7 h0 _ _ _ _ _ _ _).2.1 (fill7 h0 _ _ _ _ _ _ _).2.2
theorem wp_fill7 {P : Program} {c : Code} {Q : Exit → Act → World → Prop} {a : Act} {w : World} {b : Nat} {x0 x1 x2 x3 x4 x5 x6 y0 y1 y2 y3 y4 y5 y6 : Value} {T : TypeId} (h0 : w.heap[b]? = some (.cells #[x0, x1, x2, x3, x4, x5, x6] T (0, 0))) (h : ∀ W : World, W.heap[b]? = some (.cells #[y0, y1, y2, y3, y4, y5, y6] T (0, 0)) → Turn [b] w W → W.heap.size = w.heap.size → Code.wp P c Q a W) : Code.wp P c Q a (((((((w.setCell ⟨b, 0, none⟩ y0).setCell ⟨b, 1, none⟩ y1).setCell ⟨b, 2, none⟩ y2).setCell ⟨b, 3, none⟩ y3).setCell ⟨b, 4, none⟩ y4).setCell ⟨b, 5, none⟩ y5).setCell ⟨b, 6, none⟩ y6) :=
  h _ (fill7 h0 _ _ _ _ _ _ _).1 (fill7 h0 _ _ _ _ _ _ _).2.1 (fill7 h0 _ _ _ _ _ _ _).2.2
theorem fill8 {w : World} {b : Nat} {x0 x1 x2 x3 x4 x5 x6 x7 : Value} {T : TypeId} (h : w.heap[b]? = some (.cells #[x0, x1, x2, x3, x4, x5, x6, x7] T (0, 0))) (y0 y1 y2 y3 y4 y5 y6 y7 : Value) : ((((((((w.setCell ⟨b, 0, none⟩ y0).setCell ⟨b, 1, none⟩ y1).setCell ⟨b, 2, none⟩ y2).setCell ⟨b, 3, none⟩ y3).setCell ⟨b, 4, none⟩ y4).setCell ⟨b, 5, none⟩ y5).setCell ⟨b, 6, none⟩ y6).setCell ⟨b, 7, none⟩ y7).heap[b]? = some (.cells #[y0, y1, y2, y3, y4, y5, y6, y7] T (0, 0)) ∧ Turn [b] w ((((((((w.setCell ⟨b, 0, none⟩ y0).setCell ⟨b, 1, none⟩ y1).setCell ⟨b, 2, none⟩ y2).setCell ⟨b, 3, none⟩ y3).setCell ⟨b, 4, none⟩ y4).setCell ⟨b, 5, none⟩ y5).setCell ⟨b, 6, none⟩ y6).setCell ⟨b, 7, none⟩ y7) ∧ ((((((((w.setCell ⟨b, 0, none⟩ y0).setCell ⟨b, 1, none⟩ y1).setCell ⟨b, 2, none⟩ y2).setCell ⟨b, 3, none⟩ y3).setCell ⟨b, 4, none⟩ y4).setCell ⟨b, 5, none⟩ y5).setCell ⟨b, 6, none⟩ y6).setCell ⟨b, 7, none⟩ y7).heap.size = w.heap.size := by
  refine ⟨by simp [World.setCell, Array.getElem?_modify, h], ?_, by simp only [World.size_setCell]⟩
  iterate 8 refine Turn.setCell ?_ (.inl (by simp)) _
  exact Turn.refl _ _
theorem calls_fill8 {P : Program} {f : FuncId} {args : Array Value} {w : World} {Q : Ending → World → Prop} {b : Nat} {x0 x1 x2 x3 x4 x5 x6 x7 y0 y1 y2 y3 y4 y5 y6 y7 : Value} {T : TypeId} (h0 : w.heap[b]? = some (.cells #[x0, x1, x2, x3, x4, x5, x6, x7] T (0, 0))) (h : ∀ W : World, W.heap[b]? = some (.cells #[y0, y1, y2, y3, y4, y5, y6, y7] T (0, 0)) → Turn [b] w W → W.heap.size = w.heap.size → Calls P f args W Q) : Calls P f args ((((((((w.setCell ⟨b, 0, none⟩ y0).setCell ⟨b, 1, none⟩ y1).setCell ⟨b, 2, none⟩ y2).setCell ⟨b, 3, none⟩ y3).setCell ⟨b, 4, none⟩ y4).setCell ⟨b, 5, none⟩ y5).setCell ⟨b, 6, none⟩ y6).setCell ⟨b, 7, none⟩ y7) Q :=
  h _ (fill8 h0 _ _ _ _ _ _ _ _).1 (fill8 h0 _ _ _ _ _ _ _ _).2.1 (fill8 h0 _ _ _ _ _ _ _ _).2.2
theorem wp_fill8 {P : Program} {c : Code} {Q : Exit → Act → World → Prop} {a : Act} {w : World} {b : Nat} {x0 x1 x2 x3 x4 x5 x6 x7 y0 y1 y2 y3 y4 y5 y6 y7 : Value} {T : TypeId} (h0 : w.heap[b]? = some (.cells #[x0, x1, x2, x3, x4, x5, x6, x7] T (0, 0))) (h : ∀ W : World, W.heap[b]? = some (.cells #[y0, y1, y2, y3, y4, y5, y6, y7] T (0, 0)) → Turn [b] w W → W.heap.size = w.heap.size → Code.wp P c Q a W) : Code.wp P c Q a ((((((((w.setCell ⟨b, 0, none⟩ y0).setCell ⟨b, 1, none⟩ y1).setCell ⟨b, 2, none⟩ y2).setCell ⟨b, 3, none⟩ y3).setCell ⟨b, 4, none⟩ y4).setCell ⟨b, 5, none⟩ y5).setCell ⟨b, 6, none⟩ y6).setCell ⟨b, 7, none⟩ y7) :=
  h _ (fill8 h0 _ _ _ _ _ _ _ _).1 (fill8 h0 _ _ _ _ _ _ _ _).2.1 (fill8 h0 _ _ _ _ _ _ _ _).2.2
theorem fill9 {w : World} {b : Nat} {x0 x1 x2 x3 x4 x5 x6 x7 x8 : Value} {T : TypeId} (h : w.heap[b]? = some (.cells #[x0, x1, x2, x3, x4, x5, x6, x7, x8] T (0, 0))) (y0 y1 y2 y3 y4 y5 y6 y7 y8 : Value) : (((((((((w.setCell ⟨b, 0, none⟩ y0).setCell ⟨b, 1, none⟩ y1).setCell ⟨b, 2, none⟩ y2).setCell ⟨b, 3, none⟩ y3).setCell ⟨b, 4, none⟩ y4).setCell ⟨b, 5, none⟩ y5).setCell ⟨b, 6, none⟩ y6).setCell ⟨b, 7, none⟩ y7).setCell ⟨b, 8, none⟩ y8).heap[b]? = some (.cells #[y0, y1, y2, y3, y4, y5, y6, y7, y8] T (0, 0)) ∧ Turn [b] w (((((((((w.setCell ⟨b, 0, none⟩ y0).setCell ⟨b, 1, none⟩ y1).setCell ⟨b, 2, none⟩ y2).setCell ⟨b, 3, none⟩ y3).setCell ⟨b, 4, none⟩ y4).setCell ⟨b, 5, none⟩ y5).setCell ⟨b, 6, none⟩ y6).setCell ⟨b, 7, none⟩ y7).setCell ⟨b, 8, none⟩ y8) ∧ (((((((((w.setCell ⟨b, 0, none⟩ y0).setCell ⟨b, 1, none⟩ y1).setCell ⟨b, 2, none⟩ y2).setCell ⟨b, 3, none⟩ y3).setCell ⟨b, 4, none⟩ y4).setCell ⟨b, 5, none⟩ y5).setCell ⟨b, 6, none⟩ y6).setCell ⟨b, 7, none⟩ y7).setCell ⟨b, 8, none⟩ y8).heap.size = w.heap.size := by
  refine ⟨by simp [World.setCell, Array.getElem?_modify, h], ?_, by simp only [World.size_setCell]⟩
  iterate 9 refine Turn.setCell ?_ (.inl (by simp)) _
  exact Turn.refl _ _
theorem calls_fill9 {P : Program} {f : FuncId} {args : Array Value} {w : World} {Q : Ending → World → Prop} {b : Nat} {x0 x1 x2 x3 x4 x5 x6 x7 x8 y0 y1 y2 y3 y4 y5 y6 y7 y8 : Value} {T : TypeId} (h0 : w.heap[b]? = some (.cells #[x0, x1, x2, x3, x4, x5, x6, x7, x8] T (0, 0))) (h : ∀ W : World, W.heap[b]? = some (.cells #[y0, y1, y2, y3, y4, y5, y6, y7, y8] T (0, 0)) → Turn [b] w W → W.heap.size = w.heap.size → Calls P f args W Q) : Calls P f args (((((((((w.setCell ⟨b, 0, none⟩ y0).setCell ⟨b, 1, none⟩ y1).setCell ⟨b, 2, none⟩ y2).setCell ⟨b, 3, none⟩ y3).setCell ⟨b, 4, none⟩ y4).setCell ⟨b, 5, none⟩ y5).setCell ⟨b, 6, none⟩ y6).setCell ⟨b, 7, none⟩ y7).setCell ⟨b, 8, none⟩ y8) Q :=
  h _ (fill9 h0 _ _ _ _ _ _ _ _ _).1 (fill9 h0 _ _ _ _ _ _ _ _ _).2.1 (fill9 h0 _ _ _ _ _ _ _ _ _).2.2
theorem wp_fill9 {P : Program} {c : Code} {Q : Exit → Act → World → Prop} {a : Act} {w : World} {b : Nat} {x0 x1 x2 x3 x4 x5 x6 x7 x8 y0 y1 y2 y3 y4 y5 y6 y7 y8 : Value} {T : TypeId} (h0 : w.heap[b]? = some (.cells #[x0, x1, x2, x3, x4, x5, x6, x7, x8] T (0, 0))) (h : ∀ W : World, W.heap[b]? = some (.cells #[y0, y1, y2, y3, y4, y5, y6, y7, y8] T (0, 0)) → Turn [b] w W → W.heap.size = w.heap.size → Code.wp P c Q a W) : Code.wp P c Q a (((((((((w.setCell ⟨b, 0, none⟩ y0).setCell ⟨b, 1, none⟩ y1).setCell ⟨b, 2, none⟩ y2).setCell ⟨b, 3, none⟩ y3).setCell ⟨b, 4, none⟩ y4).setCell ⟨b, 5, none⟩ y5).setCell ⟨b, 6, none⟩ y6).setCell ⟨b, 7, none⟩ y7).setCell ⟨b, 8, none⟩ y8) :=
  h _ (fill9 h0 _ _ _ _ _ _ _ _ _).1 (fill9 h0 _ _ _ _ _ _ _ _ _).2.1 (fill9 h0 _ _ _ _ _ _ _ _ _).2.2
theorem fill10 {w : World} {b : Nat} {x0 x1 x2 x3 x4 x5 x6 x7 x8 x9 : Value} {T : TypeId} (h : w.heap[b]? = some (.cells #[x0, x1, x2, x3, x4, x5, x6, x7, x8, x9] T (0, 0))) (y0 y1 y2 y3 y4 y5 y6 y7 y8 y9 : Value) : ((((((((((w.setCell ⟨b, 0, none⟩ y0).setCell ⟨b, 1, none⟩ y1).setCell ⟨b, 2, none⟩ y2).setCell ⟨b, 3, none⟩ y3).setCell ⟨b, 4, none⟩ y4).setCell ⟨b, 5, none⟩ y5).setCell ⟨b, 6, none⟩ y6).setCell ⟨b, 7, none⟩ y7).setCell ⟨b, 8, none⟩ y8).setCell ⟨b, 9, none⟩ y9).heap[b]? = some (.cells #[y0, y1, y2, y3, y4, y5, y6, y7, y8, y9] T (0, 0)) ∧ Turn [b] w ((((((((((w.setCell ⟨b, 0, none⟩ y0).setCell ⟨b, 1, none⟩ y1).setCell ⟨b, 2, none⟩ y2).setCell ⟨b, 3, none⟩ y3).setCell ⟨b, 4, none⟩ y4).setCell ⟨b, 5, none⟩ y5).setCell ⟨b, 6, none⟩ y6).setCell ⟨b, 7, none⟩ y7).setCell ⟨b, 8, none⟩ y8).setCell ⟨b, 9, none⟩ y9) ∧ ((((((((((w.setCell ⟨b, 0, none⟩ y0).setCell ⟨b, 1, none⟩ y1).setCell ⟨b, 2, none⟩ y2).setCell ⟨b, 3, none⟩ y3).setCell ⟨b, 4, none⟩ y4).setCell ⟨b, 5, none⟩ y5).setCell ⟨b, 6, none⟩ y6).setCell ⟨b, 7, none⟩ y7).setCell ⟨b, 8, none⟩ y8).setCell ⟨b, 9, none⟩ y9).heap.size = w.heap.size := by
  refine ⟨by simp [World.setCell, Array.getElem?_modify, h], ?_, by simp only [World.size_setCell]⟩
  iterate 10 refine Turn.setCell ?_ (.inl (by simp)) _
  exact Turn.refl _ _
theorem calls_fill10 {P : Program} {f : FuncId} {args : Array Value} {w : World} {Q : Ending → World → Prop} {b : Nat} {x0 x1 x2 x3 x4 x5 x6 x7 x8 x9 y0 y1 y2 y3 y4 y5 y6 y7 y8 y9 : Value} {T : TypeId} (h0 : w.heap[b]? = some (.cells #[x0, x1, x2, x3, x4, x5, x6, x7, x8, x9] T (0, 0))) (h : ∀ W : World, W.heap[b]? = some (.cells #[y0, y1, y2, y3, y4, y5, y6, y7, y8, y9] T (0, 0)) → Turn [b] w W → W.heap.size = w.heap.size → Calls P f args W Q) : Calls P f args ((((((((((w.setCell ⟨b, 0, none⟩ y0).setCell ⟨b, 1, none⟩ y1).setCell ⟨b, 2, none⟩ y2).setCell ⟨b, 3, none⟩ y3).setCell ⟨b, 4, none⟩ y4).setCell ⟨b, 5, none⟩ y5).setCell ⟨b, 6, none⟩ y6).setCell ⟨b, 7, none⟩ y7).setCell ⟨b, 8, none⟩ y8).setCell ⟨b, 9, none⟩ y9) Q :=
  h _ (fill10 h0 _ _ _ _ _ _ _ _ _ _).1 (fill10 h0 _ _ _ _ _ _ _ _ _ _).2.1 (fill10 h0 _ _ _ _ _ _ _ _ _ _).2.2
theorem wp_fill10 {P : Program} {c : Code} {Q : Exit → Act → World → Prop} {a : Act} {w : World} {b : Nat} {x0 x1 x2 x3 x4 x5 x6 x7 x8 x9 y0 y1 y2 y3 y4 y5 y6 y7 y8 y9 : Value} {T : TypeId} (h0 : w.heap[b]? = some (.cells #[x0, x1, x2, x3, x4, x5, x6, x7, x8, x9] T (0, 0))) (h : ∀ W : World, W.heap[b]? = some (.cells #[y0, y1, y2, y3, y4, y5, y6, y7, y8, y9] T (0, 0)) → Turn [b] w W → W.heap.size = w.heap.size → Code.wp P c Q a W) : Code.wp P c Q a ((((((((((w.setCell ⟨b, 0, none⟩ y0).setCell ⟨b, 1, none⟩ y1).setCell ⟨b, 2, none⟩ y2).setCell ⟨b, 3, none⟩ y3).setCell ⟨b, 4, none⟩ y4).setCell ⟨b, 5, none⟩ y5).setCell ⟨b, 6, none⟩ y6).setCell ⟨b, 7, none⟩ y7).setCell ⟨b, 8, none⟩ y8).setCell ⟨b, 9, none⟩ y9) :=
  h _ (fill10 h0 _ _ _ _ _ _ _ _ _ _).1 (fill10 h0 _ _ _ _ _ _ _ _ _ _).2.1 (fill10 h0 _ _ _ _ _ _ _ _ _ _).2.2
theorem fill11 {w : World} {b : Nat} {x0 x1 x2 x3 x4 x5 x6 x7 x8 x9 x10 : Value} {T : TypeId} (h : w.heap[b]? = some (.cells #[x0, x1, x2, x3, x4, x5, x6, x7, x8, x9, x10] T (0, 0))) (y0 y1 y2 y3 y4 y5 y6 y7 y8 y9 y10 : Value) : (((((((((((w.setCell ⟨b, 0, none⟩ y0).setCell ⟨b, 1, none⟩ y1).setCell ⟨b, 2, none⟩ y2).setCell ⟨b, 3, none⟩ y3).setCell ⟨b, 4, none⟩ y4).setCell ⟨b, 5, none⟩ y5).setCell ⟨b, 6, none⟩ y6).setCell ⟨b, 7, none⟩ y7).setCell ⟨b, 8, none⟩ y8).setCell ⟨b, 9, none⟩ y9).setCell ⟨b, 10, none⟩ y10).heap[b]? = some (.cells #[y0, y1, y2, y3, y4, y5, y6, y7, y8, y9, y10] T (0, 0)) ∧ Turn [b] w (((((((((((w.setCell ⟨b, 0, none⟩ y0).setCell ⟨b, 1, none⟩ y1).setCell ⟨b, 2, none⟩ y2).setCell ⟨b, 3, none⟩ y3).setCell ⟨b, 4, none⟩ y4).setCell ⟨b, 5, none⟩ y5).setCell ⟨b, 6, none⟩ y6).setCell ⟨b, 7, none⟩ y7).setCell ⟨b, 8, none⟩ y8).setCell ⟨b, 9, none⟩ y9).setCell ⟨b, 10, none⟩ y10) ∧ (((((((((((w.setCell ⟨b, 0, none⟩ y0).setCell ⟨b, 1, none⟩ y1).setCell ⟨b, 2, none⟩ y2).setCell ⟨b, 3, none⟩ y3).setCell ⟨b, 4, none⟩ y4).setCell ⟨b, 5, none⟩ y5).setCell ⟨b, 6, none⟩ y6).setCell ⟨b, 7, none⟩ y7).setCell ⟨b, 8, none⟩ y8).setCell ⟨b, 9, none⟩ y9).setCell ⟨b, 10, none⟩ y10).heap.size = w.heap.size := by
  refine ⟨by simp [World.setCell, Array.getElem?_modify, h], ?_, by simp only [World.size_setCell]⟩
  iterate 11 refine Turn.setCell ?_ (.inl (by simp)) _
  exact Turn.refl _ _
theorem calls_fill11 {P : Program} {f : FuncId} {args : Array Value} {w : World} {Q : Ending → World → Prop} {b : Nat} {x0 x1 x2 x3 x4 x5 x6 x7 x8 x9 x10 y0 y1 y2 y3 y4 y5 y6 y7 y8 y9 y10 : Value} {T : TypeId} (h0 : w.heap[b]? = some (.cells #[x0, x1, x2, x3, x4, x5, x6, x7, x8, x9, x10] T (0, 0))) (h : ∀ W : World, W.heap[b]? = some (.cells #[y0, y1, y2, y3, y4, y5, y6, y7, y8, y9, y10] T (0, 0)) → Turn [b] w W → W.heap.size = w.heap.size → Calls P f args W Q) : Calls P f args (((((((((((w.setCell ⟨b, 0, none⟩ y0).setCell ⟨b, 1, none⟩ y1).setCell ⟨b, 2, none⟩ y2).setCell ⟨b, 3, none⟩ y3).setCell ⟨b, 4, none⟩ y4).setCell ⟨b, 5, none⟩ y5).setCell ⟨b, 6, none⟩ y6).setCell ⟨b, 7, none⟩ y7).setCell ⟨b, 8, none⟩ y8).setCell ⟨b, 9, none⟩ y9).setCell ⟨b, 10, none⟩ y10) Q :=
  h _ (fill11 h0 _ _ _ _ _ _ _ _ _ _ _).1 (fill11 h0 _ _ _ _ _ _ _ _ _ _ _).2.1 (fill11 h0 _ _ _ _ _ _ _ _ _ _ _).2.2
theorem wp_fill11 {P : Program} {c : Code} {Q : Exit → Act → World → Prop} {a : Act} {w : World} {b : Nat} {x0 x1 x2 x3 x4 x5 x6 x7 x8 x9 x10 y0 y1 y2 y3 y4 y5 y6 y7 y8 y9 y10 : Value} {T : TypeId} (h0 : w.heap[b]? = some (.cells #[x0, x1, x2, x3, x4, x5, x6, x7, x8, x9, x10] T (0, 0))) (h : ∀ W : World, W.heap[b]? = some (.cells #[y0, y1, y2, y3, y4, y5, y6, y7, y8, y9, y10] T (0, 0)) → Turn [b] w W → W.heap.size = w.heap.size → Code.wp P c Q a W) : Code.wp P c Q a (((((((((((w.setCell ⟨b, 0, none⟩ y0).setCell ⟨b, 1, none⟩ y1).setCell ⟨b, 2, none⟩ y2).setCell ⟨b, 3, none⟩ y3).setCell ⟨b, 4, none⟩ y4).setCell ⟨b, 5, none⟩ y5).setCell ⟨b, 6, none⟩ y6).setCell ⟨b, 7, none⟩ y7).setCell ⟨b, 8, none⟩ y8).setCell ⟨b, 9, none⟩ y9).setCell ⟨b, 10, none⟩ y10) :=
  h _ (fill11 h0 _ _ _ _ _ _ _ _ _ _ _).1 (fill11 h0 _ _ _ _ _ _ _ _ _ _ _).2.1 (fill11 h0 _ _ _ _ _ _ _ _ _ _ _).2.2
theorem fill12 {w : World} {b : Nat} {x0 x1 x2 x3 x4 x5 x6 x7 x8 x9 x10 x11 : Value} {T : TypeId} (h : w.heap[b]? = some (.cells #[x0, x1, x2, x3, x4, x5, x6, x7, x8, x9, x10, x11] T (0, 0))) (y0 y1 y2 y3 y4 y5 y6 y7 y8 y9 y10 y11 : Value) : ((((((((((((w.setCell ⟨b, 0, none⟩ y0).setCell ⟨b, 1, none⟩ y1).setCell ⟨b, 2, none⟩ y2).setCell ⟨b, 3, none⟩ y3).setCell ⟨b, 4, none⟩ y4).setCell ⟨b, 5, none⟩ y5).setCell ⟨b, 6, none⟩ y6).setCell ⟨b, 7, none⟩ y7).setCell ⟨b, 8, none⟩ y8).setCell ⟨b, 9, none⟩ y9).setCell ⟨b, 10, none⟩ y10).setCell ⟨b, 11, none⟩ y11).heap[b]? = some (.cells #[y0, y1, y2, y3, y4, y5, y6, y7, y8, y9, y10, y11] T (0, 0)) ∧ Turn [b] w ((((((((((((w.setCell ⟨b, 0, none⟩ y0).setCell ⟨b, 1, none⟩ y1).setCell ⟨b, 2, none⟩ y2).setCell ⟨b, 3, none⟩ y3).setCell ⟨b, 4, none⟩ y4).setCell ⟨b, 5, none⟩ y5).setCell ⟨b, 6, none⟩ y6).setCell ⟨b, 7, none⟩ y7).setCell ⟨b, 8, none⟩ y8).setCell ⟨b, 9, none⟩ y9).setCell ⟨b, 10, none⟩ y10).setCell ⟨b, 11, none⟩ y11) ∧ ((((((((((((w.setCell ⟨b, 0, none⟩ y0).setCell ⟨b, 1, none⟩ y1).setCell ⟨b, 2, none⟩ y2).setCell ⟨b, 3, none⟩ y3).setCell ⟨b, 4, none⟩ y4).setCell ⟨b, 5, none⟩ y5).setCell ⟨b, 6, none⟩ y6).setCell ⟨b, 7, none⟩ y7).setCell ⟨b, 8, none⟩ y8).setCell ⟨b, 9, none⟩ y9).setCell ⟨b, 10, none⟩ y10).setCell ⟨b, 11, none⟩ y11).heap.size = w.heap.size := by
  refine ⟨by simp [World.setCell, Array.getElem?_modify, h], ?_, by simp only [World.size_setCell]⟩
  iterate 12 refine Turn.setCell ?_ (.inl (by simp)) _
  exact Turn.refl _ _
theorem calls_fill12 {P : Program} {f : FuncId} {args : Array Value} {w : World} {Q : Ending → World → Prop} {b : Nat} {x0 x1 x2 x3 x4 x5 x6 x7 x8 x9 x10 x11 y0 y1 y2 y3 y4 y5 y6 y7 y8 y9 y10 y11 : Value} {T : TypeId} (h0 : w.heap[b]? = some (.cells #[x0, x1, x2, x3, x4, x5, x6, x7, x8, x9, x10, x11] T (0, 0))) (h : ∀ W : World, W.heap[b]? = some (.cells #[y0, y1, y2, y3, y4, y5, y6, y7, y8, y9, y10, y11] T (0, 0)) → Turn [b] w W → W.heap.size = w.heap.size → Calls P f args W Q) : Calls P f args ((((((((((((w.setCell ⟨b, 0, none⟩ y0).setCell ⟨b, 1, none⟩ y1).setCell ⟨b, 2, none⟩ y2).setCell ⟨b, 3, none⟩ y3).setCell ⟨b, 4, none⟩ y4).setCell ⟨b, 5, none⟩ y5).setCell ⟨b, 6, none⟩ y6).setCell ⟨b, 7, none⟩ y7).setCell ⟨b, 8, none⟩ y8).setCell ⟨b, 9, none⟩ y9).setCell ⟨b, 10, none⟩ y10).setCell ⟨b, 11, none⟩ y11) Q :=
  h _ (fill12 h0 _ _ _ _ _ _ _ _ _ _ _ _).1 (fill12 h0 _ _ _ _ _ _ _ _ _ _ _ _).2.1 (fill12 h0 _ _ _ _ _ _ _ _ _ _ _ _).2.2
theorem wp_fill12 {P : Program} {c : Code} {Q : Exit → Act → World → Prop} {a : Act} {w : World} {b : Nat} {x0 x1 x2 x3 x4 x5 x6 x7 x8 x9 x10 x11 y0 y1 y2 y3 y4 y5 y6 y7 y8 y9 y10 y11 : Value} {T : TypeId} (h0 : w.heap[b]? = some (.cells #[x0, x1, x2, x3, x4, x5, x6, x7, x8, x9, x10, x11] T (0, 0))) (h : ∀ W : World, W.heap[b]? = some (.cells #[y0, y1, y2, y3, y4, y5, y6, y7, y8, y9, y10, y11] T (0, 0)) → Turn [b] w W → W.heap.size = w.heap.size → Code.wp P c Q a W) : Code.wp P c Q a ((((((((((((w.setCell ⟨b, 0, none⟩ y0).setCell ⟨b, 1, none⟩ y1).setCell ⟨b, 2, none⟩ y2).setCell ⟨b, 3, none⟩ y3).setCell ⟨b, 4, none⟩ y4).setCell ⟨b, 5, none⟩ y5).setCell ⟨b, 6, none⟩ y6).setCell ⟨b, 7, none⟩ y7).setCell ⟨b, 8, none⟩ y8).setCell ⟨b, 9, none⟩ y9).setCell ⟨b, 10, none⟩ y10).setCell ⟨b, 11, none⟩ y11) :=
  h _ (fill12 h0 _ _ _ _ _ _ _ _ _ _ _ _).1 (fill12 h0 _ _ _ _ _ _ _ _ _ _ _ _).2.1 (fill12 h0 _ _ _ _ _ _ _ _ _ _ _ _).2.2
end Go.Proofs.YtppkgfcobnknfaaGreatDoor
/- Kinds of objects: may one be, how many words. -/
namespace Go.Proofs.YtppkgfcobnknfaaGreatDoor
open Go.RowKit
set_option maxHeartbeats 4000000
set_option maxRecDepth 100000
theorem hsb (s : ByteArray) : s.toList.isEmpty = true ↔ s.size = 0 := by
  rw [ByteArray.toList_eq]; obtain ⟨⟨l⟩⟩ := s; simp [ByteArray.size]
theorem hsb_ne {s : ByteArray} (h : ¬ s.size = 0) : s.toList.isEmpty = false := by
  cases hh : s.toList.isEmpty with
  | false => rfl
  | true => exact absurd (hsb s |>.1 hh) h
theorem empty_of {s : ByteArray} (h : s.size = 0) : s = ByteArray.empty := ByteArray.size_eq_zero_iff.1 h
theorem row_may (l mo n c : Nat) (top kd tg : Int) (q : Option Addr) (s : ByteArray) (w : World) (_hl : l ≤ 400) (_hmo : mo ≤ 400) (_hn : n ≤ 9223372036854775807) : Calls Tryz.prog 120 #[.agg #[.int .i64 l, .int .i64 mo, .int .i64 top], .agg #[.int .i64 kd, .int .i64 tg, .slice q n c, .string s]] w fun e w' => e = .returned (.bool (rowB tg n s.size l mo top)) ∧ Ext w w' := by
  by_cases h1 : 0 ≤ tg
  · by_cases h2 : tg ≤ top
    · by_cases h3 : l ≤ n
      · by_cases h4 : n ≤ mo
        · by_cases h5 : s.size = 0
          · obtain rfl := empty_of h5
            have hb : rowB tg n ByteArray.empty.size l mo top = true := by unfold rowB; simp [h1, h2, h3, h4]
            rw [hb]
            clear hb h5
            have i3 : (l : Int) ≤ (n : Int) := by omega
            have i4 : (n : Int) ≤ (mo : Int) := by omega
            clear h3 h4
            go_enter Tryz.func120, Tryz.ntmps120
            go_wp2
            go_ret
            exact ⟨by simp <;> omega, (Ext.alloc _ _).trans (Ext.alloc _ _)⟩
          · have hb : rowB tg n s.size l mo top = false := by unfold rowB; simp [h5]
            rw [hb]
            have e5 := hsb_ne h5
            have i3 : (l : Int) ≤ (n : Int) := by omega
            have i4 : (n : Int) ≤ (mo : Int) := by omega
            clear hb h5 h3 h4
            go_enter Tryz.func120, Tryz.ntmps120
            go_wp2
            go_ret
            exact ⟨by simp <;> omega, (Ext.alloc _ _).trans (Ext.alloc _ _)⟩
        · have hb : rowB tg n s.size l mo top = false := by unfold rowB; simp [h4]
          rw [hb]
          have i3 : (l : Int) ≤ (n : Int) := by omega
          have i4 : ¬ (n : Int) ≤ (mo : Int) := by omega
          clear hb h3 h4
          go_enter Tryz.func120, Tryz.ntmps120
          go_wp2
          go_ret
          exact ⟨by simp <;> omega, (Ext.alloc _ _).trans (Ext.alloc _ _)⟩
      · have hb : rowB tg n s.size l mo top = false := by unfold rowB; simp [h3]
        rw [hb]
        have i3 : ¬ (l : Int) ≤ (n : Int) := by omega
        clear hb h3
        go_enter Tryz.func120, Tryz.ntmps120
        go_wp2
        go_ret
        exact ⟨by simp <;> omega, (Ext.alloc _ _).trans (Ext.alloc _ _)⟩
    · have hb : rowB tg n s.size l mo top = false := by unfold rowB; simp [h2]
      rw [hb]
      clear hb
      go_enter Tryz.func120, Tryz.ntmps120
      go_wp2
      go_ret
      exact ⟨by simp <;> omega, (Ext.alloc _ _).trans (Ext.alloc _ _)⟩
  · have hb : rowB tg n s.size l mo top = false := by unfold rowB; simp [h1]
    rw [hb]
    clear hb
    go_enter Tryz.func120, Tryz.ntmps120
    go_wp2
    go_ret
    exact ⟨by simp <;> omega, (Ext.alloc _ _).trans (Ext.alloc _ _)⟩
theorem row_size (a b c' kd tg : Int) (n c : Nat) (q : Option Addr) (s : ByteArray) (w : World) : Calls Tryz.prog 121 #[.agg #[.int .i64 a, .int .i64 b, .int .i64 c'], .agg #[.int .i64 kd, .int .i64 tg, .slice q n c, .string s]] w fun e w' => e = .returned (.int .i64 n) ∧ Ext w w' := by
  go_enter Tryz.func121, Tryz.ntmps121
  go_wp2
  go_ret
  exact ⟨rfl, (Ext.alloc _ _).trans (Ext.alloc _ _)⟩
theorem row_words (a b c' n : Int) (w : World) : Calls Tryz.prog 122 #[.agg #[.int .i64 a, .int .i64 b, .int .i64 c'], .int .i64 n] w fun e w' => e = .returned (.int .i64 n) ∧ Ext w w' := by
  go_enter Tryz.func122, Tryz.ntmps122
  go_wp2
  go_ret
  exact ⟨rfl, Ext.alloc _ _⟩
theorem text_may (kd tg : Int) (n c : Nat) (q : Option Addr) (s : ByteArray) (w : World) : Calls Tryz.prog 123 #[.agg #[], .agg #[.int .i64 kd, .int .i64 tg, .slice q n c, .string s]] w fun e w' => e = .returned (.bool (decide (tg = 0) && decide (n = 0) && decide (s.size ≤ 400))) ∧ Ext w w' := by
  by_cases h1 : tg = 0
  · subst h1
    by_cases h2 : n = 0
    · subst h2
      go_enter Tryz.func123, Tryz.ntmps123
      go_wp2
      go_ret
      exact ⟨by by_cases h : s.size ≤ 400 <;> simp [h] <;> omega, (Ext.alloc _ _).trans (Ext.alloc _ _)⟩
    · have e2 : ((n : Int) == 0) = false := beq_false_of_ne (by omega)
      have hb : (decide ((0 : Int) = 0) && decide (n = 0) && decide (s.size ≤ 400)) = false := by simp [h2]
      rw [hb]
      clear hb h2
      go_enter Tryz.func123, Tryz.ntmps123
      go_wp2
      go_ret
      exact ⟨rfl, (Ext.alloc _ _).trans (Ext.alloc _ _)⟩
  · have e1 : (tg == 0) = false := beq_false_of_ne h1
    have hb : (decide (tg = 0) && decide (n = 0) && decide (s.size ≤ 400)) = false := by simp [h1]
    rw [hb]
    clear hb h1
    go_enter Tryz.func123, Tryz.ntmps123
    go_wp2
    go_ret
    exact ⟨rfl, (Ext.alloc _ _).trans (Ext.alloc _ _)⟩
theorem text_size (kd tg : Int) (n c : Nat) (q : Option Addr) (s : ByteArray) (w : World) : Calls Tryz.prog 124 #[.agg #[], .agg #[.int .i64 kd, .int .i64 tg, .slice q n c, .string s]] w fun e w' => e = .returned (.int .i64 s.size) ∧ Ext w w' := by
  go_enter Tryz.func124, Tryz.ntmps124
  go_wp2
  go_ret
  exact ⟨rfl, (Ext.alloc _ _).trans (Ext.alloc _ _)⟩
theorem text_words (n : Nat) (w : World) (hn : n ≤ 400) : Calls Tryz.prog 125 #[.agg #[], .int .i64 n] w fun e w' => e = .returned (.int .i64 (((n + 7) / 8 : Nat) : Int)) ∧ Ext w w' := by
  go_enter Tryz.func125, Tryz.ntmps125
  go_wp2
  go_ret
  refine ⟨?_, Ext.alloc _ _⟩
  show Ending.returned (.int .i64 (((n : Int) + 8 - 1) / 8)) = _
  congr 2
  omega
/-- a kind's value -/
def rowV (l mo top : Int) : Value := .iface 145 (.agg #[.int .i64 l, .int .i64 mo, .int .i64 top])
def textV : Value := .iface 147 (.agg #[])
def ofV (kd : Int) : Value := if kd = 1 then rowV 1 8 255 else if kd = 2 then textV else if kd = 3 then rowV 0 400 0 else if kd = 4 then rowV 0 30 59 else .nilIface
theorem of_is (kd : Int) (w : World) : Calls Tryz.prog 62 #[.int .i64 kd] w fun e w' => e = .returned (ofV kd) ∧ w = w' := by
  unfold ofV rowV textV
  by_cases h1 : kd = 1
  · subst h1
    go_enter Tryz.func62, Tryz.ntmps62
    go_wp2
    go_ret
    exact ⟨rfl, rfl⟩
  · rw [if_neg h1]
    have e1 : (kd == 1) = false := beq_false_of_ne h1
    by_cases h2 : kd = 2
    · subst h2
      go_enter Tryz.func62, Tryz.ntmps62
      go_wp2
      go_ret
      exact ⟨rfl, rfl⟩
    · rw [if_neg h2]
      have e2 : (kd == 2) = false := beq_false_of_ne h2
      by_cases h3 : kd = 3
      · subst h3
        go_enter Tryz.func62, Tryz.ntmps62
        go_wp2
        go_ret
        exact ⟨rfl, rfl⟩
      · rw [if_neg h3]
        have e3 : (kd == 3) = false := beq_false_of_ne h3
        by_cases h4 : kd = 4
        · subst h4
          go_enter Tryz.func62, Tryz.ntmps62
          go_wp2
          go_ret
          exact ⟨rfl, rfl⟩
        · rw [if_neg h4]
          have e4 : (kd == 4) = false := beq_false_of_ne h4
          clear h1 h2 h3 h4
          go_enter Tryz.func62, Tryz.ntmps62
          go_wp2
          go_ret
          exact ⟨rfl, rfl⟩
theorem mt_may (k : Nat) (w : World) : (method (k + 1) 147 (.agg #[]) "stockpot/object.may").run Tryz.prog w = .ok (123, .agg #[]) w := by kernel_rfl
theorem mt_size (k : Nat) (w : World) : (method (k + 1) 147 (.agg #[]) "stockpot/object.size").run Tryz.prog w = .ok (124, .agg #[]) w := by kernel_rfl
theorem mt_words (k : Nat) (w : World) : (method (k + 1) 147 (.agg #[]) "stockpot/object.words").run Tryz.prog w = .ok (125, .agg #[]) w := by kernel_rfl
theorem mr_may (a b c : Int) (k : Nat) (w : World) : (method (k + 1) 145 (.agg #[.int .i64 a, .int .i64 b, .int .i64 c]) "stockpot/object.may").run Tryz.prog w = .ok (120, .agg #[.int .i64 a, .int .i64 b, .int .i64 c]) w := by kernel_rfl
theorem mr_size (a b c : Int) (k : Nat) (w : World) : (method (k + 1) 145 (.agg #[.int .i64 a, .int .i64 b, .int .i64 c]) "stockpot/object.size").run Tryz.prog w = .ok (121, .agg #[.int .i64 a, .int .i64 b, .int .i64 c]) w := by kernel_rfl
theorem mr_words (a b c : Int) (k : Nat) (w : World) : (method (k + 1) 145 (.agg #[.int .i64 a, .int .i64 b, .int .i64 c]) "stockpot/object.words").run Tryz.prog w = .ok (122, .agg #[.int .i64 a, .int .i64 b, .int .i64 c]) w := by kernel_rfl
theorem nt_words (w : World) : (nilAhead (Tryz.prog.types.size + Made.depth) 147 (.agg #[]) "stockpot/object.words").run Tryz.prog w = .ok (some false) w := by kernel_rfl
theorem nr_words (a b c : Int) (w : World) : (nilAhead (Tryz.prog.types.size + Made.depth) 145 (.agg #[.int .i64 a, .int .i64 b, .int .i64 c]) "stockpot/object.words").run Tryz.prog w = .ok (some false) w := by kernel_rfl
end Go.Proofs.YtppkgfcobnknfaaGreatDoor
/- May an object be; how many words; its head (the program's). -/
namespace Go.Proofs.YtppkgfcobnknfaaGreatDoor
open Go.RowKit
set_option maxHeartbeats 4000000
set_option maxRecDepth 100000
theorem may_is (kd tg : Int) (n c : Nat) (q : Option Addr) (s : ByteArray) (w : World) (hn : n ≤ 9223372036854775807) : Calls Tryz.prog 61 #[.agg #[.int .i64 kd, .int .i64 tg, .slice q n c, .string s]] w fun e w' => e = .returned (.bool (mayK kd tg n s.size)) ∧ Ext w w' := by
  have hm1 := mt_may
  have hm2 := mr_may
  by_cases h1 : kd = 1
  · subst h1
    have HR := Lib.hid (fun W => row_may 1 8 n c 255 1 tg q s W (by omega) (by omega) hn)
    have hb : mayK 1 tg n s.size = rowB tg n s.size 1 8 255 := rfl
    rw [hb]
    have ho : ofV 1 = .iface 145 (.agg #[.int .i64 1, .int .i64 8, .int .i64 255]) := rfl
    have HO := Lib.hid ho
    clear hb ho hm1
    go_enter Tryz.func61, Tryz.ntmps61
    go_wp2_with fail
    refine (of_is _ _).mono ?_
    rintro e w1 ⟨rfl, rfl⟩
    rw [HO.out]
    go_wp2_with fail
    refine (HR.out _).mono ?_
    rintro e w1 ⟨rfl, hx⟩
    have HX := Lib.hid ((Ext.alloc _ _).trans hx)
    clear hx
    go_wp2
    go_ret
    exact ⟨rfl, HX.out⟩
  · by_cases h2 : kd = 2
    · subst h2
      have HT := Lib.hid (fun W => text_may 2 tg n c q s W)
      have hb : mayK 2 tg n s.size = (decide (tg = 0) && decide (n = 0) && decide (s.size ≤ 400)) := rfl
      have HO := Lib.hid (show ofV 2 = .iface 147 (.agg #[]) from rfl)
      rw [hb]
      generalize (decide (tg = 0) && decide (n = 0) && decide (s.size ≤ 400)) = bb at HT ⊢
      clear hb hm2 h1
      go_enter Tryz.func61, Tryz.ntmps61
      go_wp2_with fail
      refine (of_is _ _).mono ?_
      rintro e w1 ⟨rfl, rfl⟩
      rw [HO.out]
      go_wp2_with fail
      refine (HT.out _).mono ?_
      rintro e w1 ⟨rfl, hx⟩
      have HX := Lib.hid ((Ext.alloc _ _).trans hx)
      clear hx
      go_wp2
      go_ret
      exact ⟨rfl, HX.out⟩
    · by_cases h3 : kd = 3
      · subst h3
        have HR := Lib.hid (fun W => row_may 0 400 n c 0 3 tg q s W (by omega) (by omega) hn)
        have hb : mayK 3 tg n s.size = rowB tg n s.size 0 400 0 := rfl
        rw [hb]
        have ho : ofV 3 = .iface 145 (.agg #[.int .i64 0, .int .i64 400, .int .i64 0]) := rfl
        have HO := Lib.hid ho
        clear hb ho hm1
        go_enter Tryz.func61, Tryz.ntmps61
        go_wp2_with fail
        refine (of_is _ _).mono ?_
        rintro e w1 ⟨rfl, rfl⟩
        rw [HO.out]
        go_wp2_with fail
        refine (HR.out _).mono ?_
        rintro e w1 ⟨rfl, hx⟩
        have HX := Lib.hid ((Ext.alloc _ _).trans hx)
        clear hx
        go_wp2
        go_ret
        exact ⟨rfl, HX.out⟩
      · by_cases h4 : kd = 4
        · subst h4
          have HR := Lib.hid (fun W => row_may 0 30 n c 59 4 tg q s W (by omega) (by omega) hn)
          have hb : mayK 4 tg n s.size = rowB tg n s.size 0 30 59 := rfl
          rw [hb]
          have ho : ofV 4 = .iface 145 (.agg #[.int .i64 0, .int .i64 30, .int .i64 59]) := rfl
          have HO := Lib.hid ho
          clear hb ho hm1
          go_enter Tryz.func61, Tryz.ntmps61
          go_wp2_with fail
          refine (of_is _ _).mono ?_
          rintro e w1 ⟨rfl, rfl⟩
          rw [HO.out]
          go_wp2_with fail
          refine (HR.out _).mono ?_
          rintro e w1 ⟨rfl, hx⟩
          have HX := Lib.hid ((Ext.alloc _ _).trans hx)
          clear hx
          go_wp2
          go_ret
          exact ⟨rfl, HX.out⟩
        · have hb : mayK kd tg n s.size = false := by unfold mayK; rw [if_neg h1, if_neg h2, if_neg h3, if_neg h4]
          have ho : ofV kd = .nilIface := by unfold ofV; rw [if_neg h1, if_neg h2, if_neg h3, if_neg h4]
          have HO := Lib.hid ho
          rw [hb]
          clear h1 h2 h3 h4 hb ho hm1 hm2
          go_enter Tryz.func61, Tryz.ntmps61
          go_wp2_with fail
          refine (of_is _ _).mono ?_
          rintro e w1 ⟨rfl, rfl⟩
          rw [HO.out]
          go_wp2
          go_ret
          exact ⟨rfl, Ext.alloc _ _⟩
end Go.Proofs.YtppkgfcobnknfaaGreatDoor
/- How many words an object takes; its head (the program's). -/
namespace Go.Proofs.YtppkgfcobnknfaaGreatDoor
open Go.RowKit
set_option maxHeartbeats 4000000
set_option maxRecDepth 100000
/-- the check ahead of a method's call through an interface -/
theorem quiet_nil_method {P : Program} {C : World → Prop} {a : Act} {o : Oper} {K : Act → Prop} (x : Operand) (ho : o.op = .nilCheck x) {name : String} {t : TypeId} {v : Value} {cap : Array Value} (hv : a.eval x = .func (.method name) #[.iface t v] cap)
    (hn : ∀ w, (nilAhead (P.types.size + Made.depth) t v name).run P w = .ok (some false) w) (hk : K (a.put o.dst (.func (.method name) #[.iface t v] cap))) : o.quiet P a C K :=
  ⟨_, fun w _ => by
    have h : (execOp a.eval o).run P w = .ok (.value (.func (.method name) #[.iface t v] cap)) w := by
      simp [execOp, ho, hv, hn]
    unfold Oper.quietAt
    rw [h]
    exact ⟨rfl, rfl⟩, hk⟩
theorem owords_no (kd tg : Int) (n c : Nat) (q : Option Addr) (s : ByteArray) (w : World) (hn : n ≤ 9223372036854775807) (h : mayK kd tg n s.size = false) : Calls Tryz.prog 44 #[.agg #[.int .i64 kd, .int .i64 tg, .slice q n c, .string s]] w fun e w' => e = .returned (.int .i64 0) ∧ Ext w w' := by
  have HM := Lib.hid (fun W => may_is kd tg n c q s W hn)
  rw [h] at HM
  clear h
  go_enter Tryz.func44, Tryz.ntmps44
  go_wp2_with fail
  refine (HM.out _).mono ?_
  rintro e w1 ⟨rfl, hx⟩
  go_wp2
  go_ret
  exact ⟨rfl, (Ext.alloc _ _).trans hx⟩
theorem head_no (kd tg : Int) (n c : Nat) (q : Option Addr) (s : ByteArray) (w : World) (hn : n ≤ 9223372036854775807) (h : mayK kd tg n s.size = false) : Calls Tryz.prog 47 #[.agg #[.int .i64 kd, .int .i64 tg, .slice q n c, .string s]] w fun e w' => e = .returned (.tuple #[.int .u64 0, .bool false]) ∧ Ext w w' := by
  have HM := Lib.hid (fun W => may_is kd tg n c q s W hn)
  rw [h] at HM
  clear h
  go_enter Tryz.func47, Tryz.ntmps47
  go_wp2_with fail
  refine (HM.out _).mono ?_
  rintro e w1 ⟨rfl, hx⟩
  go_wp2
  go_ret2
  exact ⟨rfl, (Ext.alloc _ _).trans hx⟩
theorem owords_1 (tg : Int) (n c : Nat) (q : Option Addr) (s : ByteArray) (w : World) (hn : n ≤ 9223372036854775807) (h : mayK 1 tg n s.size = true) : Calls Tryz.prog 44 #[.agg #[.int .i64 1, .int .i64 tg, .slice q n c, .string s]] w fun e w' => e = .returned (.int .i64 ((1 + bodyK 1 n s.size : Nat) : Int)) ∧ Ext w w' := by
  have HM := Lib.hid (fun W => may_is 1 tg n c q s W hn)
  rw [h] at HM
  obtain ⟨_, _, _, _, hn4, hm4, _, _⟩ := mayK_bounds h
  have HO := Lib.hid (show ofV 1 = .iface 145 (.agg #[.int .i64 1, .int .i64 8, .int .i64 255]) from rfl)
  have hb : bodyK 1 n s.size = n := rfl
  rw [hb]
  clear h hb
  go_enter Tryz.func44, Tryz.ntmps44
  go_wp2_with fail
  refine at_alloc1 fun W hE hS b0 => ?_
  refine (HM.out _).mono ?_
  rintro e w1 ⟨rfl, hx⟩
  have hb1 := (Below.block hx w.heap.size (by omega)).trans b0
  have HX := Lib.hid (hE.trans hx)
  clear hx hE hS b0
  obtain ⟨x0, x1, x2, x3⟩ := cells4 hb1
  clear hb1
  go_wp2_with fail
  refine (of_is _ _).mono ?_
  rintro e w2 ⟨rfl, rfl⟩
  rw [HO.out]
  go_wp2_with fail
  have r0 := fun d os => cell_regrown x0 d os
  have r1 := fun d os => cell_regrown x1 d os
  have r2 := fun d os => cell_regrown x2 d os
  have r3 := fun d os => cell_regrown x3 d os
  have cS := fun d os => quiet_ext (row_size 1 8 255 1 tg n c q s (Go.Sort.grow (redrawn w1 d) os))
  have cW := fun d os => quiet_ext (row_words 1 8 255 n (Go.Sort.grow (redrawn w1 d) os))
  have hm1 := mr_size
  have hm2 := mr_words
  have CS := Lib.hid cS; have CW := Lib.hid cW
  clear cS cW x0 x1 x2 x3
  refine wp_region_quiet_below (by kernel_rfl) (by kernel_rfl) ?_
  repeat (first | go_big_quiet_step (first | exact CS.out _ _ | exact CW.out _ _) | quiet_step (first | exact CS.out _ _ | exact CW.out _ _))
  refine Go.BigFrame.wpQuiet_want (by rfl) (fun K hK => quiet_nil_method (.tmp 14) rfl rfl (nr_words _ _ _) (hK _ ?_))
  clear hK K
  repeat (first | go_big_quiet_step (first | exact CS.out _ _ | exact CW.out _ _) | quiet_step (first | exact CS.out _ _ | exact CW.out _ _))
  refine wpQuiet_nil ?_
  intro _ hw'
  obtain ⟨⟨dq, osq⟩, hw''⟩ := hw'
  subst hw''
  have HXQ := Lib.hid (Ext.regrown w1 dq osq)
  clear r0 r1 r2 r3 hm1 hm2
  go_wp2
  go_ret
  refine ⟨?_, HX.out.trans HXQ.out⟩
  congr 2
theorem owords_2 (tg : Int) (n c : Nat) (q : Option Addr) (s : ByteArray) (w : World) (hn : n ≤ 9223372036854775807) (h : mayK 2 tg n s.size = true) : Calls Tryz.prog 44 #[.agg #[.int .i64 2, .int .i64 tg, .slice q n c, .string s]] w fun e w' => e = .returned (.int .i64 ((1 + bodyK 2 n s.size : Nat) : Int)) ∧ Ext w w' := by
  have HM := Lib.hid (fun W => may_is 2 tg n c q s W hn)
  rw [h] at HM
  obtain ⟨_, _, _, _, hn4, hm4, _, _⟩ := mayK_bounds h
  have HO := Lib.hid (show ofV 2 = .iface 147 (.agg #[]) from rfl)
  have hb : bodyK 2 n s.size = (s.size + 7) / 8 := rfl
  rw [hb]
  clear h hb
  go_enter Tryz.func44, Tryz.ntmps44
  go_wp2_with fail
  refine at_alloc1 fun W hE hS b0 => ?_
  refine (HM.out _).mono ?_
  rintro e w1 ⟨rfl, hx⟩
  have hb1 := (Below.block hx w.heap.size (by omega)).trans b0
  have HX := Lib.hid (hE.trans hx)
  clear hx hE hS b0
  obtain ⟨x0, x1, x2, x3⟩ := cells4 hb1
  clear hb1
  go_wp2_with fail
  refine (of_is _ _).mono ?_
  rintro e w2 ⟨rfl, rfl⟩
  rw [HO.out]
  go_wp2_with fail
  have r0 := fun d os => cell_regrown x0 d os
  have r1 := fun d os => cell_regrown x1 d os
  have r2 := fun d os => cell_regrown x2 d os
  have r3 := fun d os => cell_regrown x3 d os
  have cS := fun d os => quiet_ext (text_size 2 tg n c q s (Go.Sort.grow (redrawn w1 d) os))
  have cW := fun d os => quiet_ext (text_words s.size (Go.Sort.grow (redrawn w1 d) os) hm4)
  have hm1 := mt_size
  have hm2 := mt_words
  have CS := Lib.hid cS; have CW := Lib.hid cW
  clear cS cW x0 x1 x2 x3
  refine wp_region_quiet_below (by kernel_rfl) (by kernel_rfl) ?_
  repeat (first | go_big_quiet_step (first | exact CS.out _ _ | exact CW.out _ _) | quiet_step (first | exact CS.out _ _ | exact CW.out _ _))
  refine Go.BigFrame.wpQuiet_want (by rfl) (fun K hK => quiet_nil_method (.tmp 14) rfl rfl nt_words (hK _ ?_))
  clear hK K
  repeat (first | go_big_quiet_step (first | exact CS.out _ _ | exact CW.out _ _) | quiet_step (first | exact CS.out _ _ | exact CW.out _ _))
  refine wpQuiet_nil ?_
  intro _ hw'
  obtain ⟨⟨dq, osq⟩, hw''⟩ := hw'
  subst hw''
  have HXQ := Lib.hid (Ext.regrown w1 dq osq)
  clear r0 r1 r2 r3 hm1 hm2
  go_wp2
  go_ret
  refine ⟨?_, HX.out.trans HXQ.out⟩
  congr 2
theorem owords_3 (tg : Int) (n c : Nat) (q : Option Addr) (s : ByteArray) (w : World) (hn : n ≤ 9223372036854775807) (h : mayK 3 tg n s.size = true) : Calls Tryz.prog 44 #[.agg #[.int .i64 3, .int .i64 tg, .slice q n c, .string s]] w fun e w' => e = .returned (.int .i64 ((1 + bodyK 3 n s.size : Nat) : Int)) ∧ Ext w w' := by
  have HM := Lib.hid (fun W => may_is 3 tg n c q s W hn)
  rw [h] at HM
  obtain ⟨_, _, _, _, hn4, hm4, _, _⟩ := mayK_bounds h
  have HO := Lib.hid (show ofV 3 = .iface 145 (.agg #[.int .i64 0, .int .i64 400, .int .i64 0]) from rfl)
  have hb : bodyK 3 n s.size = n := rfl
  rw [hb]
  clear h hb
  go_enter Tryz.func44, Tryz.ntmps44
  go_wp2_with fail
  refine at_alloc1 fun W hE hS b0 => ?_
  refine (HM.out _).mono ?_
  rintro e w1 ⟨rfl, hx⟩
  have hb1 := (Below.block hx w.heap.size (by omega)).trans b0
  have HX := Lib.hid (hE.trans hx)
  clear hx hE hS b0
  obtain ⟨x0, x1, x2, x3⟩ := cells4 hb1
  clear hb1
  go_wp2_with fail
  refine (of_is _ _).mono ?_
  rintro e w2 ⟨rfl, rfl⟩
  rw [HO.out]
  go_wp2_with fail
  have r0 := fun d os => cell_regrown x0 d os
  have r1 := fun d os => cell_regrown x1 d os
  have r2 := fun d os => cell_regrown x2 d os
  have r3 := fun d os => cell_regrown x3 d os
  have cS := fun d os => quiet_ext (row_size 0 400 0 3 tg n c q s (Go.Sort.grow (redrawn w1 d) os))
  have cW := fun d os => quiet_ext (row_words 0 400 0 n (Go.Sort.grow (redrawn w1 d) os))
  have hm1 := mr_size
  have hm2 := mr_words
  have CS := Lib.hid cS; have CW := Lib.hid cW
  clear cS cW x0 x1 x2 x3
  refine wp_region_quiet_below (by kernel_rfl) (by kernel_rfl) ?_
  repeat (first | go_big_quiet_step (first | exact CS.out _ _ | exact CW.out _ _) | quiet_step (first | exact CS.out _ _ | exact CW.out _ _))
  refine Go.BigFrame.wpQuiet_want (by rfl) (fun K hK => quiet_nil_method (.tmp 14) rfl rfl (nr_words _ _ _) (hK _ ?_))
  clear hK K
  repeat (first | go_big_quiet_step (first | exact CS.out _ _ | exact CW.out _ _) | quiet_step (first | exact CS.out _ _ | exact CW.out _ _))
  refine wpQuiet_nil ?_
  intro _ hw'
  obtain ⟨⟨dq, osq⟩, hw''⟩ := hw'
  subst hw''
  have HXQ := Lib.hid (Ext.regrown w1 dq osq)
  clear r0 r1 r2 r3 hm1 hm2
  go_wp2
  go_ret
  refine ⟨?_, HX.out.trans HXQ.out⟩
  congr 2
theorem owords_4 (tg : Int) (n c : Nat) (q : Option Addr) (s : ByteArray) (w : World) (hn : n ≤ 9223372036854775807) (h : mayK 4 tg n s.size = true) : Calls Tryz.prog 44 #[.agg #[.int .i64 4, .int .i64 tg, .slice q n c, .string s]] w fun e w' => e = .returned (.int .i64 ((1 + bodyK 4 n s.size : Nat) : Int)) ∧ Ext w w' := by
  have HM := Lib.hid (fun W => may_is 4 tg n c q s W hn)
  rw [h] at HM
  obtain ⟨_, _, _, _, hn4, hm4, _, _⟩ := mayK_bounds h
  have HO := Lib.hid (show ofV 4 = .iface 145 (.agg #[.int .i64 0, .int .i64 30, .int .i64 59]) from rfl)
  have hb : bodyK 4 n s.size = n := rfl
  rw [hb]
  clear h hb
  go_enter Tryz.func44, Tryz.ntmps44
  go_wp2_with fail
  refine at_alloc1 fun W hE hS b0 => ?_
  refine (HM.out _).mono ?_
  rintro e w1 ⟨rfl, hx⟩
  have hb1 := (Below.block hx w.heap.size (by omega)).trans b0
  have HX := Lib.hid (hE.trans hx)
  clear hx hE hS b0
  obtain ⟨x0, x1, x2, x3⟩ := cells4 hb1
  clear hb1
  go_wp2_with fail
  refine (of_is _ _).mono ?_
  rintro e w2 ⟨rfl, rfl⟩
  rw [HO.out]
  go_wp2_with fail
  have r0 := fun d os => cell_regrown x0 d os
  have r1 := fun d os => cell_regrown x1 d os
  have r2 := fun d os => cell_regrown x2 d os
  have r3 := fun d os => cell_regrown x3 d os
  have cS := fun d os => quiet_ext (row_size 0 30 59 4 tg n c q s (Go.Sort.grow (redrawn w1 d) os))
  have cW := fun d os => quiet_ext (row_words 0 30 59 n (Go.Sort.grow (redrawn w1 d) os))
  have hm1 := mr_size
  have hm2 := mr_words
  have CS := Lib.hid cS; have CW := Lib.hid cW
  clear cS cW x0 x1 x2 x3
  refine wp_region_quiet_below (by kernel_rfl) (by kernel_rfl) ?_
  repeat (first | go_big_quiet_step (first | exact CS.out _ _ | exact CW.out _ _) | quiet_step (first | exact CS.out _ _ | exact CW.out _ _))
  refine Go.BigFrame.wpQuiet_want (by rfl) (fun K hK => quiet_nil_method (.tmp 14) rfl rfl (nr_words _ _ _) (hK _ ?_))
  clear hK K
  repeat (first | go_big_quiet_step (first | exact CS.out _ _ | exact CW.out _ _) | quiet_step (first | exact CS.out _ _ | exact CW.out _ _))
  refine wpQuiet_nil ?_
  intro _ hw'
  obtain ⟨⟨dq, osq⟩, hw''⟩ := hw'
  subst hw''
  have HXQ := Lib.hid (Ext.regrown w1 dq osq)
  clear r0 r1 r2 r3 hm1 hm2
  go_wp2
  go_ret
  refine ⟨?_, HX.out.trans HXQ.out⟩
  congr 2
theorem owords_yes (kd tg : Int) (n c : Nat) (q : Option Addr) (s : ByteArray) (w : World) (hn : n ≤ 9223372036854775807) (h : mayK kd tg n s.size = true) : Calls Tryz.prog 44 #[.agg #[.int .i64 kd, .int .i64 tg, .slice q n c, .string s]] w fun e w' => e = .returned (.int .i64 ((1 + bodyK kd n s.size : Nat) : Int)) ∧ Ext w w' := by
  rcases mayK_cases h with ⟨rfl, _⟩ | ⟨rfl, _⟩ | ⟨rfl, _⟩ | ⟨rfl, _⟩
  · exact owords_1 tg n c q s w hn h
  · exact owords_2 tg n c q s w hn h
  · exact owords_3 tg n c q s w hn h
  · exact owords_4 tg n c q s w hn h
end Go.Proofs.YtppkgfcobnknfaaGreatDoor
/- An object's head (the program's). -/
namespace Go.Proofs.YtppkgfcobnknfaaGreatDoor
open Go.RowKit
set_option maxHeartbeats 4000000
set_option maxRecDepth 100000
theorem head_1 (tg : Int) (n c : Nat) (q : Option Addr) (s : ByteArray) (w : World) (hn : n ≤ 9223372036854775807) (h : mayK 1 tg n s.size = true) : Calls Tryz.prog 47 #[.agg #[.int .i64 1, .int .i64 tg, .slice q n c, .string s]] w fun e w' => e = .returned (.tuple #[.int .u64 (headK 1 tg n s.size), .bool true]) ∧ Ext w w' := by
  have HM := Lib.hid (fun W => may_is 1 tg n c q s W hn)
  rw [h] at HM
  obtain ⟨_, _, ht0, ht1, hn4, hm4, _, _⟩ := mayK_bounds h
  have HO := Lib.hid (show ofV 1 = .iface 145 (.agg #[.int .i64 1, .int .i64 8, .int .i64 255]) from rfl)
  clear h
  go_enter Tryz.func47, Tryz.ntmps47
  go_wp2_with fail
  refine at_alloc1 fun W hE hS b0 => ?_
  refine (HM.out _).mono ?_
  rintro e w1 ⟨rfl, hx⟩
  have hb1 := (Below.block hx w.heap.size (by omega)).trans b0
  have HX := Lib.hid (hE.trans hx)
  clear hx hE hS b0
  obtain ⟨x0, x1, x2, x3⟩ := cells4 hb1
  clear hb1
  go_wp2_with fail
  have r0 := fun d os => cell_regrown x0 d os
  have r1 := fun d os => cell_regrown x1 d os
  have r2 := fun d os => cell_regrown x2 d os
  have r3 := fun d os => cell_regrown x3 d os
  have cO := fun d os => quiet_same (of_is 1 (Go.Sort.grow (redrawn w1 d) os))
  have cS := fun d os => quiet_ext (row_size 1 8 255 1 tg n c q s (Go.Sort.grow (redrawn w1 d) os))
  have hm1 := mr_size
  rw [HO.out] at cO
  have CS := Lib.hid cS; have CO := Lib.hid cO
  clear cS cO x0 x1 x2 x3
  refine wp_region_quiet_below (by kernel_rfl) (by kernel_rfl) ?_
  repeat (first | go_big_quiet_step (first | exact CS.out _ _ | exact CO.out _ _) | quiet_step (first | exact CS.out _ _ | exact CO.out _ _))
  refine wpQuiet_nil ?_
  intro _ hw'
  obtain ⟨⟨dq, osq⟩, hw''⟩ := hw'
  subst hw''
  have HXQ := Lib.hid (Ext.regrown w1 dq osq)
  clear r0 r1 r2 r3 hm1
  go_wp2
  go_ret2
  refine ⟨?_, HX.out.trans HXQ.out⟩
  show Ending.returned (.tuple #[.int .u64 (bits .or .u64 (bits .or .u64 1 (tg * 256)) ((n : Nat) * 4294967296)), .bool true]) = _
  rw [head_or 1 tg n (by omega) (by omega) (by omega) (by omega) (by omega)]
  rfl
theorem head_2 (tg : Int) (n c : Nat) (q : Option Addr) (s : ByteArray) (w : World) (hn : n ≤ 9223372036854775807) (h : mayK 2 tg n s.size = true) : Calls Tryz.prog 47 #[.agg #[.int .i64 2, .int .i64 tg, .slice q n c, .string s]] w fun e w' => e = .returned (.tuple #[.int .u64 (headK 2 tg n s.size), .bool true]) ∧ Ext w w' := by
  have HM := Lib.hid (fun W => may_is 2 tg n c q s W hn)
  rw [h] at HM
  obtain ⟨_, _, ht0, ht1, hn4, hm4, _, _⟩ := mayK_bounds h
  have HO := Lib.hid (show ofV 2 = .iface 147 (.agg #[]) from rfl)
  clear h
  go_enter Tryz.func47, Tryz.ntmps47
  go_wp2_with fail
  refine at_alloc1 fun W hE hS b0 => ?_
  refine (HM.out _).mono ?_
  rintro e w1 ⟨rfl, hx⟩
  have hb1 := (Below.block hx w.heap.size (by omega)).trans b0
  have HX := Lib.hid (hE.trans hx)
  clear hx hE hS b0
  obtain ⟨x0, x1, x2, x3⟩ := cells4 hb1
  clear hb1
  go_wp2_with fail
  have r0 := fun d os => cell_regrown x0 d os
  have r1 := fun d os => cell_regrown x1 d os
  have r2 := fun d os => cell_regrown x2 d os
  have r3 := fun d os => cell_regrown x3 d os
  have cO := fun d os => quiet_same (of_is 2 (Go.Sort.grow (redrawn w1 d) os))
  have cS := fun d os => quiet_ext (text_size 2 tg n c q s (Go.Sort.grow (redrawn w1 d) os))
  have hm1 := mt_size
  rw [HO.out] at cO
  have CS := Lib.hid cS; have CO := Lib.hid cO
  clear cS cO x0 x1 x2 x3
  refine wp_region_quiet_below (by kernel_rfl) (by kernel_rfl) ?_
  repeat (first | go_big_quiet_step (first | exact CS.out _ _ | exact CO.out _ _) | quiet_step (first | exact CS.out _ _ | exact CO.out _ _))
  refine wpQuiet_nil ?_
  intro _ hw'
  obtain ⟨⟨dq, osq⟩, hw''⟩ := hw'
  subst hw''
  have HXQ := Lib.hid (Ext.regrown w1 dq osq)
  clear r0 r1 r2 r3 hm1
  go_wp2
  go_ret2
  refine ⟨?_, HX.out.trans HXQ.out⟩
  show Ending.returned (.tuple #[.int .u64 (bits .or .u64 (bits .or .u64 2 (tg * 256)) ((s.size : Nat) * 4294967296)), .bool true]) = _
  rw [head_or 2 tg s.size (by omega) (by omega) (by omega) (by omega) (by omega)]
  rfl
theorem head_3 (tg : Int) (n c : Nat) (q : Option Addr) (s : ByteArray) (w : World) (hn : n ≤ 9223372036854775807) (h : mayK 3 tg n s.size = true) : Calls Tryz.prog 47 #[.agg #[.int .i64 3, .int .i64 tg, .slice q n c, .string s]] w fun e w' => e = .returned (.tuple #[.int .u64 (headK 3 tg n s.size), .bool true]) ∧ Ext w w' := by
  have HM := Lib.hid (fun W => may_is 3 tg n c q s W hn)
  rw [h] at HM
  obtain ⟨_, _, ht0, ht1, hn4, hm4, _, _⟩ := mayK_bounds h
  have HO := Lib.hid (show ofV 3 = .iface 145 (.agg #[.int .i64 0, .int .i64 400, .int .i64 0]) from rfl)
  clear h
  go_enter Tryz.func47, Tryz.ntmps47
  go_wp2_with fail
  refine at_alloc1 fun W hE hS b0 => ?_
  refine (HM.out _).mono ?_
  rintro e w1 ⟨rfl, hx⟩
  have hb1 := (Below.block hx w.heap.size (by omega)).trans b0
  have HX := Lib.hid (hE.trans hx)
  clear hx hE hS b0
  obtain ⟨x0, x1, x2, x3⟩ := cells4 hb1
  clear hb1
  go_wp2_with fail
  have r0 := fun d os => cell_regrown x0 d os
  have r1 := fun d os => cell_regrown x1 d os
  have r2 := fun d os => cell_regrown x2 d os
  have r3 := fun d os => cell_regrown x3 d os
  have cO := fun d os => quiet_same (of_is 3 (Go.Sort.grow (redrawn w1 d) os))
  have cS := fun d os => quiet_ext (row_size 0 400 0 3 tg n c q s (Go.Sort.grow (redrawn w1 d) os))
  have hm1 := mr_size
  rw [HO.out] at cO
  have CS := Lib.hid cS; have CO := Lib.hid cO
  clear cS cO x0 x1 x2 x3
  refine wp_region_quiet_below (by kernel_rfl) (by kernel_rfl) ?_
  repeat (first | go_big_quiet_step (first | exact CS.out _ _ | exact CO.out _ _) | quiet_step (first | exact CS.out _ _ | exact CO.out _ _))
  refine wpQuiet_nil ?_
  intro _ hw'
  obtain ⟨⟨dq, osq⟩, hw''⟩ := hw'
  subst hw''
  have HXQ := Lib.hid (Ext.regrown w1 dq osq)
  clear r0 r1 r2 r3 hm1
  go_wp2
  go_ret2
  refine ⟨?_, HX.out.trans HXQ.out⟩
  show Ending.returned (.tuple #[.int .u64 (bits .or .u64 (bits .or .u64 3 (tg * 256)) ((n : Nat) * 4294967296)), .bool true]) = _
  rw [head_or 3 tg n (by omega) (by omega) (by omega) (by omega) (by omega)]
  rfl
theorem head_4 (tg : Int) (n c : Nat) (q : Option Addr) (s : ByteArray) (w : World) (hn : n ≤ 9223372036854775807) (h : mayK 4 tg n s.size = true) : Calls Tryz.prog 47 #[.agg #[.int .i64 4, .int .i64 tg, .slice q n c, .string s]] w fun e w' => e = .returned (.tuple #[.int .u64 (headK 4 tg n s.size), .bool true]) ∧ Ext w w' := by
  have HM := Lib.hid (fun W => may_is 4 tg n c q s W hn)
  rw [h] at HM
  obtain ⟨_, _, ht0, ht1, hn4, hm4, _, _⟩ := mayK_bounds h
  have HO := Lib.hid (show ofV 4 = .iface 145 (.agg #[.int .i64 0, .int .i64 30, .int .i64 59]) from rfl)
  clear h
  go_enter Tryz.func47, Tryz.ntmps47
  go_wp2_with fail
  refine at_alloc1 fun W hE hS b0 => ?_
  refine (HM.out _).mono ?_
  rintro e w1 ⟨rfl, hx⟩
  have hb1 := (Below.block hx w.heap.size (by omega)).trans b0
  have HX := Lib.hid (hE.trans hx)
  clear hx hE hS b0
  obtain ⟨x0, x1, x2, x3⟩ := cells4 hb1
  clear hb1
  go_wp2_with fail
  have r0 := fun d os => cell_regrown x0 d os
  have r1 := fun d os => cell_regrown x1 d os
  have r2 := fun d os => cell_regrown x2 d os
  have r3 := fun d os => cell_regrown x3 d os
  have cO := fun d os => quiet_same (of_is 4 (Go.Sort.grow (redrawn w1 d) os))
  have cS := fun d os => quiet_ext (row_size 0 30 59 4 tg n c q s (Go.Sort.grow (redrawn w1 d) os))
  have hm1 := mr_size
  rw [HO.out] at cO
  have CS := Lib.hid cS; have CO := Lib.hid cO
  clear cS cO x0 x1 x2 x3
  refine wp_region_quiet_below (by kernel_rfl) (by kernel_rfl) ?_
  repeat (first | go_big_quiet_step (first | exact CS.out _ _ | exact CO.out _ _) | quiet_step (first | exact CS.out _ _ | exact CO.out _ _))
  refine wpQuiet_nil ?_
  intro _ hw'
  obtain ⟨⟨dq, osq⟩, hw''⟩ := hw'
  subst hw''
  have HXQ := Lib.hid (Ext.regrown w1 dq osq)
  clear r0 r1 r2 r3 hm1
  go_wp2
  go_ret2
  refine ⟨?_, HX.out.trans HXQ.out⟩
  show Ending.returned (.tuple #[.int .u64 (bits .or .u64 (bits .or .u64 4 (tg * 256)) ((n : Nat) * 4294967296)), .bool true]) = _
  rw [head_or 4 tg n (by omega) (by omega) (by omega) (by omega) (by omega)]
  rfl
theorem head_yes (kd tg : Int) (n c : Nat) (q : Option Addr) (s : ByteArray) (w : World) (hn : n ≤ 9223372036854775807) (h : mayK kd tg n s.size = true) : Calls Tryz.prog 47 #[.agg #[.int .i64 kd, .int .i64 tg, .slice q n c, .string s]] w fun e w' => e = .returned (.tuple #[.int .u64 (headK kd tg n s.size), .bool true]) ∧ Ext w w' := by
  rcases mayK_cases h with ⟨rfl, _⟩ | ⟨rfl, _⟩ | ⟨rfl, _⟩ | ⟨rfl, _⟩
  · exact head_1 tg n c q s w hn h
  · exact head_2 tg n c q s w hn h
  · exact head_3 tg n c q s w hn h
  · exact head_4 tg n c q s w hn h
end Go.Proofs.YtppkgfcobnknfaaGreatDoor
/- The reference's: may an object be, how many words, its head. -/
namespace Go.Proofs.YtppkgfcobnknfaaGreatDoor
open Go.RowKit
set_option maxHeartbeats 4000000
set_option maxRecDepth 100000
theorem refmay_1 (tg : Int) (n c : Nat) (q : Option Addr) (s : ByteArray) (w : World) : Calls Tryz.prog 60 #[.agg #[.int .i64 1, .int .i64 tg, .slice q n c, .string s]] w fun e w' => e = .returned (.bool (mayK 1 tg n s.size)) ∧ Ext w w' := by
  by_cases h0 : 0 ≤ tg
  · by_cases h1 : tg ≤ 255
    · by_cases h2 : 1 ≤ n
      · by_cases h3 : n ≤ 8
        · by_cases h4 : s.size = 0
          · have hb : mayK 1 tg n s.size = true := by simp [mayK, rowB, h0, h1, h2, h3, h4]
            rw [hb]
            clear hb
            have e0 : decide (0 ≤ tg) = true := decide_eq_true (by omega)
            have e1 : decide (tg ≤ 255) = true := decide_eq_true (by omega)
            have e2 : decide (1 ≤ (n : Int)) = true := decide_eq_true (by omega)
            have e3 : decide ((n : Int) ≤ 8) = true := decide_eq_true (by omega)
            have e4 : s.toList.isEmpty = true := (hsb s).2 h4
            clear h0 h1 h2 h3 h4
            go_enter Tryz.func60, Tryz.ntmps60
            go_wp2
            go_ret
            exact ⟨by rfl, Ext.alloc _ _⟩
          · have hb : mayK 1 tg n s.size = false := by simp only [mayK, rowB, decide_eq_false h4]; first | (simp; done) | (simp; intros; omega)
            rw [hb]
            clear hb
            have e0 : decide (0 ≤ tg) = true := decide_eq_true (by omega)
            have e1 : decide (tg ≤ 255) = true := decide_eq_true (by omega)
            have e2 : decide (1 ≤ (n : Int)) = true := decide_eq_true (by omega)
            have e3 : decide ((n : Int) ≤ 8) = true := decide_eq_true (by omega)
            have e4 : s.toList.isEmpty = false := hsb_ne h4
            clear h0 h1 h2 h3 h4
            go_enter Tryz.func60, Tryz.ntmps60
            go_wp2
            go_ret
            exact ⟨by rfl, Ext.alloc _ _⟩
        · have hb : mayK 1 tg n s.size = false := by simp only [mayK, rowB, decide_eq_false h3]; first | (simp; done) | (simp; intros; omega)
          rw [hb]
          clear hb
          have e0 : decide (0 ≤ tg) = true := decide_eq_true (by omega)
          have e1 : decide (tg ≤ 255) = true := decide_eq_true (by omega)
          have e2 : decide (1 ≤ (n : Int)) = true := decide_eq_true (by omega)
          have e3 : decide ((n : Int) ≤ 8) = false := decide_eq_false (by omega)
          clear h0 h1 h2 h3
          go_enter Tryz.func60, Tryz.ntmps60
          go_wp2
          go_ret
          exact ⟨by rfl, Ext.alloc _ _⟩
      · have hb : mayK 1 tg n s.size = false := by simp only [mayK, rowB, decide_eq_false h2]; first | (simp; done) | (simp; intros; omega)
        rw [hb]
        clear hb
        have e0 : decide (0 ≤ tg) = true := decide_eq_true (by omega)
        have e1 : decide (tg ≤ 255) = true := decide_eq_true (by omega)
        have e2 : decide (1 ≤ (n : Int)) = false := decide_eq_false (by omega)
        clear h0 h1 h2
        go_enter Tryz.func60, Tryz.ntmps60
        go_wp2
        go_ret
        exact ⟨by rfl, Ext.alloc _ _⟩
    · have hb : mayK 1 tg n s.size = false := by simp only [mayK, rowB, decide_eq_false h1]; first | (simp; done) | (simp; intros; omega)
      rw [hb]
      clear hb
      have e0 : decide (0 ≤ tg) = true := decide_eq_true (by omega)
      have e1 : decide (tg ≤ 255) = false := decide_eq_false (by omega)
      clear h0 h1
      go_enter Tryz.func60, Tryz.ntmps60
      go_wp2
      go_ret
      exact ⟨by rfl, Ext.alloc _ _⟩
  · have hb : mayK 1 tg n s.size = false := by simp only [mayK, rowB, decide_eq_false h0]; first | (simp; done) | (simp; intros; omega)
    rw [hb]
    clear hb
    have e0 : decide (0 ≤ tg) = false := decide_eq_false (by omega)
    clear h0
    go_enter Tryz.func60, Tryz.ntmps60
    go_wp2
    go_ret
    exact ⟨by rfl, Ext.alloc _ _⟩
theorem refmay_2 (tg : Int) (n c : Nat) (q : Option Addr) (s : ByteArray) (w : World) : Calls Tryz.prog 60 #[.agg #[.int .i64 2, .int .i64 tg, .slice q n c, .string s]] w fun e w' => e = .returned (.bool (mayK 2 tg n s.size)) ∧ Ext w w' := by
  by_cases h0 : tg = 0
  · by_cases h1 : n = 0
    · by_cases h2 : s.size ≤ 400
      · have hb : mayK 2 tg n s.size = true := by simp [mayK, h0, h1, h2]
        rw [hb]
        clear hb
        have e0 : (tg == 0) = true := beq_iff_eq.2 h0
        have e1 : ((n : Int) == 0) = true := beq_iff_eq.2 (by omega)
        have e2 : decide ((s.size : Int) ≤ 400) = true := decide_eq_true (by omega)
        clear h0 h1 h2
        go_enter Tryz.func60, Tryz.ntmps60
        go_wp2
        go_ret
        exact ⟨by rfl, Ext.alloc _ _⟩
      · have hb : mayK 2 tg n s.size = false := by simp only [mayK, rowB, decide_eq_false h2]; first | (simp; done) | (simp; intros; omega)
        rw [hb]
        clear hb
        have e0 : (tg == 0) = true := beq_iff_eq.2 h0
        have e1 : ((n : Int) == 0) = true := beq_iff_eq.2 (by omega)
        have e2 : decide ((s.size : Int) ≤ 400) = false := decide_eq_false (by omega)
        clear h0 h1 h2
        go_enter Tryz.func60, Tryz.ntmps60
        go_wp2
        go_ret
        exact ⟨by rfl, Ext.alloc _ _⟩
    · have hb : mayK 2 tg n s.size = false := by simp only [mayK, rowB, decide_eq_false h1]; first | (simp; done) | (simp; intros; omega)
      rw [hb]
      clear hb
      have e0 : (tg == 0) = true := beq_iff_eq.2 h0
      have e1 : ((n : Int) == 0) = false := beq_false_of_ne (by omega)
      clear h0 h1
      go_enter Tryz.func60, Tryz.ntmps60
      go_wp2
      go_ret
      exact ⟨by rfl, Ext.alloc _ _⟩
  · have hb : mayK 2 tg n s.size = false := by simp only [mayK, rowB, decide_eq_false h0]; first | (simp; done) | (simp; intros; omega)
    rw [hb]
    clear hb
    have e0 : (tg == 0) = false := beq_false_of_ne h0
    clear h0
    go_enter Tryz.func60, Tryz.ntmps60
    go_wp2
    go_ret
    exact ⟨by rfl, Ext.alloc _ _⟩
theorem refmay_3 (tg : Int) (n c : Nat) (q : Option Addr) (s : ByteArray) (w : World) : Calls Tryz.prog 60 #[.agg #[.int .i64 3, .int .i64 tg, .slice q n c, .string s]] w fun e w' => e = .returned (.bool (mayK 3 tg n s.size)) ∧ Ext w w' := by
  by_cases h0 : tg = 0
  · by_cases h1 : n ≤ 400
    · by_cases h2 : s.size = 0
      · have hb : mayK 3 tg n s.size = true := by simp [mayK, rowB, h0, h1, h2]
        rw [hb]
        clear hb
        have e0 : (tg == 0) = true := beq_iff_eq.2 h0
        have e1 : decide ((n : Int) ≤ 400) = true := decide_eq_true (by omega)
        have e2 : s.toList.isEmpty = true := (hsb s).2 h2
        clear h0 h1 h2
        go_enter Tryz.func60, Tryz.ntmps60
        go_wp2
        go_ret
        exact ⟨by rfl, Ext.alloc _ _⟩
      · have hb : mayK 3 tg n s.size = false := by simp only [mayK, rowB, decide_eq_false h2]; first | (simp; done) | (simp; intros; omega)
        rw [hb]
        clear hb
        have e0 : (tg == 0) = true := beq_iff_eq.2 h0
        have e1 : decide ((n : Int) ≤ 400) = true := decide_eq_true (by omega)
        have e2 : s.toList.isEmpty = false := hsb_ne h2
        clear h0 h1 h2
        go_enter Tryz.func60, Tryz.ntmps60
        go_wp2
        go_ret
        exact ⟨by rfl, Ext.alloc _ _⟩
    · have hb : mayK 3 tg n s.size = false := by simp only [mayK, rowB, decide_eq_false h1]; first | (simp; done) | (simp; intros; omega)
      rw [hb]
      clear hb
      have e0 : (tg == 0) = true := beq_iff_eq.2 h0
      have e1 : decide ((n : Int) ≤ 400) = false := decide_eq_false (by omega)
      clear h0 h1
      go_enter Tryz.func60, Tryz.ntmps60
      go_wp2
      go_ret
      exact ⟨by rfl, Ext.alloc _ _⟩
  · have hb : mayK 3 tg n s.size = false := by simp only [mayK, rowB, decide_eq_false h0]; first | (simp; done) | (simp; intros; omega)
    rw [hb]
    clear hb
    have e0 : (tg == 0) = false := beq_false_of_ne h0
    clear h0
    go_enter Tryz.func60, Tryz.ntmps60
    go_wp2
    go_ret
    exact ⟨by rfl, Ext.alloc _ _⟩
theorem refmay_4 (tg : Int) (n c : Nat) (q : Option Addr) (s : ByteArray) (w : World) : Calls Tryz.prog 60 #[.agg #[.int .i64 4, .int .i64 tg, .slice q n c, .string s]] w fun e w' => e = .returned (.bool (mayK 4 tg n s.size)) ∧ Ext w w' := by
  by_cases h0 : 0 ≤ tg
  · by_cases h1 : tg ≤ 59
    · by_cases h2 : n ≤ 30
      · by_cases h3 : s.size = 0
        · have hb : mayK 4 tg n s.size = true := by simp [mayK, rowB, h0, h1, h2, h3]
          rw [hb]
          clear hb
          have e0 : decide (0 ≤ tg) = true := decide_eq_true (by omega)
          have e1 : decide (tg < 60) = true := decide_eq_true (by omega)
          have e2 : decide ((n : Int) ≤ 30) = true := decide_eq_true (by omega)
          have e3 : s.toList.isEmpty = true := (hsb s).2 h3
          clear h0 h1 h2 h3
          go_enter Tryz.func60, Tryz.ntmps60
          go_wp2
          go_ret
          exact ⟨by rfl, Ext.alloc _ _⟩
        · have hb : mayK 4 tg n s.size = false := by simp only [mayK, rowB, decide_eq_false h3]; first | (simp; done) | (simp; intros; omega)
          rw [hb]
          clear hb
          have e0 : decide (0 ≤ tg) = true := decide_eq_true (by omega)
          have e1 : decide (tg < 60) = true := decide_eq_true (by omega)
          have e2 : decide ((n : Int) ≤ 30) = true := decide_eq_true (by omega)
          have e3 : s.toList.isEmpty = false := hsb_ne h3
          clear h0 h1 h2 h3
          go_enter Tryz.func60, Tryz.ntmps60
          go_wp2
          go_ret
          exact ⟨by rfl, Ext.alloc _ _⟩
      · have hb : mayK 4 tg n s.size = false := by simp only [mayK, rowB, decide_eq_false h2]; first | (simp; done) | (simp; intros; omega)
        rw [hb]
        clear hb
        have e0 : decide (0 ≤ tg) = true := decide_eq_true (by omega)
        have e1 : decide (tg < 60) = true := decide_eq_true (by omega)
        have e2 : decide ((n : Int) ≤ 30) = false := decide_eq_false (by omega)
        clear h0 h1 h2
        go_enter Tryz.func60, Tryz.ntmps60
        go_wp2
        go_ret
        exact ⟨by rfl, Ext.alloc _ _⟩
    · have hb : mayK 4 tg n s.size = false := by simp only [mayK, rowB, decide_eq_false h1]; first | (simp; done) | (simp; intros; omega)
      rw [hb]
      clear hb
      have e0 : decide (0 ≤ tg) = true := decide_eq_true (by omega)
      have e1 : decide (tg < 60) = false := decide_eq_false (by omega)
      clear h0 h1
      go_enter Tryz.func60, Tryz.ntmps60
      go_wp2
      go_ret
      exact ⟨by rfl, Ext.alloc _ _⟩
  · have hb : mayK 4 tg n s.size = false := by simp only [mayK, rowB, decide_eq_false h0]; first | (simp; done) | (simp; intros; omega)
    rw [hb]
    clear hb
    have e0 : decide (0 ≤ tg) = false := decide_eq_false (by omega)
    clear h0
    go_enter Tryz.func60, Tryz.ntmps60
    go_wp2
    go_ret
    exact ⟨by rfl, Ext.alloc _ _⟩
theorem refmay_is (kd tg : Int) (n c : Nat) (q : Option Addr) (s : ByteArray) (w : World) : Calls Tryz.prog 60 #[.agg #[.int .i64 kd, .int .i64 tg, .slice q n c, .string s]] w fun e w' => e = .returned (.bool (mayK kd tg n s.size)) ∧ Ext w w' := by
  by_cases h1 : kd = 1
  · subst h1; exact refmay_1 tg n c q s w
  · by_cases h2 : kd = 2
    · subst h2; exact refmay_2 tg n c q s w
    · by_cases h3 : kd = 3
      · subst h3; exact refmay_3 tg n c q s w
      · by_cases h4 : kd = 4
        · subst h4; exact refmay_4 tg n c q s w
        · have hb : mayK kd tg n s.size = false := by unfold mayK; rw [if_neg h1, if_neg h2, if_neg h3, if_neg h4]
          rw [hb]
          have e1 : (kd == 1) = false := beq_false_of_ne h1
          have e2 : (kd == 2) = false := beq_false_of_ne h2
          have e3 : (kd == 3) = false := beq_false_of_ne h3
          have e4 : (kd == 4) = false := beq_false_of_ne h4
          clear hb h1 h2 h3 h4
          go_enter Tryz.func60, Tryz.ntmps60
          go_wp2
          go_ret
          exact ⟨rfl, Ext.alloc _ _⟩
theorem rwords_no (kd tg : Int) (n c : Nat) (q : Option Addr) (s : ByteArray) (w : World) (h : mayK kd tg n s.size = false) : Calls Tryz.prog 39 #[.agg #[.int .i64 kd, .int .i64 tg, .slice q n c, .string s]] w fun e w' => e = .returned (.int .i64 0) ∧ Ext w w' := by
  have HM := Lib.hid (fun W => refmay_is kd tg n c q s W)
  rw [h] at HM
  clear h
  go_enter Tryz.func39, Tryz.ntmps39
  go_wp2_with fail
  refine (HM.out _).mono ?_
  rintro e w1 ⟨rfl, hx⟩
  go_wp2
  go_ret
  exact ⟨rfl, (Ext.alloc _ _).trans hx⟩
theorem rwords_yes (kd tg : Int) (n c : Nat) (q : Option Addr) (s : ByteArray) (w : World) (h : mayK kd tg n s.size = true) : Calls Tryz.prog 39 #[.agg #[.int .i64 kd, .int .i64 tg, .slice q n c, .string s]] w fun e w' => e = .returned (.int .i64 ((1 + bodyK kd n s.size : Nat) : Int)) ∧ Ext w w' := by
  have HM := Lib.hid (fun W => refmay_is kd tg n c q s W)
  rw [h] at HM
  obtain ⟨_, _, _, _, hn4, hm4, _, _⟩ := mayK_bounds h
  by_cases h2 : kd = 2
  · subst h2
    have hb : bodyK 2 n s.size = (s.size + 7) / 8 := rfl
    rw [hb]
    clear h hb
    go_enter Tryz.func39, Tryz.ntmps39
    go_wp2_with fail
    refine at_alloc1 fun W hE hS b0 => ?_
    refine (HM.out _).mono ?_
    rintro e w1 ⟨rfl, hx⟩
    have hb1 := (Below.block hx w.heap.size (by omega)).trans b0
    have HX := Lib.hid (hE.trans hx)
    clear hx hE hS b0
    obtain ⟨x0, x1, x2, x3⟩ := cells4 hb1
    clear hb1
    go_wp2
    go_ret
    refine ⟨?_, HX.out⟩
    show Ending.returned (.int .i64 (1 + ((s.size : Int) + 7) / 8)) = _
    congr 2
  · have hb : bodyK kd n s.size = n := if_neg h2
    rw [hb]
    have e2 : (kd == 2) = false := beq_false_of_ne h2
    clear h hb h2
    go_enter Tryz.func39, Tryz.ntmps39
    go_wp2_with fail
    refine at_alloc1 fun W hE hS b0 => ?_
    refine (HM.out _).mono ?_
    rintro e w1 ⟨rfl, hx⟩
    have hb1 := (Below.block hx w.heap.size (by omega)).trans b0
    have HX := Lib.hid (hE.trans hx)
    clear hx hE hS b0
    obtain ⟨x0, x1, x2, x3⟩ := cells4 hb1
    clear hb1
    go_wp2
    go_ret
    refine ⟨?_, HX.out⟩
    show Ending.returned (.int .i64 (1 + (n : Int))) = _
    congr 2
end Go.Proofs.YtppkgfcobnknfaaGreatDoor
