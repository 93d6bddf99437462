/- Proved here: the contracts and laws of DatI, DatJ, DatK, DatZ, DatOA, FrmA, FrmB, OpT, FrmC, OpA, CodA, CodB of this claim, each beneath its own remark; conditions: those that each theorem names. -/
import Derived.Test.YtppkgfcobnknfaaGreatDoorM8
import Derived.Test.YtppkgfcobnknfaaGreatDoorM5
import Derived.Test.YtppkgfcobnknfaaGreatDoorM7
import Derived.Test.YtppkgfcobnknfaaGreatDoorRows
import Derived.Test.YtppkgfcobnknfaaGreatDoorM1
import Derived.Test.YtppkgfcobnknfaaGreatDoorM4
import Derived.Test.YtppkgfcobnknfaaGreatDoorM2
import Derived.OpenShut
import Derived.Deep.CutBlock
/- Data, in plain Lean: fitting does not hang on how many steps it is given. -/
namespace Go.Proofs.YtppkgfcobnknfaaGreatDoor
open Go Go.RowKit
set_option maxRecDepth 100000
/-- one step of fitting, the rest as it is told -/
def stepB (F : List Fo) (M : List Cl) (r : Nat → Nat → Bool) (k at_ : Nat) : Bool :=
    match F[k]?, M[at_]? with
    | some x, some c =>
      if x.kind = 1 then decide (c.kind = 0)
      else if x.kind = 2 then decide (c.kind = 0) && (decide (c.n = 0) || decide (c.n = 1))
      else if x.kind = 3 then decide (c.kind = 0) && decide (c.n = 0)
      else if x.kind = 4 then decide (c.kind = 2)
      else if x.kind = 5 then decide (c.kind = 1) && decide (c.tag = 0) && decide (c.n = 2) && r x.a.toNat (at_ + 1) && r x.b.toNat (nxt M (at_ + 1))
      else if x.kind = 6 then decide (c.kind = 0) && decide (c.n = 0) || decide (c.kind = 1) && decide (c.tag = 1) && decide (c.n = 2) && r x.a.toNat (at_ + 1) && r k (nxt M (at_ + 1))
      else if c.kind = 0 then decide (0 ≤ c.n) && decide (c.n < x.cons.length) && decide (x.cons.getD c.n.toNat 0 < 0)
      else decide (c.kind = 1) && decide (c.n = 1) && decide (c.tag < x.cons.length) && decide (0 ≤ x.cons.getD c.tag.toNat 0) && r (x.cons.getD c.tag.toNat 0).toNat (at_ + 1)
    | _, _ => false
theorem fitsB_succ (F : List Fo) (M : List Cl) (s k at_ : Nat) : fitsB F M (s + 1) k at_ = stepB F M (fitsB F M s) k at_ := by rw [fitsB]; rfl
theorem stepB_congr {F : List Fo} {M : List Cl} {r r' : Nat → Nat → Bool} {k at_ o : Nat} (hA : At M at_ (o + 1)) (h : ∀ k' a o', at_ < a → At M a (o' + 1) → r k' a = r' k' a) : stepB F M r k at_ = stepB F M r' k at_ := by
  obtain ⟨c, hc, hg, hN⟩ := hA.cell
  unfold stepB
  rw [hc]
  cases F[k]? with
  | none => rfl
  | some x =>
    dsimp only
    by_cases b1 : c.kind = 1
    · by_cases b2 : c.n = 2
      · have hw : wt c = 2 := by rw [wt_block b1, b2]; rfl
        rw [hw] at hN
        have hn := At.next (o := o + 1) hN
        rw [h _ (at_ + 1) (o + 1) (by omega) hN, h _ (nxt M (at_ + 1)) o (by omega) hn.1, h _ (nxt M (at_ + 1)) o (by omega) hn.1, h _ (at_ + 1) (o + 1) (by omega) hN]
      · by_cases b3 : c.n = 1
        · have hw : wt c = 1 := by rw [wt_block b1, b3]; rfl
          rw [hw] at hN
          rw [h (x.cons.getD c.tag.toNat 0).toNat (at_ + 1) o (by omega) hN]
          simp [b2]
        · simp [b2, b3]
    · simp [b1]
theorem At.lt {M : List Cl} {k o : Nat} (h : At M k (o + 1)) : k < M.length := by
  obtain ⟨x, hx, _⟩ := h.cell
  exact (List.getElem?_eq_some_iff.1 hx).1
/-- with more steps than cells are left the answer stands -/
theorem fitsB_steps {F : List Fo} {M : List Cl} : ∀ (s k at_ o : Nat), At M at_ (o + 1) → M.length ≤ at_ + s → fitsB F M (s + 1) k at_ = fitsB F M s k at_
  | 0, k, at_, o, hA, hs => by have := hA.lt; omega
  | s + 1, k, at_, o, hA, hs => by
    rw [fitsB_succ, fitsB_succ]
    exact stepB_congr hA fun k' a o' hlt hA' => fitsB_steps s k' a o' hA' (by omega)
theorem fitsB_more {F : List Fo} {M : List Cl} {s k at_ o : Nat} (hA : At M at_ (o + 1)) (hs : M.length ≤ at_ + s) : ∀ d, fitsB F M (s + d) k at_ = fitsB F M s k at_
  | 0 => rfl
  | d + 1 => by rw [← Nat.add_assoc, fitsB_steps _ _ _ _ hA (by omega), fitsB_more hA hs d]
end Go.Proofs.YtppkgfcobnknfaaGreatDoor
/- Data, in plain Lean: fitting looks at the whole alone. -/
namespace Go.Proofs.YtppkgfcobnknfaaGreatDoor
open Go Go.RowKit
set_option maxRecDepth 100000
theorem nxt_shift (A B : List Cl) {M : List Cl} {k o : Nat} (h : At M k (o + 1)) : nxt (A ++ (M ++ B)) (A.length + k) = A.length + nxt M k := by
  obtain ⟨h1, h2⟩ := h
  have e2 : o + 1 = 1 + o := by omega
  rw [e2] at h2
  obtain ⟨A1, B1, e, hA, hB⟩ := needs_split _ 1 o h2
  have hd : (A ++ (M ++ B)).drop (A.length + k) = M.drop k ++ B := by
    rw [← List.drop_drop, List.drop_left, List.drop_append_of_le_length h1]
  have f1 : firstL (M.drop k) 1 = A1.length := by rw [e]; exact firstL_app A1 1 hA
  have f2 : firstL (M.drop k ++ B) 1 = A1.length := by rw [e, List.append_assoc]; exact firstL_app A1 1 hA
  unfold nxt
  rw [hd, f1, f2]
  omega
theorem cell_shift (A B : List Cl) {M : List Cl} {k : Nat} (h : k < M.length) : (A ++ (M ++ B))[A.length + k]? = M[k]? := by
  rw [List.getElem?_append_right (by omega), Nat.add_sub_cancel_left, List.getElem?_append_left h]
theorem fitsB_shift {F : List Fo} (A B : List Cl) {M : List Cl} : ∀ (s k at_ o : Nat), At M at_ (o + 1) → fitsB F (A ++ (M ++ B)) s k (A.length + at_) = fitsB F M s k at_
  | 0, _, _, _, _ => rfl
  | s + 1, k, at_, o, hA => by
    have ih := fitsB_shift (F := F) A B (M := M) s
    rw [fitsB_succ, fitsB_succ]
    obtain ⟨c, hc, hg, hN⟩ := hA.cell
    unfold stepB
    rw [cell_shift A B hA.lt, hc]
    cases F[k]? with
    | none => rfl
    | some x =>
      dsimp only
      by_cases b1 : c.kind = 1
      · by_cases b2 : c.n = 2
        · have hw : wt c = 2 := by rw [wt_block b1, b2]; rfl
          rw [hw] at hN
          have hn := At.next (o := o + 1) hN
          have e1 : A.length + at_ + 1 = A.length + (at_ + 1) := by omega
          simp only [e1, nxt_shift A B (o := o + 1) hN, ih _ (at_ + 1) (o + 1) hN, ih _ (nxt M (at_ + 1)) o hn.1]
        · by_cases b3 : c.n = 1
          · have hw : wt c = 1 := by rw [wt_block b1, b3]; rfl
            rw [hw] at hN
            have e1 : A.length + at_ + 1 = A.length + (at_ + 1) := by omega
            rw [e1, ih (x.cons.getD c.tag.toNat 0).toNat (at_ + 1) o hN]
            simp [b2]
          · simp [b2, b3]
      · simp [b1]
end Go.Proofs.YtppkgfcobnknfaaGreatDoor
/- Data, in plain Lean: what DataFits asks. -/
namespace Go.Proofs.YtppkgfcobnknfaaGreatDoor
open Go Go.RowKit
set_option maxRecDepth 100000
/-- may forms be (as code.Good asks it of a program) -/
def formsB (F : List Fo) : Bool := decide (F.length ≤ 40) && F.all fun x => goodFo x F.length
theorem formsB_all {F : List Fo} (h : formsB F = true) : F.length ≤ 40 ∧ ∀ x ∈ F, goodFo x F.length = true := by
  unfold formsB at h
  simp only [Bool.and_eq_true, decide_eq_true_eq, List.all_eq_true] at h
  exact h
theorem formsB_of {F : List Fo} (h : F.length ≤ 40) (g : ∀ x ∈ F, goodFo x F.length = true) : formsB F = true := by
  unfold formsB
  simp only [Bool.and_eq_true, decide_eq_true_eq, List.all_eq_true]
  exact ⟨h, g⟩
/-- what data.Fits tells -/
def fitD (F : List Fo) (k : Int) (M : List Cl) : Bool := decide (0 ≤ k) && decide (k < F.length) && goodM M && formsB F && (fitsN F M M.length k.toNat 0 == M.length)
theorem nxt_whole {M : List Cl} (h : goodM M = true) : nxt M 0 = M.length := by
  have h2 := (goodM_some h).2.1
  unfold nxt
  rw [List.drop_zero, Nat.zero_add]
  have := firstL_app (B := []) M 1 h2
  rwa [List.append_nil] at this
theorem fitD_is {F : List Fo} {k : Nat} {M : List Cl} (hF : formsB F = true) (hk : k < F.length) (hM : goodM M = true) : fitD F k M = fitsB F M M.length k 0 := by
  unfold fitD
  rw [decide_eq_true (by omega : (0 : Int) ≤ k), decide_eq_true (by omega : (k : Int) < F.length), hM, hF]
  rw [Int.toNat_natCast, fitsN_is (formsB_all hF).2 M.length k 0 0 (At.first hM) hk, nxt_whole hM]
  have := (goodM_len hM).1
  cases fitsB F M M.length k 0 with
  | true => simp
  | false => simp; omega
/-- the forms that DataFits adds -/
def addF (k : Int) : List Fo := [⟨5, k, k, []⟩, ⟨6, k, 0, []⟩, ⟨7, 0, 0, [-1, k]⟩]
theorem goodFo_mono {f : Fo} {n m : Nat} (h : goodFo f n = true) (hn : n ≤ m) : goodFo f m = true := by
  unfold goodFo inB at h ⊢
  simp only [Bool.and_eq_true, decide_eq_true_eq, List.all_eq_true] at h ⊢
  obtain ⟨⟨⟨⟨h1, h2⟩, h3⟩, h4⟩, h5⟩ := h
  refine ⟨⟨⟨⟨fun x hx => ?_, h2⟩, ?_⟩, ?_⟩, h5⟩
  · have := h1 x hx; omega
  · split at h3 <;> omega
  · split at h4 <;> omega
theorem addF_len (F : List Fo) (k : Int) : (F ++ addF k).length = F.length + 3 := by rw [List.length_append]; rfl
theorem addF_good {F : List Fo} {k : Nat} (hF : formsB F = true) (hl : F.length ≤ 36) (hk : k < F.length) : formsB (F ++ addF k) = true := by
  refine formsB_of (by rw [addF_len]; omega) fun x hx => ?_
  rw [addF_len]
  rcases List.mem_append.1 hx with hx | hx
  · exact goodFo_mono ((formsB_all hF).2 x hx) (by omega)
  · simp only [addF, List.mem_cons, List.not_mem_nil, or_false] at hx
    rcases hx with rfl | rfl | rfl
    · unfold goodFo inB; simp; omega
    · unfold goodFo inB; simp; omega
    · unfold goodFo inB; simp; omega
theorem addF_at (F : List Fo) (k : Int) : (F ++ addF k)[F.length]? = some ⟨5, k, k, []⟩ ∧ (F ++ addF k)[F.length + 1]? = some ⟨6, k, 0, []⟩ ∧ (F ++ addF k)[F.length + 2]? = some ⟨7, 0, 0, [-1, k]⟩ := by
  refine ⟨?_, ?_, ?_⟩
  · rw [List.getElem?_append_right (Nat.le_refl _), Nat.sub_self]; rfl
  · rw [List.getElem?_append_right (by omega), show F.length + 1 - F.length = 1 by omega]; rfl
  · rw [List.getElem?_append_right (by omega), show F.length + 2 - F.length = 2 by omega]; rfl
theorem fit_same {F : List Fo} {k : Nat} {M : List Cl} (hF : formsB F = true) (hl : F.length ≤ 36) (hk : k < F.length) (hM : goodM M = true) : fitD (F ++ addF k) k M = fitD F k M := by
  rw [fitD_is (addF_good hF hl hk) (by rw [addF_len]; omega) hM, fitD_is hF hk hM, fitsB_forms _ (formsB_all hF).2 _ _ _ hk]
/-- how many wholes the messages' first cells want -/
def hd (t n : Int) : Cl := ⟨1, t, n, ByteArray.empty⟩
def nul : Cl := ⟨0, 0, 0, ByteArray.empty⟩
def twoM (M : List Cl) : List Cl := hd 0 2 :: (M ++ M)
def listM (M : List Cl) : List Cl := hd 1 2 :: (M ++ [nul])
def conM (M : List Cl) : List Cl := hd 1 1 :: M
theorem nul_needs : needs [nul] 1 = true := by decide +kernel
theorem nul_good : goodM [nul] = true := by decide +kernel
theorem hd_good (t n : Int) (h0 : 0 ≤ t) (h1 : t ≤ 255) (h2 : 1 ≤ n) (h3 : n ≤ 8) : goodC (hd t n) = true := by
  unfold goodC hd
  simp
  omega
theorem two_good {M : List Cl} (hM : goodM M = true) (hl : M.length ≤ 40) : goodM (twoM M) = true := by
  have h2 := (goodM_some hM).2.1
  unfold twoM
  rw [goodM_of (by simp; omega), needs_step (by decide) (hd_good 0 2 (by decide) (by decide) (by decide) (by decide))]
  show needs (M ++ M) (1 + 1) = true
  rw [needs_app M 1 1 h2, h2]
theorem list_good {M : List Cl} (hM : goodM M = true) (hl : M.length ≤ 40) : goodM (listM M) = true := by
  have h2 := (goodM_some hM).2.1
  unfold listM
  rw [goodM_of (by simp; omega), needs_step (by decide) (hd_good 1 2 (by decide) (by decide) (by decide) (by decide))]
  show needs (M ++ [nul]) (1 + 1) = true
  rw [needs_app M 1 1 h2, nul_needs]
theorem con_good {M : List Cl} (hM : goodM M = true) (hl : M.length ≤ 40) : goodM (conM M) = true := by
  have h2 := (goodM_some hM).2.1
  unfold conM
  rw [goodM_of (by simp; omega), needs_step (by decide) (hd_good 1 1 (by decide) (by decide) (by decide) (by decide))]
  exact h2
/-- the first whole behind the first cell -/
theorem first_fit {G : List Fo} {M B : List Cl} {c : Cl} {k s : Nat} (hM : goodM M = true) (hs : M.length ≤ s) : fitsB G (c :: (M ++ B)) s k 1 = fitsB G M M.length k 0 ∧ nxt (c :: (M ++ B)) 1 = 1 + M.length := by
  have h1 := fitsB_shift (F := G) [c] B (M := M) s k 0 0 (At.first hM)
  have h2 := nxt_shift [c] B (M := M) (k := 0) (o := 0) (At.first hM)
  rw [nxt_whole hM] at h2
  refine ⟨?_, h2⟩
  refine Eq.trans h1 ?_
  obtain ⟨d, rfl⟩ : ∃ d, s = M.length + d := ⟨s - M.length, by omega⟩
  exact fitsB_more (At.first hM) (by omega) d
theorem last_fit {G : List Fo} {M B : List Cl} {c : Cl} {k s : Nat} (hM : goodM M = true) (hs : M.length ≤ s) : fitsB G (c :: (B ++ M)) s k (1 + B.length) = fitsB G M M.length k 0 := by
  have h1 := fitsB_shift (F := G) (c :: B) [] (M := M) s k 0 0 (At.first hM)
  rw [List.append_nil, List.cons_append, List.length_cons, Nat.add_zero, Nat.add_comm] at h1
  refine Eq.trans h1 ?_
  obtain ⟨d, rfl⟩ : ∃ d, s = M.length + d := ⟨s - M.length, by omega⟩
  exact fitsB_more (At.first hM) (by omega) d
theorem fit_two {F : List Fo} {k : Nat} {M : List Cl} (hF : formsB F = true) (hl : F.length ≤ 36) (hk : k < F.length) (hM : goodM M = true) (hm : M.length ≤ 40) : fitD (F ++ addF k) F.length (twoM M) = fitD F k M := by
  have hG := addF_good hF hl hk
  rw [fitD_is hG (by rw [addF_len]; omega) (two_good hM hm), ← fit_same hF hl hk hM, fitD_is hG (by rw [addF_len]; omega) hM]
  have hL : (twoM M).length = (M.length + M.length) + 1 := by unfold twoM; simp
  rw [hL, fitsB_succ]
  unfold stepB
  rw [(addF_at F k).1, show (twoM M)[0]? = some (hd 0 2) from rfl]
  have f1 := first_fit (G := F ++ addF k) (B := M) (c := hd 0 2) (k := k) (s := M.length + M.length) hM (by omega)
  have f2 := last_fit (G := F ++ addF k) (B := M) (c := hd 0 2) (k := k) (s := M.length + M.length) hM (by omega)
  unfold twoM
  simp only [Int.toNat_natCast, Nat.zero_add, f1.1, f1.2, f2]
  simp [hd]
theorem fit_list {F : List Fo} {k : Nat} {M : List Cl} (hF : formsB F = true) (hl : F.length ≤ 36) (hk : k < F.length) (hM : goodM M = true) (hm : M.length ≤ 40) : fitD (F ++ addF k) ((F.length : Int) + 1) (listM M) = fitD F k M := by
  have hG := addF_good hF hl hk
  have e : ((F.length : Int) + 1) = ((F.length + 1 : Nat) : Int) := by omega
  rw [e, fitD_is hG (by rw [addF_len]; omega) (list_good hM hm), ← fit_same hF hl hk hM, fitD_is hG (by rw [addF_len]; omega) hM]
  have hL : (listM M).length = (M.length + 1) + 1 := by unfold listM; simp
  rw [hL, fitsB_succ]
  unfold stepB
  rw [(addF_at F k).2.1, show (listM M)[0]? = some (hd 1 2) from rfl]
  have f1 := first_fit (G := F ++ addF k) (B := [nul]) (c := hd 1 2) (k := k) (s := M.length + 1) hM (by omega)
  have f2 : fitsB (F ++ addF k) (hd 1 2 :: (M ++ [nul])) (M.length + 1) (F.length + 1) (1 + M.length) = true := by
    rw [fitsB_succ]
    unfold stepB
    rw [(addF_at F k).2.1, Nat.add_comm 1, List.getElem?_cons_succ, List.getElem?_append_right (Nat.le_refl _), Nat.sub_self]
    simp [nul]
  unfold listM
  simp only [Int.toNat_natCast, Nat.zero_add, f1.1, f1.2, f2]
  simp [hd]
theorem fit_con {F : List Fo} {k : Nat} {M : List Cl} (hF : formsB F = true) (hl : F.length ≤ 36) (hk : k < F.length) (hM : goodM M = true) (hm : M.length ≤ 40) : fitD (F ++ addF k) ((F.length : Int) + 2) (conM M) = fitD F k M := by
  have hG := addF_good hF hl hk
  have e : ((F.length : Int) + 2) = ((F.length + 2 : Nat) : Int) := by omega
  rw [e, fitD_is hG (by rw [addF_len]; omega) (con_good hM hm), ← fit_same hF hl hk hM, fitD_is hG (by rw [addF_len]; omega) hM]
  have hL : (conM M).length = M.length + 1 := by unfold conM; simp
  rw [hL, fitsB_succ]
  unfold stepB
  rw [(addF_at F k).2.2, show (conM M)[0]? = some (hd 1 1) from rfl]
  have f1 := (first_fit (G := F ++ addF k) (B := []) (c := hd 1 1) (k := k) (s := M.length) hM (by omega)).1
  rw [List.append_nil] at f1
  unfold conM
  simp [hd] at f1 ⊢
  exact f1
def one1 : Cl := ⟨0, 0, 1, ByteArray.empty⟩
theorem one1_good : goodM [one1] = true := by decide +kernel
theorem one_good {n : Int} (h : wrapW n = n) : goodM [⟨0, 0, n, ByteArray.empty⟩] = true := by
  unfold goodM needs
  simp [needs, goodC, h, wt]
theorem fit_nil {F : List Fo} {k : Nat} (hF : formsB F = true) (hl : F.length ≤ 36) (hk : k < F.length) : fitD (F ++ addF k) ((F.length : Int) + 1) [nul] = true := by
  have hG := addF_good hF hl hk
  have e : ((F.length : Int) + 1) = ((F.length + 1 : Nat) : Int) := by omega
  rw [e, fitD_is hG (by rw [addF_len]; omega) nul_good, show ([nul] : List Cl).length = 0 + 1 from rfl, fitsB_succ]
  unfold stepB
  rw [(addF_at F k).2.1]
  simp [nul]
theorem fit_zero {F : List Fo} {k : Nat} (hF : formsB F = true) (hl : F.length ≤ 36) (hk : k < F.length) : fitD (F ++ addF k) ((F.length : Int) + 2) [nul] = true := by
  have hG := addF_good hF hl hk
  have e : ((F.length : Int) + 2) = ((F.length + 2 : Nat) : Int) := by omega
  rw [e, fitD_is hG (by rw [addF_len]; omega) nul_good, show ([nul] : List Cl).length = 0 + 1 from rfl, fitsB_succ]
  unfold stepB
  rw [(addF_at F k).2.2]
  simp [nul]
theorem fit_one {F : List Fo} {k : Nat} (hF : formsB F = true) (hl : F.length ≤ 36) (hk : k < F.length) : fitD (F ++ addF k) ((F.length : Int) + 2) [one1] = false := by
  have hG := addF_good hF hl hk
  have e : ((F.length : Int) + 2) = ((F.length + 2 : Nat) : Int) := by omega
  rw [e, fitD_is hG (by rw [addF_len]; omega) one1_good, show ([one1] : List Cl).length = 0 + 1 from rfl, fitsB_succ]
  unfold stepB
  rw [(addF_at F k).2.2]
  simp [one1]
theorem fit_none {F : List Fo} {k : Nat} (hF : formsB F = true) (hl : F.length ≤ 36) (hk : k < F.length) : fitD (F ++ addF k) F.length [nul] = false := by
  have hG := addF_good hF hl hk
  rw [fitD_is hG (by rw [addF_len]; omega) nul_good, show ([nul] : List Cl).length = 0 + 1 from rfl, fitsB_succ]
  unfold stepB
  rw [(addF_at F k).1]
  simp [nul]
theorem fit_int {M : List Cl} {c : Cl} (hM : goodM M = true) (hc : M[0]? = some c) : fitD [⟨1, 0, 0, []⟩] 0 M = (c.kind == 0) := by
  obtain ⟨d, hd⟩ : ∃ d, M.length = d + 1 := ⟨M.length - 1, by have := (goodM_len hM).1; omega⟩
  rw [show (0 : Int) = ((0 : Nat) : Int) from rfl, fitD_is (by decide) (by decide) hM, hd, fitsB_succ]
  unfold stepB
  rw [hc]
  rw [Bool.eq_iff_iff]
  simp
theorem fit_str {M : List Cl} {c : Cl} (hM : goodM M = true) (hc : M[0]? = some c) : fitD [⟨4, 0, 0, []⟩] 0 M = (c.kind == 2) := by
  obtain ⟨d, hd⟩ : ∃ d, M.length = d + 1 := ⟨M.length - 1, by have := (goodM_len hM).1; omega⟩
  rw [show (0 : Int) = ((0 : Nat) : Int) from rfl, fitD_is (by decide) (by decide) hM, hd, fitsB_succ]
  unfold stepB
  rw [hc]
  rw [Bool.eq_iff_iff]
  simp
end Go.Proofs.YtppkgfcobnknfaaGreatDoor
/- data.In: a layer is made, its cells' places are set. -/
namespace Go.Proofs.YtppkgfcobnknfaaGreatDoor
open Go.RowKit Arena
set_option maxHeartbeats 8000000
set_option maxRecDepth 100000
theorem dmk_ints (k : Nat) (hk : k ≤ 1000) (W : World) : (Instr.makeSlice 59 (.int .i64 k) (.int .i64 k)).run Tryz.prog W = .ok (.slice (some ⟨W.heap.size, 0, none⟩) k k) (W.alloc (.cells (madeCells #[.int .i64 0] k) 3)) := by
  obtain ⟨i0, hi, hz0, hz1, hz2⟩ := info_parts (show (Tryz.prog.info? 3).map (fun i => (i.zero, i.size, i.bytes)) = some (some (.int .i64 0), 1, 8) by kernel_rfl)
  have h := run_makeSlice (P := Tryz.prog) (w := W) 59 3 i0 (.int .i64 0) Tryz.underlying59 hi hz0 .i64 .i64 (k : Int) (k : Int) (by omega) (by omega) (by rw [hz1]; omega) (by rw [hz2]; omega) (by omega)
  rw [hz1, Nat.mul_one] at h
  exact h
theorem dmk_obs (k : Nat) (hk : k ≤ 1000) (W : World) : (Instr.makeSlice 79 (.int .i64 k) (.int .i64 k)).run Tryz.prog W = .ok (.slice (some ⟨W.heap.size, 0, none⟩) k k) (W.alloc (.cells (madeCells #[.int .i64 0, .int .i64 0, .slice none 0 0, .string ⟨#[]⟩] (k * 4)) 56)) := by
  obtain ⟨i0, hi, hz0, hz1, hz2⟩ := info_parts (show (Tryz.prog.info? 56).map (fun i => (i.zero, i.size, i.bytes)) = some (some (.agg #[.int .i64 0, .int .i64 0, .slice none 0 0, .string ⟨#[]⟩]), 4, 56) by kernel_rfl)
  have h := run_makeSlice (P := Tryz.prog) (w := W) 79 56 i0 (.agg #[.int .i64 0, .int .i64 0, .slice none 0 0, .string ⟨#[]⟩]) Tryz.underlying79 hi hz0 .i64 .i64 (k : Int) (k : Int) (by omega) (by omega) (by rw [hz1]; omega) (by rw [hz2]; omega) (by omega)
  rw [hz1] at h
  exact h
/-- a layer as it was made: no place is set -/
structure LayNew (w W : World) (lb ab tb : Nat) (qm : Option Addr) (cm n : Nat) : Prop where
  ext : Ext w W
  ge : w.heap.size ≤ ab ∧ w.heap.size ≤ tb ∧ ab ≠ tb ∧ ab < lb ∧ tb < lb
  blk : W.heap[lb]? = some (.cells #[.slice qm n cm, .slice (some ⟨ab, 0, none⟩) n n, .slice (some ⟨tb, 0, none⟩) n n] 81 (0, 0))
  row : W.heap[ab]? = some (.cells (madeCells #[.int .i64 0] n) 3 (0, 0))
  to_ : ToAt W tb n
theorem din_yes {w : World} {p g bm n : Nat} {ws : List Int} {R : List (Nat × Nat)} (H : ArenaAt w p g bm n ws R) (h : Hp) (hw : (Lit.int .i64 h.base).wf = true) (hW : ∀ x ∈ ws, W64 x) {qm : Option Addr} {cm : Nat} {M : List Cl} (hm : MsgP w (.slice qm M.length cm) M) (hms : ∀ W, Turn [g] w W → MsgP W (.slice qm M.length cm) M) (hb : inB' ws R h M = true) :
    Calls Tryz.prog 11 #[.pointer (some ⟨p, 0, none⟩), .agg #[.int .i64 h.base, .int .i64 h.half, .int .i64 h.space, .int .i64 h.top], .slice qm M.length cm] w fun e w' =>
      e = .returned (.tuple #[.agg #[.int .i64 h.base, .int .i64 h.half, .int .i64 h.space, .int .i64 (h.top + (wsum M : Nat))], .int .u64 (wdC M (topN h) 0), .bool true]) ∧ ArenaAt w' p g bm n (inWs ws R h M) R ∧ Turn [g] w w' := by
  have HG := Lib.hid (fun W (e : Ext w W) d os => quiet_ext (good_is (H.ext (e.trans (Ext.regrown W d os))) h hw hW))
  have HM := Lib.hid (fun W (e : Ext w W) d os => quiet_ext (good_msg (hm.ext (e.trans (Ext.regrown W d os)))))
  obtain ⟨hg, ⟨L, ha⟩, hfit⟩ := inB_parts hb
  have HWd := Lib.hid (fun W (e : Ext w W) d os => quiet_ext (words_msg (hm.ext (e.trans (Ext.regrown W d os))) hg))
  have HWe := Lib.hid (fun W (e : Ext w W) => words_msg (hm.ext e) hg)
  rw [hg] at HM
  rw [ha] at HG
  obtain ⟨ht, -⟩ := allH_there ha
  obtain ⟨hk, h2⟩ := thereB_ok ht
  have hfn := firstN_is hk
  have htn : ((topN h : Nat) : Int) = h.space * h.half + h.top := by unfold topN; have := hk.2.2.2.2; rw [← hfn.1]; omega
  have htb : topN h + wsum M ≤ 4000 := by unfold topN; have := hk; unfold hpOK at this; omega
  obtain ⟨k1, k2, k3, k4, k5, k6⟩ := hk
  have b1 : decide (h.half - h.top < ((wsum M : Nat) : Int)) = false := decide_eq_false (by omega)
  have hgs := goodM_sum hg
  have hgl := goodM_len hg
  obtain ⟨mb, mo, rfl⟩ : ∃ mb mo, qm = some ⟨mb, mo, none⟩ := by
    obtain ⟨b, off, hq, _⟩ := MsgP.cells hm (List.getElem?_eq_getElem (show 0 < M.length by omega))
    exact ⟨b, off, hq⟩
  have HH := Lib.hid H; have HMS := Lib.hid hms; have HGM := Lib.hid hg; have HTN := Lib.hid htn; have HBs := Lib.hid hw
  unfold inWs
  generalize topN h = t at *
  have hlt := H.lt
  clear hms hw hW hm hb ha ht h2 hfn hg H
  obtain ⟨ba, hf, sp, tp⟩ := h
  dsimp only [Option.isSome] at *
  go_enter Tryz.func11, Tryz.ntmps11
  go_upto_region 1 with fail
  refine wp_alloc2 fun W hE hS b0 b1' => ?_
  obtain ⟨x0, x1, x2, x3⟩ := cells4 b0
  have B0 := Lib.hid b0; have B1 := Lib.hid b1'; have HE := Lib.hid hE
  have r0 := fun d os => cell_regrown x0 d os
  have r1 := fun d os => cell_regrown x1 d os
  have r2 := fun d os => cell_regrown x2 d os
  have r3 := fun d os => cell_regrown x3 d os
  clear b0 b1' x0 x1 x2 x3
  have CM := Lib.hid (HM.out W hE); have CG := Lib.hid (HG.out W hE); have CW := Lib.hid (HWd.out W hE)
  clear HM HG HWd hE
  refine wp_region_quiet_below (by kernel_rfl) (by kernel_rfl) ?_
  repeat (first | go_big_quiet_step (first | exact CM.out _ _ | exact CG.out _ _ | exact CW.out _ _) | quiet_step (first | exact CM.out _ _ | exact CG.out _ _ | exact CW.out _ _))
  refine wpQuiet_nil ?_
  intro _ hw'
  obtain ⟨⟨dq, osq⟩, hw''⟩ := hw'
  subst hw''
  have hxr := Ext.regrown W dq osq
  have HXQ := Lib.hid (HE.out.trans hxr)
  have c0 := (Below.block hxr w.heap.size (by omega)).trans B0.out
  have c1 := (Below.block hxr (w.heap.size + 1) (by omega)).trans B1.out
  have hsz : w.heap.size + 1 + 1 ≤ (Go.Sort.grow (redrawn W dq) osq).heap.size := by have := Below.size hxr; omega
  generalize Go.Sort.grow (redrawn W dq) osq = W1 at *
  have C0 := Lib.hid c0; have C1 := Lib.hid c1
  clear r0 r1 r2 r3 CM CG CW B0 B1 HE hxr c0 c1
  go_upto_region 3 with fail
  go_cut [9] from 35 to 43 (fun v9 wx => ∃ lb ab tb, v9 = .pointer (some ⟨lb, 0, none⟩) ∧ LayNew W1 wx lb ab tb (some ⟨mb, mo, none⟩) cm M.length)
  case first =>
    refine wp_region_noPanic ?_
    refine wp_region_last 9 (S := (fun _ => True)) (by kernel_rfl) (by kernel_rfl) _ rfl ?_ (fun hHeld => ?_)
    · skip
      have hmi := dmk_ints M.length (by omega)
      have hmo := dmk_obs M.length (by omega)
      have hX := Ext.drew W1
      generalize W1.drew = V at *
      (try exact trivial)
    have hmi := dmk_ints M.length (by omega)
    have hmo := dmk_obs M.length (by omega)
    have hX := Ext.drew W1
    generalize W1.drew = V at *
    simp only [List.take_succ_cons, List.take_zero]
    refine wpAnyH_take (i := 0) (v := ?v1) rfl (by kernel_rfl) (by kernel_rfl) (by kernel_rfl) (fun _ _ _ h => h) (Or.inl ⟨by rfl, ?y1⟩) (by assumption) ?r1
    case y1 => intro w hSw; (try dsimp only at hSw); go_simp; (try with_reducible rfl)
    (try simp only [Act.put, List.setIfInBounds_toArray, List.set_cons_zero, List.set_cons_succ, List.getElem_toArray, List.getElem_cons_zero, List.getElem_cons_succ])
    refine wpAnyH_take (i := 1) (v := ?v2) rfl (by kernel_rfl) (by kernel_rfl) (by kernel_rfl) (fun _ _ _ h => h) (Or.inl ⟨by rfl, ?y2⟩) (by assumption) ?r2
    case y2 => intro w hSw; (try dsimp only at hSw); go_simp; (try with_reducible rfl)
    (try simp only [Act.put, List.setIfInBounds_toArray, List.set_cons_zero, List.set_cons_succ, List.getElem_toArray, List.getElem_cons_zero, List.getElem_cons_succ])
    refine wpAnyH_take (i := 2) (v := ?v3) rfl (by kernel_rfl) (by kernel_rfl) (by kernel_rfl) (fun _ _ _ h => h) (Or.inl ⟨by rfl, ?y3⟩) (by assumption) ?r3
    case y3 => intro w hSw; (try dsimp only at hSw); go_simp; (try with_reducible rfl)
    (try simp only [Act.put, List.setIfInBounds_toArray, List.set_cons_zero, List.set_cons_succ, List.getElem_toArray, List.getElem_cons_zero, List.getElem_cons_succ])
    refine wpAnyH_take (i := 4) (v := ?v4) rfl (by kernel_rfl) (by kernel_rfl) (by kernel_rfl) (fun _ _ _ h => h) (Or.inl ⟨by rfl, ?y4⟩) (by assumption) ?r4
    case y4 => intro w hSw; (try dsimp only at hSw); go_simp; (try with_reducible rfl)
    (try simp only [Act.put, List.setIfInBounds_toArray, List.set_cons_zero, List.set_cons_succ, List.getElem_toArray, List.getElem_cons_zero, List.getElem_cons_succ])
    refine wpAnyH_take (i := 5) (v := ?v5) rfl (by kernel_rfl) (by kernel_rfl) (by kernel_rfl) (fun _ _ _ h => h) (Or.inl ⟨by rfl, ?y5⟩) (by assumption) ?r5
    case y5 => intro w hSw; (try dsimp only at hSw); go_simp; (try with_reducible rfl)
    (try simp only [Act.put, List.setIfInBounds_toArray, List.set_cons_zero, List.set_cons_succ, List.getElem_toArray, List.getElem_cons_zero, List.getElem_cons_succ])
    refine wpAnyH_ready (rs := [3, 6]) (by kernel_rfl) (by simp) ?_
    refine AllReadyH.cons rfl (fun K hK => ?_) (AllReadyH.cons rfl (fun K hK => ?_) (AllReadyH.nil))
    · skip
      go_simp
      have e1 := Ext.alloc V (.cells (madeCells #[.int .i64 0] M.length) 3)
      have hai := heap_alloc_new V (.cells (madeCells #[.int .i64 0] M.length) 3)
      have hage := Below.size hX
      (try have hlt2 := (Array.getElem?_eq_some_iff.1 hot).1)
      (try replace hot := (Below.block e1 _ (Array.getElem?_eq_some_iff.1 hot).1).trans hot)
      replace hX := hX.trans e1
      clear e1 hmi
      generalize V.heap.size = ab at *
      generalize V.alloc (.cells (madeCells #[.int .i64 0] M.length) 3) = V at *
      refine hK.out _ _ ?s6 (fun hHeld => ?k6)
      case s6 => ((try dsimp only); (try exact trivial))
      clear hK K
      (try simp only [Act.put, List.setIfInBounds_toArray, List.set_cons_zero, List.set_cons_succ, List.getElem_toArray, List.getElem_cons_zero, List.getElem_cons_succ])
      refine wpAnyH_ready (rs := [6]) (by kernel_rfl) (by simp) ?_
      refine AllReadyH.cons rfl (fun K hK => ?_) AllReadyH.nil
      go_simp
      have e1 := Ext.alloc V (.cells (madeCells #[.int .i64 0, .int .i64 0, .slice none 0 0, .string ⟨#[]⟩] (M.length * 4)) 56)
      have hot := heap_alloc_new V (.cells (madeCells #[.int .i64 0, .int .i64 0, .slice none 0 0, .string ⟨#[]⟩] (M.length * 4)) 56)
      have hoge := Below.size hX
      (try have hlt2 := (Array.getElem?_eq_some_iff.1 hai).1)
      (try replace hai := (Below.block e1 _ (Array.getElem?_eq_some_iff.1 hai).1).trans hai)
      replace hX := hX.trans e1
      clear e1 hmo
      generalize V.heap.size = tb at *
      generalize V.alloc (.cells (madeCells #[.int .i64 0, .int .i64 0, .slice none 0 0, .string ⟨#[]⟩] (M.length * 4)) 56) = V at *
      refine hK.out _ _ ?s7 (fun hHeld => ?k7)
      case s7 => ((try dsimp only); (try exact trivial))
      clear hK K
      (try simp only [Act.put, List.setIfInBounds_toArray, List.set_cons_zero, List.set_cons_succ, List.getElem_toArray, List.getElem_cons_zero, List.getElem_cons_succ])
      refine wpAnyH_take (i := 7) (v := ?v8) rfl (by kernel_rfl) (by kernel_rfl) (by kernel_rfl) (fun _ _ _ h => h) (Or.inl ⟨by rfl, ?y8⟩) (by assumption) ?r8
      case y8 => intro w hSw; (try dsimp only at hSw); go_simp; (try with_reducible rfl)
      (try simp only [Act.put, List.setIfInBounds_toArray, List.set_cons_zero, List.set_cons_succ, List.getElem_toArray, List.getElem_cons_zero, List.getElem_cons_succ])
      refine wpAnyH_ready (rs := [8]) (by kernel_rfl) (by simp) ?_
      refine AllReadyH.cons rfl (fun K hK => ?_) AllReadyH.nil
      go_simp
      have e1 := Ext.alloc V (.cells #[.slice (some ⟨mb, mo, none⟩) M.length cm, .slice (some ⟨ab, 0, none⟩) M.length M.length, .slice (some ⟨tb, 0, none⟩) M.length M.length] 81)
      have hl := heap_alloc_new V (.cells #[.slice (some ⟨mb, mo, none⟩) M.length cm, .slice (some ⟨ab, 0, none⟩) M.length M.length, .slice (some ⟨tb, 0, none⟩) M.length M.length] 81)
      have hla := (Array.getElem?_eq_some_iff.1 hai).1
      have hlo := (Array.getElem?_eq_some_iff.1 hot).1
      replace hai := (Below.block e1 _ hla).trans hai
      replace hot := (Below.block e1 _ hlo).trans hot
      replace hX := hX.trans e1
      clear e1
      generalize V.heap.size = lb at *
      generalize V.alloc (.cells #[.slice (some ⟨mb, mo, none⟩) M.length cm, .slice (some ⟨ab, 0, none⟩) M.length M.length, .slice (some ⟨tb, 0, none⟩) M.length M.length] 81) = V at *
      refine hK.out _ _ ?s9 (fun hHeld => ?k9)
      case s9 => ((try dsimp only); (try exact trivial))
      clear hK K
      (try simp only [Act.put, List.setIfInBounds_toArray, List.set_cons_zero, List.set_cons_succ, List.getElem_toArray, List.getElem_cons_zero, List.getElem_cons_succ])
      refine wpAnyH_done (by kernel_rfl) ?_ _
      show wpList _ _ _ _ _ _
      go_wp2
      refine NoPanic.normal ?_
      go_wp2
      go_meet
      exact ⟨_, _, _, rfl, hX, ⟨hage, hoge, by omega, hla, hlo⟩, hl, hai, ⟨_, hot, size_madeCells _ _⟩⟩
    · skip
      go_simp
      have e1 := Ext.alloc V (.cells (madeCells #[.int .i64 0, .int .i64 0, .slice none 0 0, .string ⟨#[]⟩] (M.length * 4)) 56)
      have hot := heap_alloc_new V (.cells (madeCells #[.int .i64 0, .int .i64 0, .slice none 0 0, .string ⟨#[]⟩] (M.length * 4)) 56)
      have hoge := Below.size hX
      (try have hlt2 := (Array.getElem?_eq_some_iff.1 hai).1)
      (try replace hai := (Below.block e1 _ (Array.getElem?_eq_some_iff.1 hai).1).trans hai)
      replace hX := hX.trans e1
      clear e1 hmo
      generalize V.heap.size = tb at *
      generalize V.alloc (.cells (madeCells #[.int .i64 0, .int .i64 0, .slice none 0 0, .string ⟨#[]⟩] (M.length * 4)) 56) = V at *
      refine hK.out _ _ ?s10 (fun hHeld => ?k10)
      case s10 => ((try dsimp only); (try exact trivial))
      clear hK K
      (try simp only [Act.put, List.setIfInBounds_toArray, List.set_cons_zero, List.set_cons_succ, List.getElem_toArray, List.getElem_cons_zero, List.getElem_cons_succ])
      refine wpAnyH_ready (rs := [3]) (by kernel_rfl) (by simp) ?_
      refine AllReadyH.cons rfl (fun K hK => ?_) AllReadyH.nil
      go_simp
      have e1 := Ext.alloc V (.cells (madeCells #[.int .i64 0] M.length) 3)
      have hai := heap_alloc_new V (.cells (madeCells #[.int .i64 0] M.length) 3)
      have hage := Below.size hX
      (try have hlt2 := (Array.getElem?_eq_some_iff.1 hot).1)
      (try replace hot := (Below.block e1 _ (Array.getElem?_eq_some_iff.1 hot).1).trans hot)
      replace hX := hX.trans e1
      clear e1 hmi
      generalize V.heap.size = ab at *
      generalize V.alloc (.cells (madeCells #[.int .i64 0] M.length) 3) = V at *
      refine hK.out _ _ ?s11 (fun hHeld => ?k11)
      case s11 => ((try dsimp only); (try exact trivial))
      clear hK K
      (try simp only [Act.put, List.setIfInBounds_toArray, List.set_cons_zero, List.set_cons_succ, List.getElem_toArray, List.getElem_cons_zero, List.getElem_cons_succ])
      refine wpAnyH_take (i := 7) (v := ?v12) rfl (by kernel_rfl) (by kernel_rfl) (by kernel_rfl) (fun _ _ _ h => h) (Or.inl ⟨by rfl, ?y12⟩) (by assumption) ?r12
      case y12 => intro w hSw; (try dsimp only at hSw); go_simp; (try with_reducible rfl)
      (try simp only [Act.put, List.setIfInBounds_toArray, List.set_cons_zero, List.set_cons_succ, List.getElem_toArray, List.getElem_cons_zero, List.getElem_cons_succ])
      refine wpAnyH_ready (rs := [8]) (by kernel_rfl) (by simp) ?_
      refine AllReadyH.cons rfl (fun K hK => ?_) AllReadyH.nil
      go_simp
      have e1 := Ext.alloc V (.cells #[.slice (some ⟨mb, mo, none⟩) M.length cm, .slice (some ⟨ab, 0, none⟩) M.length M.length, .slice (some ⟨tb, 0, none⟩) M.length M.length] 81)
      have hl := heap_alloc_new V (.cells #[.slice (some ⟨mb, mo, none⟩) M.length cm, .slice (some ⟨ab, 0, none⟩) M.length M.length, .slice (some ⟨tb, 0, none⟩) M.length M.length] 81)
      have hla := (Array.getElem?_eq_some_iff.1 hai).1
      have hlo := (Array.getElem?_eq_some_iff.1 hot).1
      replace hai := (Below.block e1 _ hla).trans hai
      replace hot := (Below.block e1 _ hlo).trans hot
      replace hX := hX.trans e1
      clear e1
      generalize V.heap.size = lb at *
      generalize V.alloc (.cells #[.slice (some ⟨mb, mo, none⟩) M.length cm, .slice (some ⟨ab, 0, none⟩) M.length M.length, .slice (some ⟨tb, 0, none⟩) M.length M.length] 81) = V at *
      refine hK.out _ _ ?s13 (fun hHeld => ?k13)
      case s13 => ((try dsimp only); (try exact trivial))
      clear hK K
      (try simp only [Act.put, List.setIfInBounds_toArray, List.set_cons_zero, List.set_cons_succ, List.getElem_toArray, List.getElem_cons_zero, List.getElem_cons_succ])
      refine wpAnyH_done (by kernel_rfl) ?_ _
      show wpList _ _ _ _ _ _
      go_wp2
      refine NoPanic.normal ?_
      go_wp2
      go_meet
      exact ⟨_, _, _, rfl, hX, ⟨hage, hoge, by omega, hla, hlo⟩, hl, hai, ⟨_, hot, size_madeCells _ _⟩⟩
  case rest =>
    obtain ⟨lb, ab, tb, rfl, hl⟩ := hcut
    have c0 := (Below.block hl.ext w.heap.size (by omega)).trans C0.out
    have c1 := (Below.block hl.ext (w.heap.size + 1) (by omega)).trans C1.out
    have hs1 := Below.size hl.ext
    obtain ⟨x0, x1, x2, x3⟩ := cells4 c0
    have D0 := Lib.hid c0; have D1 := Lib.hid c1; have HL := Lib.hid hl
    clear c0 c1 hl C0 C1
    go_upto_block 6 with fail
    rw [← HTN.out]
    clear htn
    have HT0 := Lib.hid (show Turn [g] w wc from Turn.of_ext (HXQ.out.trans HL.out.ext))
    have hszc : w.heap.size ≤ W1.heap.size := by omega
    have hge := HL.out.ge
    have hlbw : lb < wc.heap.size := (Array.getElem?_eq_some_iff.1 HL.out.blk).1
    clear x0 x1 x2 x3
    go_loopw [10, 54] (fun a i wr => ∃ (k : Nat) (rw : Array Value), k ≤ M.length ∧ i = .int .i64 k ∧ a = .int .i64 (posN M t k) ∧ wr.heap[ab]? = some (.cells rw 3 (0, 0)) ∧ rw.size = M.length ∧ (∀ j, j < k → rw[j]? = some (.int .i64 (posN M t j))) ∧ Turn [ab] wc wr) (fun _ i _ => M.length - (Go.RowKit.intOf i).toNat)
    case atStart => exact ⟨0, _, by omega, rfl, by rw [posN_zero], HL.out.row, size_madeCells _ _, fun j hj => by omega, Turn.refl _ _⟩
    case round =>
      obtain ⟨k, rw, hk, rfl, rfl, hrow, hrs, hset, htu⟩ := hrel
      have hsr := htu.size
      have hTw : Turn [g] w wr := turn2 HT0.out htu (by simp; omega)
      have hblk := (htu.block lb hlbw (by simp; omega)).trans HL.out.blk
      have HROW := Lib.hid hrow; have HSET := Lib.hid hset; have HTU := Lib.hid htu
      have hpb : posN M t k ≤ 4000 := by have h1 := wsum_take_le M k; unfold posN; omega
      by_cases hlt : k < M.length
      · have hxk := List.getElem?_eq_getElem hlt
        generalize M[k] = x at hxk
        obtain ⟨b', off', hqe, y0, y1, y2, y3⟩ := MsgP.cells (HMS.out wr hTw) hxk
        obtain ⟨rfl, rfl⟩ : mb = b' ∧ mo = off' := by simpa using hqe
        have i1 : (k : Int) < (M.length : Int) := by omega
        obtain ⟨u, hu⟩ : ∃ u, wr.cell? ⟨ab, k, none⟩ = some u := ⟨rw[k], by simp [World.cell?, hrow, show k < rw.size by omega]⟩
        have zf : ∀ i, wr.frozen? ⟨ab, i, none⟩ = false := fun i => free_at hrow
        obtain ⟨l0, l1, l2⟩ := cells3 hblk
        have hgx := goodM_all HGM.out x (List.mem_of_getElem? hxk)
        have HPS := Lib.hid (posN_succ (t := t) hxk)
        have hcw := cw_le hgx
        have HW := Lib.hid (fun W => words_cell x W hgx)
        clear hxk hgx hqe hrow hset htu hblk hTw
        generalize hA : posN M t k = A at *
        have HAA := Lib.hid hA
        clear hA
        generalize hB : cw x = B2 at *
        clear hB
        obtain ⟨xk, xt, xn, xs⟩ := x
        dsimp only at *
        go_upto_region 8 with fail
        refine wp_alloc1 fun V hE hS b0 => ?_
        have m1 := hE.cell l1
        have mu := hE.cell hu
        have hrV := (Below.block hE ab (Array.getElem?_eq_some_iff.1 HROW.out).1).trans HROW.out
        have mf : ∀ i, V.frozen? ⟨ab, i, none⟩ = false := fun i => free_at hrV
        have HRV := Lib.hid hrV; have B0 := Lib.hid b0; have HE := Lib.hid hE
        clear b0 hrV l0 l1 l2 y0 y1 y2 y3 hu zf hE
        go_upto_region 9 with fail
        refine wp_fill1 HRV.out fun V6 c6 t6 s6 => ?_
        have hablt : ab < wr.heap.size := (Array.getElem?_eq_some_iff.1 HROW.out).1
        have b6 := (t6.block wr.heap.size (by omega) (by simp; omega)).trans B0.out
        obtain ⟨y0, y1, y2, y3⟩ := cells4 b6
        have T6 := Lib.hid (show Turn [ab] wc V6 from (HTU.out.trans (Turn.of_ext HE.out)).trans t6)
        have C6 := Lib.hid c6
        clear b6 c6 t6 m1 mu mf B0 HE
        go_wp2_with fail
        refine (HW.out _).mono ?_
        rintro e V7 ⟨rfl, hx⟩
        have HC7 := Lib.hid ((Below.block hx ab (by omega)).trans C6.out)
        have HT7 := Lib.hid (T6.out.trans (Turn.of_ext hx))
        clear hx y0 y1 y2 y3 C6 T6
        go_wp2_with fail
        refine ⟨⟨k + 1, _, by omega, by go_num, by rw [HPS.out]; go_num, HC7.out, by simp; exact hrs, fun j hj => ?_, HT7.out⟩, by simp [Go.RowKit.intOf]; omega⟩
        rw [Array.getElem?_setIfInBounds]
        by_cases hjk : k = j
        · rw [if_pos hjk, if_pos (by omega), ← hjk, HAA.out]
        · rw [if_neg hjk]
          exact HSET.out j (by omega)
      · obtain rfl : k = M.length := by omega
        have hst : LayStay wr lb ab tb (some ⟨mb, mo, none⟩) cm M t := fun W e => by
          have hab : ab < wr.heap.size := (Array.getElem?_eq_some_iff.1 HROW.out).1
          refine ⟨(e.block lb (by omega) (by simp; omega)).trans hblk, HMS.out W (turn2 hTw e (by simp; omega)), fun j c hc => ?_⟩
          have hj : j < M.length := (List.getElem?_eq_some_iff.1 hc).1
          exact cell_at ((e.block ab hab (by simp; omega)).trans HROW.out) (HSET.out j hj)
        have hto := HL.out.to_.turn HTU.out (by simp; omega)
        have hcall := whole_is HGM.out (by omega : t ≤ 10000) M.length 0 0 wr (At.first HGM.out) (by omega) hst hto
        have HST := Lib.hid hst; have HTW := Lib.hid hTw
        have i1 : ¬ (M.length : Int) < (M.length : Int) := by omega
        clear hst hto hrow hset htu hblk hTw HROW HSET
        go_upto_region 11 with fail
        go_wp2_with fail
        refine hcall.mono ?_
        clear hcall
        rintro e w7 ⟨rfl, hld⟩
        rw [nxt_whole HGM.out] at hld ⊢
        have hE7 : Ext w w7 := Below.trans (Below.trans (HXQ.out.trans HL.out.ext) (HTU.out.below (by have := Below.size (HXQ.out.trans HL.out.ext); omega) (by simp; omega))) (hld.turn.below (by omega) (by simp; omega))
        have HA7 := Lib.hid (HH.out.ext hE7)
        have HLA := Lib.hid (HST.out w7 hld.turn)
        have HLD := Lib.hid hld
        have hs7 := hld.turn.size
        have HE7 := Lib.hid hE7
        have htb7 := hld.row.lt
        obtain ⟨l0, l1, l2⟩ := cells3 HLA.out.blk
        have D70 := Lib.hid ((hld.turn.block w.heap.size (by omega) (by simp; omega)).trans ((HTU.out.block w.heap.size (by omega) (by simp; omega)).trans D0.out))
        have D71 := Lib.hid ((hld.turn.block (w.heap.size + 1) (by omega) (by simp; omega)).trans ((HTU.out.block (w.heap.size + 1) (by omega) (by simp; omega)).trans D1.out))
        clear hld hE7 HST HTW HTU D0 D1
        go_upto_block 13 with fail
        clear l0 l1 l2
        have hgr : g < wr.heap.size := by omega
        have htg : tb ≠ g := by omega
        go_loopw [78] (fun i wx => ∃ k : Nat, k ≤ M.length ∧ i = .int .i64 k ∧ ArenaAt wx p g bm n (setRun ws R ba t (layTo M t k)) R ∧ Turn [g] w7 wx) (fun i _ => M.length - (Go.RowKit.intOf i).toNat)
        case atStart => exact ⟨0, by omega, rfl, HA7.out, Turn.refl _ _⟩
        case round =>
          obtain ⟨k, hk, rfl, hA, htu⟩ := hrel
          have HA := Lib.hid hA; have HTU := Lib.hid htu
          by_cases hlt : k < M.length
          · have hxk := List.getElem?_eq_getElem hlt
            generalize M[k] = x at hxk
            obtain ⟨qf, cf, z0, z1, z2, z3, z4, z5⟩ := HLD.out.obs k x (by omega) hlt hxk
            have y0 := htu.cell (a := ⟨tb, k * 4, none⟩) (by simp; omega) z0
            have y1 := htu.cell (a := ⟨tb, k * 4 + 1, none⟩) (by simp; omega) z1
            have y2 := htu.cell (a := ⟨tb, k * 4 + 2, none⟩) (by simp; omega) z2
            have y3 := htu.cell (a := ⟨tb, k * 4 + 3, none⟩) (by simp; omega) z3
            have hrs9 : RowStay wr g (.slice qf (obC M t k x).fields.length cf) ((obC M t k x).fields.map wordC) := fun W e => (z4.turn (htu.trans e) (fun b hb => by have := z5 b hb; simp; omega)).p
            have i2 : (k : Int) < (M.length : Int) := by omega
            have hkd : (obC M t k x).kind = x.kind := rfl
            have hgx := goodM_all HGM.out x (List.mem_of_getElem? hxk)
            have HXK := Lib.hid hxk; have HRS9 := Lib.hid hrs9
            by_cases h0 : x.kind = 0
            · have t0 : ((obC M t k x).kind != 0) = false := by rw [hkd, h0]; rfl
              have hlz := layTo_zero_kind (t := t) hxk h0
              have HLZ := Lib.hid hlz
              clear hlz hkd hgx hxk hrs9 z0 z1 z2 z3 z4 z5 hA htu h0
              generalize obC M t k x = ob at *
              obtain ⟨kd, tg, F, tx⟩ := ob
              dsimp only at *
              go_wp2_with fail
              refine ⟨⟨k + 1, by omega, by go_num, by rw [HLZ.out]; exact HA.out.ext (Ext.alloc _ _), HTU.out.trans (Turn.of_ext (Ext.alloc _ _))⟩, by simp [Go.RowKit.intOf]; omega⟩
            · have t0 : ((obC M t k x).kind != 0) = true := by rw [hkd]; simp [h0]
              have hm := obC_may (M := M) (t := t) (k := k) hgx h0
              have HMO := Lib.hid (run_more (t := t) HGM.out hxk h0 ws R ba)
              have hpb : posN M t k ≤ 100000 := by have h1 := wsum_take_le M k; unfold posN; omega
              obtain ⟨l0, l1, l2⟩ := cells3 ((htu.block lb (by omega) (by simp; omega)).trans HLA.out.blk)
              obtain ⟨x0, x1, x2, x3⟩ := cells4 ((htu.block w.heap.size (by omega) (by simp; omega)).trans D70.out)
              have a0 := htu.cell (a := ⟨ab, k, none⟩) (by simp; omega) (HLA.out.at_ k x hxk)
              have hcall : ∀ V, Ext wr V → Calls Tryz.prog 35 #[.pointer (some ⟨p, 0, none⟩), .agg #[.int .i64 ba, .int .i64 hf, .int .i64 sp, .int .i64 tp], .int .i64 (posN M t k : Nat), .agg #[.int .i64 (obC M t k x).kind, .int .i64 (obC M t k x).tag, .slice qf (obC M t k x).fields.length cf, .string (obC M t k x).text]] V (LaySaid (setRun ws R ba t (layTo M t k)) R p g bm n ba (posN M t k) (layO (obC M t k x)) V) := fun V e => by
                by_cases h2 : x.kind = 2
                · obtain ⟨e1, e2, e3⟩ := goodC_two hgx h2
                  have hob : obC M t k x = ⟨2, 0, [], x.text⟩ := by unfold obC; rw [if_neg (by omega), h2, e1]
                  rw [hob]
                  exact dlay_text (HA.out.ext e) ⟨ba, hf, sp, tp⟩ HBs.out x.text e3 qf cf (posN M t k) hpb
                · exact dlay_row (HA.out.ext e) ⟨ba, hf, sp, tp⟩ HBs.out (obC M t k x) hm (by rw [hkd]; exact h2) cf qf (fun V' ev => hrs9 V' ((Turn.of_ext e).trans ev)) (posN M t k) hpb
              have HCALL := Lib.hid hcall
              clear hcall hkd hgx hxk hrs9 HRS9 z0 z1 z2 z3 z4 z5 hA htu h0 hm HXK
              generalize obC M t k x = ob at *
              generalize posN M t k = A at *
              obtain ⟨kd, tg, F, tx⟩ := ob
              dsimp only at *
              go_upto_region 16 with fail
              refine wp_alloc1 fun V hE hS b0 => ?_
              obtain ⟨o0, o1, o2, o3⟩ := cells4 b0
              have m0 := hE.cell x0; have m1 := hE.cell x1; have m2 := hE.cell x2; have m3 := hE.cell x3
              have ml := hE.cell l1; have ma := hE.cell a0
              clear b0 x0 x1 x2 x3 l0 l1 l2 a0 y0 y1 y2 y3
              refine wp_region_noPanic ?_
              refine wp_region_last 10 (S := (fun w' => (w'.cell? ⟨w.heap.size, 0, none⟩ = some (.int .i64 ba) ∧ w'.cell? ⟨w.heap.size, 1, none⟩ = some (.int .i64 hf) ∧ w'.cell? ⟨w.heap.size, 2, none⟩ = some (.int .i64 sp) ∧ w'.cell? ⟨w.heap.size, 3, none⟩ = some (.int .i64 tp)) ∧ w'.cell? ⟨lb, 1, none⟩ = some (.slice (some ⟨ab, 0, none⟩) M.length M.length) ∧ w'.cell? ⟨ab, k, none⟩ = some (.int .i64 (A : Nat)) ∧ w'.cell? ⟨wr.heap.size, 0, none⟩ = some (.int .i64 kd) ∧ w'.cell? ⟨wr.heap.size, 1, none⟩ = some (.int .i64 tg) ∧ w'.cell? ⟨wr.heap.size, 2, none⟩ = some (.slice qf F.length cf) ∧ w'.cell? ⟨wr.heap.size, 3, none⟩ = some (.string tx))) (by kernel_rfl) (by kernel_rfl) _ rfl ?_ (fun hHeld => ?_)
              · (exact ⟨⟨(Ext.drew _).cell m0, (Ext.drew _).cell m1, (Ext.drew _).cell m2, (Ext.drew _).cell m3⟩, (Ext.drew _).cell ml, (Ext.drew _).cell ma, (Ext.drew _).cell o0, (Ext.drew _).cell o1, (Ext.drew _).cell o2, (Ext.drew _).cell o3⟩)
              simp only [List.take_succ_cons, List.take_zero]
              refine wpAnyH_take (i := 0) (v := ?v14) rfl (by kernel_rfl) (by kernel_rfl) (by kernel_rfl) (fun _ _ _ h => h) (Or.inl ⟨by rfl, ?y14⟩) (by assumption) ?r14
              case y14 => intro w hSw; (try dsimp only at hSw); go_simp; (try with_reducible rfl)
              (try simp only [Act.put, List.setIfInBounds_toArray, List.set_cons_zero, List.set_cons_succ, List.getElem_toArray, List.getElem_cons_zero, List.getElem_cons_succ])
              refine wpAnyH_take (i := 1) (v := ?v15) rfl (by kernel_rfl) (by kernel_rfl) (by kernel_rfl) (fun _ _ _ h => h) (Or.inl ⟨by rfl, ?y15⟩) (by assumption) ?r15
              case y15 => intro w hSw; (try dsimp only at hSw); go_simp; (try with_reducible rfl)
              (try simp only [Act.put, List.setIfInBounds_toArray, List.set_cons_zero, List.set_cons_succ, List.getElem_toArray, List.getElem_cons_zero, List.getElem_cons_succ])
              refine wpAnyH_take (i := 2) (v := ?v16) rfl (by kernel_rfl) (by kernel_rfl) (by kernel_rfl) (fun _ _ _ h => h) (Or.inl ⟨by rfl, ?y16⟩) (by assumption) ?r16
              case y16 => intro w hSw; (try dsimp only at hSw); go_simp; (try with_reducible rfl)
              (try simp only [Act.put, List.setIfInBounds_toArray, List.set_cons_zero, List.set_cons_succ, List.getElem_toArray, List.getElem_cons_zero, List.getElem_cons_succ])
              refine wpAnyH_take (i := 3) (v := ?v17) rfl (by kernel_rfl) (by kernel_rfl) (by kernel_rfl) (fun _ _ _ h => h) (Or.inl ⟨by rfl, ?y17⟩) (by assumption) ?r17
              case y17 => intro w hSw; (try dsimp only at hSw); go_simp; (try with_reducible rfl)
              (try simp only [Act.put, List.setIfInBounds_toArray, List.set_cons_zero, List.set_cons_succ, List.getElem_toArray, List.getElem_cons_zero, List.getElem_cons_succ])
              refine wpAnyH_take (i := 4) (v := ?v18) rfl (by kernel_rfl) (by kernel_rfl) (by kernel_rfl) (fun _ _ _ h => h) (Or.inl ⟨by rfl, ?y18⟩) (by assumption) ?r18
              case y18 => intro w hSw; (try dsimp only at hSw); go_simp; (try with_reducible rfl)
              (try simp only [Act.put, List.setIfInBounds_toArray, List.set_cons_zero, List.set_cons_succ, List.getElem_toArray, List.getElem_cons_zero, List.getElem_cons_succ])
              refine wpAnyH_take (i := 5) (v := ?v19) rfl (by kernel_rfl) (by kernel_rfl) (by kernel_rfl) (fun _ _ _ h => h) (Or.inl ⟨by rfl, ?y19⟩) (by assumption) ?r19
              case y19 => intro w hSw; (try dsimp only at hSw); go_simp; (try with_reducible rfl)
              (try simp only [Act.put, List.setIfInBounds_toArray, List.set_cons_zero, List.set_cons_succ, List.getElem_toArray, List.getElem_cons_zero, List.getElem_cons_succ])
              refine wpAnyH_take (i := 6) (v := ?v20) rfl (by kernel_rfl) (by kernel_rfl) (by kernel_rfl) (fun _ _ _ h => h) (Or.inl ⟨by rfl, ?y20⟩) (by assumption) ?r20
              case y20 => intro w hSw; (try dsimp only at hSw); go_simp; (try with_reducible rfl)
              (try simp only [Act.put, List.setIfInBounds_toArray, List.set_cons_zero, List.set_cons_succ, List.getElem_toArray, List.getElem_cons_zero, List.getElem_cons_succ])
              refine wpAnyH_take (i := 7) (v := ?v21) rfl (by kernel_rfl) (by kernel_rfl) (by kernel_rfl) (fun _ _ _ h => h) (Or.inl ⟨by rfl, ?y21⟩) (by assumption) ?r21
              case y21 => intro w hSw; (try dsimp only at hSw); go_simp; (try with_reducible rfl)
              (try simp only [Act.put, List.setIfInBounds_toArray, List.set_cons_zero, List.set_cons_succ, List.getElem_toArray, List.getElem_cons_zero, List.getElem_cons_succ])
              refine wpAnyH_take (i := 8) (v := ?v22) rfl (by kernel_rfl) (by kernel_rfl) (by kernel_rfl) (fun _ _ _ h => h) (Or.inl ⟨by rfl, ?y22⟩) (by assumption) ?r22
              case y22 => intro w hSw; (try dsimp only at hSw); go_simp; (try with_reducible rfl)
              (try simp only [Act.put, List.setIfInBounds_toArray, List.set_cons_zero, List.set_cons_succ, List.getElem_toArray, List.getElem_cons_zero, List.getElem_cons_succ])
              refine wpAnyH_take (i := 9) (v := ?v23) rfl (by kernel_rfl) (by kernel_rfl) (by kernel_rfl) (fun _ _ _ h => h) (Or.inl ⟨by rfl, ?y23⟩) (by assumption) ?r23
              case y23 => intro w hSw; (try dsimp only at hSw); go_simp; (try with_reducible rfl)
              (try simp only [Act.put, List.setIfInBounds_toArray, List.set_cons_zero, List.set_cons_succ, List.getElem_toArray, List.getElem_cons_zero, List.getElem_cons_succ])
              refine wpAnyH_done (by kernel_rfl) ?_ _
              show wpList _ _ _ _ _ _
              go_wp2_with fail
              refine (HCALL.out _ (hE.trans (Ext.drew V))).mono ?_
              rintro e w9 ⟨rfl, hA9, hT9⟩
              rw [HMO.out] at hA9
              have HA9 := Lib.hid hA9
              have HT9 := Lib.hid ((HTU.out.trans (Turn.of_ext (hE.trans (Ext.drew V)))).trans hT9)
              clear hA9 hT9 m0 m1 m2 m3 ml ma o0 o1 o2 o3
              go_wp2_with fail
              refine NoPanic.normal ?_
              go_wp2_with fail
              refine ⟨⟨k + 1, by omega, by go_num, HA9.out, HT9.out⟩, by simp [Go.RowKit.intOf]; omega⟩
          · obtain rfl : k = M.length := by omega
            have i2 : ¬ (M.length : Int) < (M.length : Int) := by omega
            rw [layTo_all] at HA
            have hT := (Turn.of_ext (bs := [g]) HE7.out).trans htu
            have hb0 := (htu.block w.heap.size (by omega) (by simp; omega)).trans D70.out
            have hf0 : ∀ i, wr.frozen? ⟨w.heap.size, i, none⟩ = false := fun i => free_at hb0
            obtain ⟨x0, x1, x2, x3⟩ := cells4 hb0
            have HT := Lib.hid hT; have HB0 := Lib.hid hb0
            clear hA htu hT hb0
            go_upto_region 18 with fail
            refine wp_region_noPanic ?_
            refine wp_region_last 6 (S := (fun w' => w'.cell? ⟨w.heap.size, 3, none⟩ = some (.int .i64 tp) ∧ w'.frozen? ⟨w.heap.size, 3, none⟩ = false)) (by kernel_rfl) (by kernel_rfl) _ rfl ?_ (fun hHeld => ?_)
            · (first | exact keep2x x3 (hf0 3) (Ext.drew _) | exact keep2x x3 (hf0 3) hXX)
            simp only [List.take_succ_cons, List.take_zero]
            refine wpAnyH_take (i := 0) (v := ?v24) rfl (by kernel_rfl) (by kernel_rfl) (by kernel_rfl) (fun _ _ _ h => h) (Or.inl ⟨by rfl, ?y24⟩) (by assumption) ?r24
            case y24 => intro w hSw; (try dsimp only at hSw); go_simp; (try with_reducible rfl)
            (try simp only [Act.put, List.setIfInBounds_toArray, List.set_cons_zero, List.set_cons_succ, List.getElem_toArray, List.getElem_cons_zero, List.getElem_cons_succ])
            refine wpAnyH_take (i := 1) (v := ?v25) rfl (by kernel_rfl) (by kernel_rfl) (by kernel_rfl) (fun _ _ _ h => h) (Or.inl ⟨by rfl, ?y25⟩) (by assumption) ?r25
            case y25 => intro w hSw; (try dsimp only at hSw); go_simp; (try with_reducible rfl)
            (try simp only [Act.put, List.setIfInBounds_toArray, List.set_cons_zero, List.set_cons_succ, List.getElem_toArray, List.getElem_cons_zero, List.getElem_cons_succ])
            refine wpAnyH_take (i := 2) (v := ?v26) rfl (by kernel_rfl) (by kernel_rfl) (by kernel_rfl) (fun _ _ _ h => h) (Or.inl ⟨by rfl, ?y26⟩) (by assumption) ?r26
            case y26 => intro w hSw; (try dsimp only at hSw); go_simp; (try with_reducible rfl)
            (try simp only [Act.put, List.setIfInBounds_toArray, List.set_cons_zero, List.set_cons_succ, List.getElem_toArray, List.getElem_cons_zero, List.getElem_cons_succ])
            refine wpAnyH_ready (rs := [3]) (by kernel_rfl) (by simp) ?_
            refine AllReadyH.cons rfl (fun K hK => ?_) AllReadyH.nil
            go_simp
            refine (words_msg (HMS.out _ (HT.out.trans (Turn.of_ext (Ext.drew wr)))) HGM.out).mono ?_
            rintro e w' ⟨rfl, hx⟩
            have hXX := (Ext.drew wr).trans hx
            refine hK.out _ _ ?s27 (fun hHeld => ?k27)
            case s27 => ((try dsimp only); (first | exact keep2x x3 (hf0 3) (Ext.drew _) | exact keep2x x3 (hf0 3) hXX))
            clear hK K
            (try simp only [Act.put, List.setIfInBounds_toArray, List.set_cons_zero, List.set_cons_succ, List.getElem_toArray, List.getElem_cons_zero, List.getElem_cons_succ])
            refine wpAnyH_take (i := 4) (v := ?v28) rfl (by kernel_rfl) (by kernel_rfl) (by kernel_rfl) (fun _ _ _ h => h) (Or.inl ⟨by rfl, ?y28⟩) (by assumption) ?r28
            case y28 => intro w hSw; (try dsimp only at hSw); go_simp; (try with_reducible rfl)
            (try simp only [Act.put, List.setIfInBounds_toArray, List.set_cons_zero, List.set_cons_succ, List.getElem_toArray, List.getElem_cons_zero, List.getElem_cons_succ])
            refine wpAnyH_take (i := 5) (v := ?v29) rfl (by kernel_rfl) (by kernel_rfl) (by kernel_rfl) (fun _ _ _ h => h) (Or.inl ⟨by rfl, ?y29⟩) (by assumption) ?r29
            case y29 => intro w hSw; (try dsimp only at hSw); go_simp; (try with_reducible rfl)
            (try simp only [Act.put, List.setIfInBounds_toArray, List.set_cons_zero, List.set_cons_succ, List.getElem_toArray, List.getElem_cons_zero, List.getElem_cons_succ])
            refine wpAnyH_done (by kernel_rfl) ?_ _
            show wpList _ _ _ _ _ _
            go_wp2
            refine NoPanic.normal ?_
            go_upto_region 19 with fail
            have hb1 := (Below.block hXX w.heap.size (Array.getElem?_eq_some_iff.1 HB0.out).1).trans HB0.out
            refine wp_fill1 hb1 fun V6 c6 t6 s6 => ?_
            replace c6 : V6.heap[w.heap.size]? = some (.cells #[.int .i64 ba, .int .i64 hf, .int .i64 sp, .int .i64 (tp + (wsum M : Nat))] 24 (0, 0)) := c6.trans rfl
            have hT6 : Turn [g] w V6 := turn2 (HT.out.trans (Turn.of_ext hXX)) t6 (by simp)
            have hsX := Below.size hXX
            have hsw := HTU.out.size
            have hkeep : ∀ b, b < w7.heap.size → b ≠ g → b ≠ w.heap.size → V6.heap[b]? = w7.heap[b]? := fun b hb h1 h2 => (t6.block b (by omega) (by simpa using h2)).trans ((Below.block hXX b (by omega)).trans (HTU.out.block b hb (by simpa using h1)))
            have hl6 : LayerAt V6 lb ab tb (some ⟨mb, mo, none⟩) cm M t := ⟨(hkeep lb (by omega) (by omega) (by omega)).trans HLA.out.blk, HMS.out V6 hT6, fun j c hc => by
              have hq := HLA.out.at_ j c hc
              simp only [World.cell?] at hq ⊢
              rw [hkeep ab (by omega) (by omega) (by omega)]
              exact hq⟩
            have hr6 := (hkeep (w.heap.size + 1) (by omega) (by omega) (by omega)).trans D71.out
            have hA6 : ArenaAt V6 p g bm n (setRun ws R ba t (inL M t)) R := (HA.out.ext hXX).turn t6 (by simp; omega) (by simp; omega) (by simp; omega)
            obtain ⟨cz, hcz⟩ : ∃ c, M[0]? = some c := ⟨_, List.getElem?_eq_getElem (by omega)⟩
            have HW0 := Lib.hid (fun W (e : Ext V6 W) => lword_is (hl6.ext e) hcz (by rw [posN_zero]; omega))
            have yf : ∀ i, V6.frozen? ⟨w.heap.size + 1, i, none⟩ = false := fun i => free_at hr6
            have HF4 := Lib.hid (fill4 hr6 (.int .i64 ba) (.int .i64 hf) (.int .i64 sp) (.int .i64 (tp + (wsum M : Nat))))
            have HT6 := Lib.hid hT6; have HA6 := Lib.hid hA6
            have hs6 : w.heap.size ≤ V6.heap.size := hT6.size
            clear x0 x1 x2 x3 hf0 hXX hb1 hkeep hl6 hT6 hA6 hHeld hcz t6 HT HB0 HA HTU HLD HLA HE7 HA7 D70 D71
            obtain ⟨x0, x1, x2, x3⟩ := cells4 c6
            obtain ⟨y0, y1, y2, y3⟩ := cells4 hr6
            clear c6 hr6
            refine wp_region_noPanic ?_
            refine wp_region_last 5 (S := (fun w' => w'.cell? ⟨w.heap.size, 0, none⟩ = some (.int .i64 ba) ∧ w'.cell? ⟨w.heap.size, 1, none⟩ = some (.int .i64 hf) ∧ w'.cell? ⟨w.heap.size, 2, none⟩ = some (.int .i64 sp) ∧ w'.cell? ⟨w.heap.size, 3, none⟩ = some (.int .i64 (tp + (wsum M : Nat))))) (by kernel_rfl) (by kernel_rfl) _ rfl ?_ (fun hHeld => ?_)
            · (first | exact ⟨(Ext.drew _).cell x0, (Ext.drew _).cell x1, (Ext.drew _).cell x2, (Ext.drew _).cell x3⟩ | exact ⟨(Ext.drew _).cell (HF4.out.2.1.cell (by simp) x0), (Ext.drew _).cell (HF4.out.2.1.cell (by simp) x1), (Ext.drew _).cell (HF4.out.2.1.cell (by simp) x2), (Ext.drew _).cell (HF4.out.2.1.cell (by simp) x3)⟩)
            simp only [List.take_succ_cons, List.take_zero]
            refine wpAnyH_take (i := 0) (v := ?v30) rfl (by kernel_rfl) (by kernel_rfl) (by kernel_rfl) (fun _ _ _ h => h) (Or.inl ⟨by rfl, ?y30⟩) (by assumption) ?r30
            case y30 => intro w hSw; (try dsimp only at hSw); go_simp; (try with_reducible rfl)
            (try simp only [Act.put, List.setIfInBounds_toArray, List.set_cons_zero, List.set_cons_succ, List.getElem_toArray, List.getElem_cons_zero, List.getElem_cons_succ])
            refine wpAnyH_take (i := 1) (v := ?v31) rfl (by kernel_rfl) (by kernel_rfl) (by kernel_rfl) (fun _ _ _ h => h) (Or.inl ⟨by rfl, ?y31⟩) (by assumption) ?r31
            case y31 => intro w hSw; (try dsimp only at hSw); go_simp; (try with_reducible rfl)
            (try simp only [Act.put, List.setIfInBounds_toArray, List.set_cons_zero, List.set_cons_succ, List.getElem_toArray, List.getElem_cons_zero, List.getElem_cons_succ])
            refine wpAnyH_ready (rs := [2]) (by kernel_rfl) (by simp) ?_
            refine AllReadyH.cons rfl (fun K hK => ?_) AllReadyH.nil
            go_simp
            refine (HW0.out _ (Ext.drew _)).mono ?_
            rintro e w' ⟨rfl, rfl⟩
            refine hK.out _ _ ?s32 (fun hHeld => ?k32)
            case s32 => ((try dsimp only); (first | exact ⟨(Ext.drew _).cell x0, (Ext.drew _).cell x1, (Ext.drew _).cell x2, (Ext.drew _).cell x3⟩ | exact ⟨(Ext.drew _).cell (HF4.out.2.1.cell (by simp) x0), (Ext.drew _).cell (HF4.out.2.1.cell (by simp) x1), (Ext.drew _).cell (HF4.out.2.1.cell (by simp) x2), (Ext.drew _).cell (HF4.out.2.1.cell (by simp) x3)⟩))
            clear hK K
            (try simp only [Act.put, List.setIfInBounds_toArray, List.set_cons_zero, List.set_cons_succ, List.getElem_toArray, List.getElem_cons_zero, List.getElem_cons_succ])
            refine wpAnyH_ready (rs := [3]) (by kernel_rfl) (by simp) ?_
            refine AllReadyH.cons rfl (fun K hK => ?_) AllReadyH.nil
            go_simp
            refine hK.out _ _ ?s33 (fun hHeld => ?k33)
            case s33 => ((try dsimp only); (first | exact ⟨(Ext.drew _).cell x0, (Ext.drew _).cell x1, (Ext.drew _).cell x2, (Ext.drew _).cell x3⟩ | exact ⟨(Ext.drew _).cell (HF4.out.2.1.cell (by simp) x0), (Ext.drew _).cell (HF4.out.2.1.cell (by simp) x1), (Ext.drew _).cell (HF4.out.2.1.cell (by simp) x2), (Ext.drew _).cell (HF4.out.2.1.cell (by simp) x3)⟩))
            clear hK K
            (try simp only [Act.put, List.setIfInBounds_toArray, List.set_cons_zero, List.set_cons_succ, List.getElem_toArray, List.getElem_cons_zero, List.getElem_cons_succ])
            refine wpAnyH_take (i := 4) (v := ?v34) rfl (by kernel_rfl) (by kernel_rfl) (by kernel_rfl) (fun _ _ _ h => h) (Or.inl ⟨by rfl, ?y34⟩) (by assumption) ?r34
            case y34 => intro w hSw; (try dsimp only at hSw); go_simp; (try with_reducible rfl)
            (try simp only [Act.put, List.setIfInBounds_toArray, List.set_cons_zero, List.set_cons_succ, List.getElem_toArray, List.getElem_cons_zero, List.getElem_cons_succ])
            refine wpAnyH_done (by kernel_rfl) ?_ _
            show wpList _ _ _ _ _ _
            go_wp2
            refine NoPanic.normal ?_
            go_wp2
            have hb9 := (Below.block (Ext.drew _) (w.heap.size + 1) (Array.getElem?_eq_some_iff.1 HF4.out.1).1).trans HF4.out.1
            obtain ⟨z0, z1, z2, z3⟩ := cells4 hb9
            refine bodyPost_ret (v := .tuple #[.agg #[.int .i64 ba, .int .i64 hf, .int .i64 sp, .int .i64 (tp + (wsum M : Nat))], .int .u64 (wdC M t 0), .bool true]) (by simp [results, Tryz.results11, go_sem, z0, z1, z2, z3]) rfl ⟨rfl, ?_, ?_⟩
            · exact (HA6.out.turn HF4.out.2.1 (by simp; omega) (by simp; omega) (by simp; omega)).ext (Ext.drew _)
            · exact (turn2 HT6.out HF4.out.2.1 (by simp)).trans (Turn.of_ext (Ext.drew _))
end Go.Proofs.YtppkgfcobnknfaaGreatDoor
/- data.Out: a value's message. -/
namespace Go.Proofs.YtppkgfcobnknfaaGreatDoor
open Go.RowKit Go.Maps Arena
set_option maxHeartbeats 8000000
set_option maxRecDepth 100000
/-- what goes out of a heap -/
def outH (ws : List Int) (R : List (Nat × Nat)) (h : Hp) (x : Int) : Option (List Cl) := (allH ws R h).bind fun L => outD (firstN h) L x
/-- what Out tells -/
def OutSaid (r : Option (List Cl)) (w : World) (e : Ending) (w' : World) : Prop := match r with
  | none => e = .returned (.tuple #[.slice none 0 0, .bool false]) ∧ Ext w w'
  | some M => ∃ q c, e = .returned (.tuple #[.slice q M.length c, .bool true]) ∧ OwnP w' w.heap.size 51 (.slice q M.length c) 4 (M.map celC) ∧ Ext w w'
theorem f64_of {ws : List Int} {R : List (Nat × Nat)} {h : Hp} {Hs : List (Nat × Ob)} (hW : ∀ x ∈ ws, W64 x) (ha : allH ws R h = some Hs) : ∀ y ∈ Hs, (∀ x ∈ y.2.fields, W64 x) ∧ y.2.fields.length ≤ 400 := by
  obtain ⟨_, hS⟩ := allH_there ha
  obtain ⟨ho, hf⟩ := allS_some hS
  intro y hy
  exact ⟨fun x hx => hW x (semi_mem ((objs_fields ho y hy).2 x hx)), (mayK_bounds (show mayK y.2.kind y.2.tag y.2.fields.length y.2.text.size = true from (objs_fields ho y hy).1)).2.2.2.2.1⟩
def slen (v : Value) : Nat := match v with | .slice _ n _ => n | _ => 0
/-- what a step makes of the machine -/
theorem outS_full {first : Nat} {L : List (Nat × Ob)} {s : Nat} {x : Int} {st : List Int} {acc : List Cl} (h : acc.length = 100) : outS first L s (x :: st) acc = none := by
  cases s with
  | zero => rfl
  | succ s => rw [outS, if_pos h]
theorem outS_num {first : Nat} {L : List (Nat × Ob)} {s : Nat} {x : Int} {st : List Int} {acc : List Cl} (h : acc.length ≠ 100) (hi : isIntW x = true) : outS first L (s + 1) (x :: st) acc = outS first L s st (acc ++ [⟨0, 0, valW x, ByteArray.empty⟩]) := by
  rw [outS, if_neg h, if_pos hi]
theorem outS_lost {first : Nat} {L : List (Nat × Ob)} {s : Nat} {x : Int} {st : List Int} {acc : List Cl} (h : acc.length ≠ 100) (hi : isIntW x = false) (hg : getL first L x = none) : outS first L (s + 1) (x :: st) acc = none := by
  rw [outS, if_neg h, if_neg (by rw [hi]; decide), hg]
theorem outS_str {first : Nat} {L : List (Nat × Ob)} {s : Nat} {x : Int} {st : List Int} {acc : List Cl} {y : Nat × Ob} (h : acc.length ≠ 100) (hi : isIntW x = false) (hg : getL first L x = some y) (hk : y.2.kind = 2) : outS first L (s + 1) (x :: st) acc = outS first L s st (acc ++ [⟨2, 0, 0, y.2.text⟩]) := by
  rw [outS, if_neg h, if_neg (by rw [hi]; decide), hg]; dsimp only; rw [if_pos hk]
theorem outS_blk {first : Nat} {L : List (Nat × Ob)} {s : Nat} {x : Int} {st : List Int} {acc : List Cl} {y : Nat × Ob} (h : acc.length ≠ 100) (hi : isIntW x = false) (hg : getL first L x = some y) (hk : y.2.kind = 1) : outS first L (s + 1) (x :: st) acc = outS first L s (y.2.fields ++ st) (acc ++ [⟨1, y.2.tag, y.2.fields.length, ByteArray.empty⟩]) := by
  rw [outS, if_neg h, if_neg (by rw [hi]; decide), hg]; dsimp only; rw [if_neg (by omega), if_pos hk]
theorem outS_odd {first : Nat} {L : List (Nat × Ob)} {s : Nat} {x : Int} {st : List Int} {acc : List Cl} {y : Nat × Ob} (h : acc.length ≠ 100) (hi : isIntW x = false) (hg : getL first L x = some y) (h1 : y.2.kind ≠ 1) (h2 : y.2.kind ≠ 2) : outS first L (s + 1) (x :: st) acc = none := by
  rw [outS, if_neg h, if_neg (by rw [hi]; decide), hg]; dsimp only; rw [if_neg h2, if_neg h1]
theorem own_apart {w : World} {B B' : Nat} {T T' : TypeId} {v v' : Value} {s s' : Nat} {l l' : List (List Value)} (h : OwnP w B T v s l) (h' : OwnP w B' T' v' s' l') (hT : T ≠ T') : ∀ b, v.ownBlock = some b → v'.ownBlock ≠ some b := by
  intro b hb e
  rcases h'.forms with ⟨rfl, _⟩ | ⟨g, cap, cur, rfl, _, hg, _⟩
  · cases e
  · rcases h.forms with ⟨rfl, _⟩ | ⟨g', cap', cur', rfl, _, hg', _⟩
    · cases hb
    · simp only [Value.ownBlock, Option.some.injEq] at hb e
      subst hb
      subst e
      rw [hg] at hg'
      simp only [Option.some.injEq, Obj.cells.injEq] at hg'
      exact hT hg'.2.1.symm
/-- the two rows: what is told, what is still to be told -/
structure OutAt (B : Nat) (w1 wx : World) (acc : List Cl) (st : List Int) (m r : Value) : Prop where
  m : OwnP wx B 51 m 4 (acc.map celC)
  r : OwnP wx B 42 r 1 (st.reverse.map wordC)
  low : Below B w1 wx
  hB : B ≤ w1.heap.size
theorem OutAt.ext' {B : Nat} {w1 a b : World} {acc : List Cl} {st : List Int} {m r : Value} (h : OutAt B w1 a acc st m r) (e : Ext a b) : OutAt B w1 b acc st m r :=
  ⟨h.m.ext e, h.r.ext e, Below.trans h.low (Below.mono e (Nat.le_trans h.hB (Below.size h.low))), h.hB⟩
theorem OutAt.forms {B : Nat} {w1 wx : World} {acc : List Cl} {st : List Int} {m r : Value} (h : OutAt B w1 wx acc st m r) : (∃ q c, m = .slice q acc.length c) ∧ ∃ q c, r = .slice q st.length c ∧ st.length ≤ c ∧ c ≤ maxLen := by
  obtain ⟨q, c, h1, _, _⟩ := h.m.len
  obtain ⟨q', c', h2, h3, h4⟩ := h.r.len
  rw [List.length_map] at h1
  rw [List.length_map, List.length_reverse] at h2 h3
  exact ⟨⟨q, c, h1⟩, q', c', h2, h3, h4⟩
theorem OutAt.tell {B : Nat} {w1 a b : World} {acc : List Cl} {st : List Int} {m r m' : Value} {c : Cl} (h : OutAt B w1 a acc st m r) (ho : OwnP b B 51 m' 4 (acc.map celC ++ [celC c])) (g : a.grownBy b m.ownBlock) : OutAt B w1 b (acc ++ [c]) st m' r :=
  ⟨by rw [List.map_append]; exact ho, h.r.grown g (fun b' hb e => own_apart h.m h.r (by decide) b' e hb), Below.grown h.low g (Nat.le_trans h.hB (Below.size h.low)) (fun b hb => (h.m.own b hb).1), h.hB⟩
theorem OutAt.push {B : Nat} {w1 a b : World} {acc : List Cl} {st : List Int} {m r r' : Value} {x : Int} (h : OutAt B w1 a acc st m r) (ho : OwnP b B 42 r' 1 (st.reverse.map wordC ++ [wordC x])) (g : a.grownBy b r.ownBlock) : OutAt B w1 b acc (x :: st) m r' :=
  ⟨h.m.grown g (fun b' hb e => own_apart h.m h.r (by decide) b' hb e), by rw [List.reverse_cons, List.map_append]; exact ho, Below.grown h.low g (Nat.le_trans h.hB (Below.size h.low)) (fun b hb => (h.r.own b hb).1), h.hB⟩
theorem OutAt.pop {B : Nat} {w1 wx : World} {acc : List Cl} {st : List Int} {m : Value} {x : Int} {q : Option Addr} {n c : Nat} (h : OutAt B w1 wx acc (x :: st) m (.slice q n c)) : OutAt B w1 wx acc st m (.slice q st.length c) := by
  refine ⟨h.m, ?_, h.low, h.hB⟩
  have := h.r.take (k := st.length) (by simp)
  rw [List.reverse_cons, List.map_append, List.take_left' (by simp)] at this
  exact this
theorem OutAt.top {B : Nat} {w1 wx : World} {acc : List Cl} {st : List Int} {m : Value} {x : Int} {q : Option Addr} {n c : Nat} (h : OutAt B w1 wx acc (x :: st) m (.slice q n c)) : ∃ g, q = some ⟨g, 0, none⟩ ∧ wx.cell? ⟨g, st.length, none⟩ = some (.int .u64 x) := by
  obtain ⟨g, h1, _, h2, _⟩ := h.r.cell (i := st.length) (f := 0) (cs := wordC x) (u := .int .u64 x) (by rw [List.reverse_cons, List.map_append, List.getElem?_append_right (by simp)]; simp) rfl
  exact ⟨g, h1, by simpa using h2⟩
theorem out_is {w : World} {p g bm n : Nat} {ws : List Int} {R : List (Nat × Nat)} (H : ArenaAt w p g bm n ws R) (h : Hp) (hw : (Lit.int .i64 h.base).wf = true) (hW : ∀ x ∈ ws, W64 x) {x : Int} (hx : W64 x) :
    Calls Tryz.prog 15 #[.pointer (some ⟨p, 0, none⟩), .agg #[.int .i64 h.base, .int .i64 h.half, .int .i64 h.space, .int .i64 h.top], .int .u64 x] w (OutSaid (outH ws R h x) w) := by
  have HG := Lib.hid (fun W (e : Ext w W) => good_is (H.ext e) h hw hW)
  unfold outH
  rcases ha : allH ws R h with _ | L
  · rw [ha] at HG
    clear H hw hW hx ha
    obtain ⟨ba, hf, sp, tp⟩ := h
    dsimp only [Option.isSome, Option.bind] at *
    go_enter Tryz.func15, Tryz.ntmps15
    go_upto_region 1 with fail
    refine wp_alloc1 fun W hE hS b0 => ?_
    obtain ⟨x0, x1, x2, x3⟩ := cells4 b0
    go_wp2_with fail
    refine (HG.out W hE).mono ?_
    rintro e w1 ⟨rfl, hx1⟩
    have HX := Lib.hid (hE.trans hx1)
    clear x0 x1 x2 x3 b0 hE hx1
    go_wp2_with fail
    go_ret2
    exact ⟨rfl, HX.out⟩
  rw [ha] at HG
  have hgl : ∀ x, getH ws R h x = getL (firstN h) L x := fun x => by unfold getH; rw [ha]; rfl
  have HGet : Hid (∀ W, Ext w W → ∀ z, W64 z → Calls Tryz.prog 43 #[.pointer (some ⟨p, 0, none⟩), .agg #[.int .i64 h.base, .int .i64 h.half, .int .i64 h.space, .int .i64 h.top], .int .u64 z] W fun e w' =>
      ∃ v, e = .returned (.tuple #[v, .bool (getL (firstN h) L z).isSome]) ∧ Ext W w' ∧ (getL (firstN h) L z = none → v = zeroOV) ∧ ∀ y, getL (firstN h) L z = some y → ObV w' W.heap.size v y.2) :=
    Lib.hid (fun W e z hz => by have := get_is (H.ext e) h hw hW hz; rwa [hgl] at this)
  have HFW := Lib.hid (f64_of hW ha)
  show Calls _ _ _ _ (OutSaid (outD (firstN h) L x) w)
  generalize hro : outD (firstN h) L x = ro
  unfold outD at hro
  generalize firstN h = fi at *
  have HRO := Lib.hid hro; have HX64 := Lib.hid hx
  clear H hw hW hx ha hgl hro
  obtain ⟨ba, hf, sp, tp⟩ := h
  dsimp only [Option.isSome] at *
  go_enter Tryz.func15, Tryz.ntmps15
  go_upto_region 1 with fail
  refine wp_alloc1 fun W hE hS b0 => ?_
  obtain ⟨x0, x1, x2, x3⟩ := cells4 b0
  go_wp2_with fail
  refine (HG.out W hE).mono ?_
  rintro e w1 ⟨rfl, hx1⟩
  have c0 := (Below.block hx1 w.heap.size (by omega)).trans b0
  have HX := Lib.hid (hE.trans hx1)
  have hs1 : w.heap.size + 1 ≤ w1.heap.size := by have := Below.size hx1; omega
  have C0 := Lib.hid c0
  clear x0 x1 x2 x3 b0 hE hS hx1 c0 HG
  go_upto_block 5 with fail
  go_loopw [8, 9] (fun m r wx => ∃ (acc : List Cl) (st : List Int), OutAt (w.heap.size + 1) w1 wx acc st m r ∧ acc.length ≤ 100 ∧ st.length ≤ 1 + 400 * acc.length ∧ (∀ z ∈ st, W64 z) ∧ outS fi L (101 - acc.length) st acc = ro) (fun m _ _ => 101 - slen m)
  case atStart =>
    refine ⟨[], [x], ⟨OwnP.nil _ _ _ _, ?_, Below.alloc (Below.refl _ _) hs1 _, hs1⟩, by simp, by simp, by simpa using HX64.out, HRO.out⟩
    exact OwnP.of_form (l := [wordC x]) (cap := 1) (cur := #[.int .u64 x]) (Rows1.one rfl (by intro u hu; simp [wordC] at hu; subst hu; rfl)) hs1 (heap_alloc_new _ _) (Nat.le_refl _) (by unfold maxLen; omega) rfl rfl
  case round =>
    obtain ⟨acc, st, hO, hal, hsl, h64, hSO⟩ := hrel
    have HB0 := Lib.hid ((Below.block hO.low w.heap.size (by omega)).trans C0.out)
    have HXR := Lib.hid (HX.out.go hO.low (by omega))
    have hsr := Below.size hO.low
    rcases st with _ | ⟨y, st⟩
    · obtain ⟨⟨qm, cm, rfl⟩, qr, cr, rfl, -, -⟩ := hO.forms
      have HO := Lib.hid hO
      have hro : ro = some acc := by rw [← hSO]; cases 101 - acc.length <;> rfl
      have HRo := Lib.hid hro
      clear hO hSO h64 hsl hro
      go_wp2_with fail
      go_ret2
      rw [HRo.out]
      exact ⟨qm, cm, rfl, HO.out.m.mono (by omega), HXR.out⟩
    · obtain ⟨⟨qm, cm, rfl⟩, qr, cr, rfl, hr1, hr2⟩ := hO.forms
      obtain ⟨gr, rfl, htop⟩ := hO.top
      rw [List.length_cons] at hO hr1 hsl ⊢
      have hP := hO.pop
      have hy64 := h64 y (.head _)
      have h64' : ∀ z ∈ st, W64 z := fun z hz => h64 z (.tail _ hz)
      generalize hk : st.length = k at *
      have hsl1 : ∀ W, (Instr.slice 22 (.slice (some ⟨gr, 0, none⟩) (k + 1) cr) none (some (.int .i64 (k : Int))) none).run Tryz.prog W = .ok (.slice (some ⟨gr, 0, none⟩) k cr) W := fun W => run_take E64 W _ _ _ k (by omega) hr2
      have HP := Lib.hid hP; have HK := Lib.hid hk; have HY := Lib.hid hy64; have H64 := Lib.hid h64'
      generalize hn : acc.length = m at *
      have HN := Lib.hid hn
      clear hO hP hk hy64 h64' h64 hn
      by_cases hfull : m = 100
      · subst hfull
        have hro : ro = none := by rw [← hSO]; exact outS_full HN.out
        clear hSO
        have HRo := Lib.hid hro
        clear hro
        go_wp2_with fail
        go_ret2
        rw [HRo.out]
        exact ⟨rfl, HXR.out⟩
      · obtain ⟨s, hs⟩ : ∃ s, 101 - m = s + 1 := ⟨100 - m, by omega⟩
        have t0 : ((m : Int) == 100) = false := beq_false_of_ne (by omega)
        rw [hs] at hSO
        have HSO := Lib.hid hSO; have HSS := Lib.hid hs
        have hm1 : m + 1 ≤ 100 := by omega
        have HI := Lib.hid (fun W => isInt_is HY.out W)
        clear hSO hs
        by_cases hi : isIntW y = true
        · have HV := Lib.hid (fun W => value_is HY.out hi W)
          have HST := Lib.hid ((outS_num (by rw [HN.out]; exact hfull) hi).symm.trans HSO.out)
          rw [hi] at HI
          clear hi hfull HSO
          go_wp2_with fail
          refine (HI.out _).mono ?_
          rintro e w2 ⟨rfl, rfl⟩
          go_wp2_with fail
          refine (HV.out _).mono ?_
          rintro e w3 ⟨rfl, hx3⟩
          have HP3 := Lib.hid (HP.out.ext' (hx3.trans (Ext.alloc w3 (.cells #[.int .i64 0, .int .i64 0, .int .i64 (valW y), .string ByteArray.empty] 51))))
          have hs3 := Below.size hx3
          clear hx3 htop
          go_wp2_with (refine wpList_append_rows ECel (by rfl) _ _ (by rfl) (w.heap.size + 1) (.slice qm m cm) (.slice (some ⟨w3.heap.size, 0, none⟩) 1 1) (acc.map celC) [celC ⟨0, 0, valW y, ByteArray.empty⟩] (by rfl) HP3.out.m (by rfl) (rows_of_block (cs := #[.int .i64 0, .int .i64 0, .int .i64 (valW y), .string ByteArray.empty]) (heap_alloc_new _ _) rfl (by intro u hu; simp at hu; rcases hu with rfl | rfl | rfl <;> rfl)) (by rw [List.length_map, HN.out]; simp; unfold maxLen; omega) (by rw [List.length_map, HN.out]; simp; omega) (by simp; omega) ?_)
          intro v4 w4 ho4 hg4 _ _
          have hT := HP3.out.tell ho4 hg4
          obtain ⟨⟨q4, c4, rfl⟩, -⟩ := hT.forms
          have HT := Lib.hid hT
          clear ho4 hg4 hT
          go_wp2_with fail
          refine ⟨⟨_, st, HT.out, by rw [List.length_append, HN.out]; simp; omega, by rw [List.length_append, HN.out, HK.out]; simp; omega, H64.out, ?_⟩, ?_⟩
          · rw [List.length_append, HN.out, ← HST.out]; congr 1; have := HSS.out; simp; omega
          · simp only [slen, List.length_append, HN.out]; simp; omega
        · have hif : isIntW y = false := by simpa using hi
          rw [hif] at HI
          have HIF := Lib.hid hif
          have HGE := Lib.hid (fun W (e : Ext w1 W) => HGet.out W (HX.out.trans e) y HY.out)
          obtain ⟨x0, x1, x2, x3⟩ := cells4 HB0.out
          clear hi hif hfull
          have hgm : acc.length ≠ 100 := by rw [HN.out]; omega
          have HGM := Lib.hid hgm
          clear hgm
          cases hg : getL fi L y with
          | none =>
            have hro : ro = none := by rw [← HSO.out]; exact outS_lost HGM.out HIF.out hg
            have HRo := Lib.hid hro
            clear hro
            go_wp2_with fail
            refine (HI.out _).mono ?_
            rintro e w2 ⟨rfl, rfl⟩
            go_wp2_with fail
            refine (HGet.out _ HXR.out y HY.out).mono ?_
            intro e w3 h3
            rw [hg] at h3
            obtain ⟨v, rfl, hx3, hno, hyes⟩ := h3
            clear htop
            obtain rfl := hno rfl
            have HX3 := Lib.hid (HXR.out.trans hx3)
            clear hx3 hyes x0 x1 x2 x3 hg
            unfold zeroOV
            go_upto_region 13 with fail
            refine wp_alloc1 fun W hE hS b0 => ?_
            obtain ⟨u0, u1, u2, u3⟩ := cells4 b0
            have HX4 := Lib.hid (HX3.out.trans hE)
            clear hE hS b0
            go_wp2_with fail
            go_ret2
            rw [HRo.out]
            exact ⟨rfl, HX4.out⟩
          | some z =>
            have hfz := HFW.out z (getL_some hg).1
            have HFZ := Lib.hid hfz.1
            have hfl := hfz.2
            have hst := fun h1 => outS_blk (s := s) (st := st) (acc := acc) HGM.out HIF.out hg h1
            have HB := Lib.hid hst
            have HS2 := Lib.hid (fun h1 => outS_str (s := s) (st := st) (acc := acc) HGM.out HIF.out hg h1)
            have HOD := Lib.hid (fun h1 h2 => outS_odd (s := s) (st := st) (acc := acc) HGM.out HIF.out hg h1 h2)
            clear hfz hst
            go_wp2_with fail
            refine (HI.out _).mono ?_
            rintro e w2 ⟨rfl, rfl⟩
            go_wp2_with fail
            refine (HGet.out _ HXR.out y HY.out).mono ?_
            intro e w3 h3
            rw [hg] at h3
            obtain ⟨v, rfl, hx3, hno, hyes⟩ := h3
            clear htop
            obtain ⟨qz, cz, rfl, hown⟩ := hyes z rfl
            have HOZ := Lib.hid hown
            have HX3 := Lib.hid (HXR.out.trans hx3)
            have HE3 := Lib.hid hx3
            have hs3 := Below.size hx3
            clear hx3 hno hyes x0 x1 x2 x3 hg hown
            obtain ⟨zp, kd, tg, F, tx⟩ := z
            dsimp only at *
            go_upto_region 13 with fail
            refine wp_alloc1 fun W4 hE4 hS4 b4 => ?_
            have hZ4 := HOZ.out.ext hE4
            have HX4 := Lib.hid (HX3.out.trans hE4)
            have HP4 := Lib.hid (HP.out.ext' (HE3.out.trans hE4))
            have hs4 := Below.size hE4
            obtain ⟨u0, u1, u2, u3⟩ := cells4 b4
            have HB4 := Lib.hid b4; have HZ4 := Lib.hid hZ4
            clear hE4 hS4 b4 hZ4 HOZ HX3 HE3
            by_cases k1 : kd = 1
            · have t1 : (kd != 1) = false := by simp [k1]
              have t2 : (kd == 2) = false := by simp [k1]
              have HST := Lib.hid ((HB.out k1).symm.trans HSO.out)
              subst k1
              go_upto_region 17 with fail
              have HP5 := Lib.hid (HP4.out.ext' (Ext.alloc W4 (.cells #[.int .i64 1, .int .i64 tg, .int .i64 F.length, .string ByteArray.empty] 51)))
              go_wp2_with (refine wpList_append_rows ECel (by rfl) _ _ (by rfl) (w.heap.size + 1) (.slice qm m cm) (.slice (some ⟨W4.heap.size, 0, none⟩) 1 1) (acc.map celC) [celC ⟨1, tg, F.length, ByteArray.empty⟩] (by rfl) HP5.out.m (by rfl) (rows_of_block (cs := #[.int .i64 1, .int .i64 tg, .int .i64 F.length, .string ByteArray.empty]) (heap_alloc_new _ _) rfl (by intro u hu; simp at hu; rcases hu with rfl | rfl | rfl | rfl <;> rfl)) (by rw [List.length_map, HN.out]; simp; unfold maxLen; omega) (by rw [List.length_map, HN.out]; simp; omega) (by simp; omega) ?_)
              intro v5 w5 ho5 hg5 _ _
              have hT := HP5.out.tell ho5 hg5
              obtain ⟨⟨q5, c5, rfl⟩, -⟩ := hT.forms
              have hn5 : (Value.slice qm m cm).ownBlock ≠ some w3.heap.size := fun e => by have := (HP.out.m.own _ e).2; omega
              have hsW : w3.heap.size < W4.heap.size := (Array.getElem?_eq_some_iff.1 HB4.out).1
              have hb5 := grown_block hg5 ((Below.block (Ext.alloc W4 (.cells #[.int .i64 1, .int .i64 tg, .int .i64 F.length, .string ByteArray.empty] 51)) w3.heap.size hsW).trans HB4.out) hn5
              have hz5 := (HZ4.out.ext (Ext.alloc W4 (.cells #[.int .i64 1, .int .i64 tg, .int .i64 F.length, .string ByteArray.empty] 51))).grown hg5 (fun b hb e => own_apart HP5.out.m (HZ4.out.ext (Ext.alloc _ _)) (by decide) b e hb)
              have hs5 := hg5.size
              rw [World.size_alloc] at hs5
              have HB5 := Lib.hid hb5; have HZ5 := Lib.hid hz5; have HT5 := Lib.hid hT
              have HLen : Hid ((acc ++ [(⟨1, tg, F.length, ByteArray.empty⟩ : Cl)]).length = m + 1) := Lib.hid (by rw [List.length_append, HN.out]; rfl)
              rw [HLen.out] at HT5 ⊢
              obtain ⟨o0, o1, o2, o3⟩ := cells4 hb5
              have hfr : ∀ b, (Value.slice (some ⟨gr, 0, none⟩) k cr).ownBlock = some b → b < wr.heap.size := fun b hb => (HP.out.r.own b hb).2
              have HFR := Lib.hid hfr
              clear hT hb5 hz5 ho5 hg5 hn5 hfr u0 u1 u2 u3 t1 t2 HP5 HB4 HZ4
              go_upto_block 19 with fail
              clear o0 o1 o2 o3
              generalize hac : acc ++ [(⟨1, tg, F.length, ByteArray.empty⟩ : Cl)] = acc5 at *
              have HAC := Lib.hid hac
              clear hac
              generalize wr = wo at *
              go_loopw [9, 13] (fun r i wx => ∃ k' : Nat, k' ≤ F.length ∧ i = .int .i64 ((k' : Int) - 1) ∧ OutAt (w.heap.size + 1) w1 wx acc5 (F.drop k' ++ st) (.slice q5 (m + 1) c5) r ∧ (∀ b, r.ownBlock = some b → b < wo.heap.size ∨ w5.heap.size ≤ b) ∧ (∀ b, wo.heap.size ≤ b → b < w5.heap.size → wx.heap[b]? = w5.heap[b]?) ∧ w5.heap.size ≤ wx.heap.size) (fun _ i _ => (Go.RowKit.intOf i + 1).toNat)
              case atStart => exact ⟨F.length, Nat.le_refl _, rfl, by rw [List.drop_length, List.nil_append]; exact HT5.out, fun b hb => .inl (HFR.out b hb), fun b _ _ => rfl, Nat.le_refl _⟩
              case round =>
                obtain ⟨k', hk', hi, hO, hne, hst, hsz⟩ := hrel
                obtain ⟨-, qr, cr', rfl, -, -⟩ := hO.forms
                rw [List.length_append, List.length_drop, HK.out] at hO hne ⊢
                have hbx := (hst w3.heap.size (by omega) (by omega)).trans HB5.out
                obtain ⟨o0, o1, o2, o3⟩ := cells4 hbx
                have HO := Lib.hid hO; have HNE := Lib.hid hne; have HSt := Lib.hid hst
                rcases k' with _ | j
                · rw [show (((0 : Nat) : Int) - 1) = -1 from rfl] at hi
                  subst hi
                  clear hO hne hst hbx
                  go_wp2_with fail
                  refine ⟨⟨acc5, F ++ st, HO.out, by rw [HLen.out]; omega, by rw [HLen.out, List.length_append, HK.out]; omega, fun z hz => (List.mem_append.1 hz).elim (HFZ.out z) (H64.out z), ?_⟩, ?_⟩
                  · rw [HLen.out, ← HAC.out, ← HST.out]; congr 1; have := HSS.out; omega
                  · simp only [slen]; omega
                · rw [show (((j + 1 : Nat) : Int) - 1) = (j : Int) by omega] at hi
                  subst hi
                  have hx := List.getElem?_eq_getElem (show j < F.length by omega)
                  have hdr : F.drop j = F[j] :: F.drop (j + 1) := List.drop_eq_getElem_cons (by omega)
                  generalize F[j] = x' at hx hdr
                  have hzw := HZ5.out.stays (w' := wr) (fun b hb hl => hst b ((HZ5.out.own b hb).1) hl)
                  obtain ⟨gz, hqz, -, z0, -⟩ := hzw.cell (i := j) (f := 0) (cs := wordC x') (u := .int .u64 x') (by rw [List.getElem?_map, hx]; rfl) rfl
                  rw [Nat.mul_one, Nat.add_zero] at z0
                  subst hqz
                  have i3 : (j : Int) < (F.length : Int) := by omega
                  have hst6l : (F.drop (j + 1) ++ st).length ≤ 100000 := by rw [List.length_append, HK.out, List.length_drop]; omega
                  have hdr2 : F.drop j ++ st = x' :: (F.drop (j + 1) ++ st) := by rw [hdr]; rfl
                  generalize F.drop (j + 1) ++ st = st6 at HO hst6l hdr2
                  have HDR := Lib.hid hdr2
                  clear hO hne hst hbx hx hdr hdr2 hzw
                  go_wp2_with (refine wpList_append_rows E64 (by rfl) _ _ (by rfl) (w.heap.size + 1) (.slice qr (F.length - (j + 1) + k) cr') (.slice (some ⟨wr.heap.size, 0, none⟩) 1 1) (st6.reverse.map wordC) [wordC x'] (by rfl) (HO.out.r.ext (Ext.alloc _ _)) (by rfl) (rows_of_block (cs := #[.int .u64 x']) (heap_alloc_new _ _) rfl (by intro u hu; simp at hu; subst hu; rfl)) (by simp; unfold maxLen; omega) (by simp; omega) (by simp; omega) ?_)
                  intro v6 w6 ho6 hg6 hb6 _
                  have hP6 := (HO.out.ext' (Ext.alloc wr (.cells #[.int .u64 x'] 42))).push (by rw [List.map_reverse]; exact ho6) hg6
                  have hs6 := hg6.size
                  simp only [World.size_alloc] at hs6 hb6
                  have hne6 : ∀ b, v6.ownBlock = some b → b < wo.heap.size ∨ w5.heap.size ≤ b := fun b hb => by
                    rcases hb6 with h | h
                    · rw [h] at hb; exact HNE.out b hb
                    · rw [h] at hb; have := Option.some.inj hb; omega
                  have hst6 : ∀ b, wo.heap.size ≤ b → b < w5.heap.size → w6.heap[b]? = w5.heap[b]? := fun b h1 h2 =>
                    (hg6.block b (by rw [World.size_alloc]; omega) (fun e => by have := HNE.out b e.symm; omega)).trans ((Below.block (Ext.alloc wr _) b (by omega)).trans (HSt.out b h1 h2))
                  have HP6 := Lib.hid hP6; have HNE6 := Lib.hid hne6; have HST6 := Lib.hid hst6
                  clear ho6 hg6 hb6 hP6 hne6 hst6 o0 o1 o2 o3 z0
                  go_wp2_with fail
                  refine ⟨⟨j, by omega, rfl, by rw [HDR.out]; exact HP6.out, HNE6.out, HST6.out, by omega⟩, by simp [Go.RowKit.intOf]⟩
            · have t1 : (kd != 1) = true := by simp [k1]
              by_cases k2 : kd = 2
              · have t2 : (kd != 2) = false := by simp [k2]
                have t3 : (kd == 2) = true := by simp [k2]
                have HST := Lib.hid ((HS2.out k2).symm.trans HSO.out)
                subst k2
                go_upto_region 16 with fail
                have HP5 := Lib.hid (HP4.out.ext' (Ext.alloc W4 (.cells #[.int .i64 2, .int .i64 0, .int .i64 0, .string tx] 51)))
                go_wp2_with (refine wpList_append_rows ECel (by rfl) _ _ (by rfl) (w.heap.size + 1) (.slice qm m cm) (.slice (some ⟨W4.heap.size, 0, none⟩) 1 1) (acc.map celC) [celC ⟨2, 0, 0, tx⟩] (by rfl) HP5.out.m (by rfl) (rows_of_block (cs := #[.int .i64 2, .int .i64 0, .int .i64 0, .string tx]) (heap_alloc_new _ _) rfl (by intro u hu; simp at hu; rcases hu with rfl | rfl | rfl <;> rfl)) (by rw [List.length_map, HN.out]; simp; unfold maxLen; omega) (by rw [List.length_map, HN.out]; simp; omega) (by simp; omega) ?_)
                intro v5 w5 ho5 hg5 _ _
                have hT := HP5.out.tell ho5 hg5
                obtain ⟨⟨q5, c5, rfl⟩, -⟩ := hT.forms
                have HT := Lib.hid hT
                clear ho5 hg5 hT
                go_wp2_with fail
                refine ⟨⟨_, st, HT.out, by rw [List.length_append, HN.out]; simp; omega, by rw [List.length_append, HN.out, HK.out]; simp; omega, H64.out, ?_⟩, ?_⟩
                · rw [List.length_append, HN.out, ← HST.out]; congr 1; have := HSS.out; simp; omega
                · simp only [slen, List.length_append, HN.out]; simp; omega
              · have t2 : (kd != 2) = true := by simp [k2]
                have HRo := Lib.hid (HSO.out.symm.trans (HOD.out k1 k2))
                go_wp2_with fail
                go_ret2
                rw [HRo.out]
                exact ⟨rfl, HX4.out⟩
end Go.Proofs.YtppkgfcobnknfaaGreatDoor
/- What FrameHandlers reads of the program's tables: op.rows (two of its rows), frame.nought. -/
namespace Go.Proofs.YtppkgfcobnknfaaGreatDoor
open Go.RowKit Go.ChangeShapes
set_option maxHeartbeats 2000000
set_option maxRecDepth 100000
/-- a row of op.rows as its datum: its name, its bounds, what it takes and leaves -/
def rowD (s : List UInt8) (a b c d e f : Int) : DataW Unit := .agg [.lit (.string s), .agg [.lit (.int .i64 a), .lit (.int .i64 b)], .agg [.lit (.int .i64 c), .lit (.int .i64 d)], .lit (.int .i64 e), .lit (.int .i64 f)]
def rowC (s : List UInt8) (a b c d e f : Int) : List Value := [.string ⟨s.toArray⟩, .int .i64 a, .int .i64 b, .int .i64 c, .int .i64 d, .int .i64 e, .int .i64 f]
theorem bound_cells {enc : TypeId × Value → Unit} {w : World} {base fuel : Nat} {sp : Nat → Bool} {held : Bool} {cs : List Value} {p : List MemPlace} {a b : Int}
    (h : DataW.trod enc Tryz.prog w base sp held fuel 153 cs = some (.agg [.lit (.int .i64 a), .lit (.int .i64 b)], p)) : cs = [.int .i64 a, .int .i64 b] := by
  obtain ⟨xs, k, _, hx, hlen, hxl, hf⟩ := DataW.trod_struct Tryz.underlying153 h
  have hc : Tryz.prog.cellsOf 153 = 2 := by kernel_rfl
  have ci : Tryz.prog.cellsOf 3 = 1 := by kernel_rfl
  rw [hc] at hlen
  match cs, hlen, xs, hxl with
  | [v0, v1], _, [y0, y1], _ =>
    have g0 := hf 0 _ rfl
    have g1 := hf 1 _ rfl
    simp [ci] at g0 g1 hx
    obtain ⟨a0, e0, x0, _⟩ := DataW.trod_int Tryz.underlying3 g0
    obtain ⟨a1, e1, x1, _⟩ := DataW.trod_int Tryz.underlying3 g1
    obtain ⟨⟨h0, h1⟩, _⟩ := hx
    rw [x0] at h0; rw [x1] at h1
    simp at e0 e1 h0 h1
    rw [e0, e1, h0, h1]
theorem row_cells {enc : TypeId × Value → Unit} {w : World} {base fuel : Nat} {sp : Nat → Bool} {held : Bool} {cs : List Value} {x : DataW Unit × List MemPlace} {s : List UInt8} {a b c d e f : Int}
    (h : DataW.trod enc Tryz.prog w base sp held fuel 155 cs = some x) (hx : x.1 = rowD s a b c d e f) : cs = rowC s a b c d e f := by
  obtain ⟨xs, k, _, rfl, hlen, hxl, hf⟩ := DataW.trod_struct Tryz.underlying155 h
  have hc : Tryz.prog.cellsOf 155 = 7 := by kernel_rfl
  have ci : Tryz.prog.cellsOf 3 = 1 := by kernel_rfl
  have cst : Tryz.prog.cellsOf 9 = 1 := by kernel_rfl
  have cb : Tryz.prog.cellsOf 153 = 2 := by kernel_rfl
  rw [hc] at hlen
  match cs, hlen, xs, hxl with
  | [v0, v1, v2, v3, v4, v5, v6], _, [y0, y1, y2, y3, y4], _ =>
    have g0 := hf 0 _ rfl
    have g1 := hf 1 _ rfl
    have g2 := hf 2 _ rfl
    have g3 := hf 3 _ rfl
    have g4 := hf 4 _ rfl
    simp [ci, cst, cb, rowD] at g0 g1 g2 g3 g4 hx
    obtain ⟨h0, h1, h2, h3, h4⟩ := hx
    obtain ⟨s0, e0, x0, _⟩ := DataW.trod_string Tryz.underlying9 g0
    have e1 := bound_cells (p := y1.2) (by rw [← h1]; exact g1)
    have e2 := bound_cells (p := y2.2) (by rw [← h2]; exact g2)
    obtain ⟨a3, e3, x3, _⟩ := DataW.trod_int Tryz.underlying3 g3
    obtain ⟨a4, e4, x4, _⟩ := DataW.trod_int Tryz.underlying3 g4
    rw [x0] at h0; rw [x3] at h3; rw [x4] at h4
    simp at e0 e1 e2 e3 e4 h0 h3 h4
    obtain ⟨rfl, rfl⟩ := e1
    obtain ⟨rfl, rfl⟩ := e2
    subst e0; subst e3; subst e4; subst h3; subst h4
    unfold rowC
    rw [← h0]
end Go.Proofs.YtppkgfcobnknfaaGreatDoor
/- From the row's list to what FrameHandlers reads. -/
namespace Go.Proofs.YtppkgfcobnknfaaGreatDoor
open Go.RowKit Go.ChangeShapes
set_option maxHeartbeats 2000000
set_option maxRecDepth 100000
theorem gRows : Tryz.prog.globalNamed "stockpot/op.rows" = some 0 := by kernel_rfl
def rowsL : List (DataW Unit) := match (Rows.laid_stockpot_op_rows : DataW Unit) with
  | .agg l => l
  | _ => []
theorem rows_agg : (Rows.laid_stockpot_op_rows : DataW Unit) = .agg rowsL := rfl
theorem row_int : rowsL[0]? = some (rowD [105, 110, 116] (-4611686018427387904) 4611686018427387903 0 0 0 1) := rfl
theorem row_ret : rowsL[9]? = some (rowD [114, 101, 116] 0 0 0 0 1 0) := rfl
theorem rows_lie {W : World} {l : List (String × DataW Unit)} (h : laidMetH Tryz.prog l W) (hh : (l.filter fun x => x.2.handleName?.isSome) = []) (hm : ("stockpot/op.rows", Rows.laid_stockpot_op_rows) ∈ l)
    {i : Nat} (hi : i < 38) {s : List UInt8} {a b c d e f : Int} (hr : rowsL[i]? = some (rowD s a b c d e f)) : ∀ j u, (rowC s a b c d e f)[j]? = some u → W.cell? ⟨0, i * 7 + j, none⟩ = some u := by
  intro j u hu
  have hj : j < 7 := by have := (List.getElem?_eq_some_iff.1 hu).1; simpa [rowC] using this
  obtain ⟨ps, hl, _⟩ := laidMet_of_H h hh
  obtain ⟨g', t', cs, fuel, p, hg', ht', hvar, hd⟩ := laid_mem hl hm
  obtain rfl := Option.some.inj (gRows.symm.trans hg')
  obtain rfl := Option.some.inj ((show (Tryz.prog.globals[0]?).map (·.type) = some 156 by kernel_rfl).symm.trans ht')
  obtain ⟨xs, m, _, hx, hlen, hxl, hf⟩ := DataW.trod_array Tryz.underlying156 hd
  have hc : Tryz.prog.cellsOf 155 = 7 := by kernel_rfl
  rw [rows_agg] at hx
  have hxr : rowsL = xs.map (·.1) := by
    have := congrArg Prod.fst hx
    simpa using this
  have h1 := hf i hi
  rw [hc] at h1
  have hxi : (xs.map (·.1))[i]? = some (rowD s a b c d e f) := by rw [← hxr]; exact hr
  rw [List.getElem?_map] at hxi
  obtain ⟨y, hy, hy1⟩ := Option.map_eq_some_iff.1 hxi
  rw [hy] at h1
  have h2 := row_cells h1 hy1
  have h3 : ((cs.toList.drop (i * 7)).take 7)[j]? = some u := by rw [h2]; exact hu
  rw [List.getElem?_take_of_lt hj, List.getElem?_drop] at h3
  simp only [World.var?, gRows, Option.bind_some] at hvar
  split at hvar
  · rename_i cs' tt fr hb
    obtain rfl := Option.some.inj hvar
    simpa [World.cell?, hb] using h3
  · cases hvar
end Go.Proofs.YtppkgfcobnknfaaGreatDoor
/- op.rows as it is laid: all its rows. -/
namespace Go.Proofs.YtppkgfcobnknfaaGreatDoor
open Go.RowKit Go.ChangeShapes
set_option maxHeartbeats 2000000
set_option maxRecDepth 100000
/-- how many words each instruction takes, and leaves -/
def tkL : List Int := [0, 0, 0, 1, 0, 0, 0, 2, 2, 1, 0, 1, 2, 2, 2, 2, 2, 2, 2, 0, 1, 1, 1, 2, 2, 2, 3, 1, 2, 1, 2, 1, 2, 0, 0, 1, 0, 1]
def lvL : List Int := [1, 1, 1, 0, 1, 1, 1, 1, 0, 0, 0, 0, 1, 1, 1, 1, 1, 1, 1, 1, 1, 1, 1, 1, 1, 1, 1, 1, 1, 1, 1, 1, 1, 0, 0, 0, 1, 0]
def rowK (s : List UInt8) (k : Nat) : DataW Unit := rowD s (bnd k).1 (bnd k).2.1 (bnd k).2.2.1 (bnd k).2.2.2 (tkL.getD k 0) (lvL.getD k 0)
def rowW (s : List UInt8) (k : Nat) : List Value := rowC s (bnd k).1 (bnd k).2.1 (bnd k).2.2.1 (bnd k).2.2.2 (tkL.getD k 0) (lvL.getD k 0)
theorem row_at : ∀ k : Nat, k < 38 → ∃ s, rowsL[k]? = some (rowK s k)
  | 0, _ => ⟨[105, 110, 116], rfl⟩
  | 1, _ => ⟨[115, 116, 114], rfl⟩
  | 2, _ => ⟨[108, 111, 99, 97, 108], rfl⟩
  | 3, _ => ⟨[115, 101, 116], rfl⟩
  | 4, _ => ⟨[101, 110, 118], rfl⟩
  | 5, _ => ⟨[115, 101, 108, 102], rfl⟩
  | 6, _ => ⟨[99, 108, 111, 115, 101], rfl⟩
  | 7, _ => ⟨[99, 97, 108, 108], rfl⟩
  | 8, _ => ⟨[116, 97, 105, 108], rfl⟩
  | 9, _ => ⟨[114, 101, 116], rfl⟩
  | 10, _ => ⟨[106, 117, 109, 112], rfl⟩
  | 11, _ => ⟨[106, 117, 109, 112, 122], rfl⟩
  | 12, _ => ⟨[97, 100, 100], rfl⟩
  | 13, _ => ⟨[115, 117, 98], rfl⟩
  | 14, _ => ⟨[109, 117, 108], rfl⟩
  | 15, _ => ⟨[100, 105, 118], rfl⟩
  | 16, _ => ⟨[109, 111, 100], rfl⟩
  | 17, _ => ⟨[101, 113], rfl⟩
  | 18, _ => ⟨[108, 101, 115, 115], rfl⟩
  | 19, _ => ⟨[98, 108, 111, 99, 107], rfl⟩
  | 20, _ => ⟨[102, 105, 101, 108, 100], rfl⟩
  | 21, _ => ⟨[105, 115, 105, 110, 116], rfl⟩
  | 22, _ => ⟨[105, 115, 116, 97, 103], rfl⟩
  | 23, _ => ⟨[115, 116, 111, 114, 101], rfl⟩
  | 24, _ => ⟨[97, 114, 114, 97, 121], rfl⟩
  | 25, _ => ⟨[103, 101, 116], rfl⟩
  | 26, _ => ⟨[112, 117, 116], rfl⟩
  | 27, _ => ⟨[108, 101, 110], rfl⟩
  | 28, _ => ⟨[99, 97, 116], rfl⟩
  | 29, _ => ⟨[115, 105, 122, 101], rfl⟩
  | 30, _ => ⟨[98, 121, 116, 101], rfl⟩
  | 31, _ => ⟨[116, 101, 120, 116], rfl⟩
  | 32, _ => ⟨[115, 97, 109, 101], rfl⟩
  | 33, _ => ⟨[116, 114, 121], rfl⟩
  | 34, _ => ⟨[117, 110, 116, 114, 121], rfl⟩
  | 35, _ => ⟨[114, 97, 105, 115, 101], rfl⟩
  | 36, _ => ⟨[104, 111, 115, 116], rfl⟩
  | 37, _ => ⟨[112, 111, 112], rfl⟩
  | n + 38, h => absurd h (by omega)
/-- the table lies where it was laid -/
def OpLie (W : World) : Prop := ∀ k : Nat, k < 38 → ∃ s, ∀ j u, (rowW s k)[j]? = some u → W.cell? ⟨0, k * 7 + j, none⟩ = some u
theorem OpLie.ext {w w' : World} (h : OpLie w) (e : Ext w w') : OpLie w' := fun k hk => by
  obtain ⟨s, hs⟩ := h k hk
  exact ⟨s, fun j u hu => e.cell (hs j u hu)⟩
theorem opLie_of_laid {W : World} {l : List (String × DataW Unit)} (h : laidMetH Tryz.prog l W) (hh : (l.filter fun x => x.2.handleName?.isSome) = []) (h1 : ("stockpot/op.rows", Rows.laid_stockpot_op_rows) ∈ l) : OpLie W := fun k hk => by
  obtain ⟨s, hs⟩ := row_at k hk
  exact ⟨s, rows_lie h hh h1 hk hs⟩
end Go.Proofs.YtppkgfcobnknfaaGreatDoor
/- The walks of what code.Good asks of the one program of wakes. -/
namespace Go.Proofs.YtppkgfcobnknfaaGreatDoor
open Go.RowKit
set_option maxHeartbeats 4000000
set_option maxRecDepth 100000
theorem between_is (v a b : Int) (w : World) : Calls Tryz.prog 66 #[.int .i64 v, .int .i64 a, .int .i64 b] w fun e w' => e = .returned (.bool (decide (a ≤ v) && decide (v ≤ b))) ∧ w = w' := by
  by_cases h : a ≤ v
  · have h1 : decide (a ≤ v) = true := decide_eq_true h
    go_enter Tryz.func66, Tryz.ntmps66
    go_wp2
    go_ret
    exact ⟨by rw [h1]; rfl, rfl⟩
  · have h1 : decide (a ≤ v) = false := decide_eq_false h
    go_enter Tryz.func66, Tryz.ntmps66
    go_wp2
    go_ret
    exact ⟨rfl, rfl⟩
theorem in_is (v a b : Int) (w : World) (ha : a ≤ v) (hb : v ≤ b) : Calls Tryz.prog 81 #[.agg #[.int .i64 a, .int .i64 b], .int .i64 v] w fun e w' => e = .returned (.bool true) ∧ Ext w w' := by
  go_enter Tryz.func81, Tryz.ntmps81
  go_wp2
  go_ret
  exact ⟨rfl, Ext.alloc _ _⟩
end Go.Proofs.YtppkgfcobnknfaaGreatDoor
/- op.Good: which instruction may be. -/
namespace Go.Proofs.YtppkgfcobnknfaaGreatDoor
open Go.RowKit
set_option maxHeartbeats 4000000
set_option maxRecDepth 100000
theorem bin_is (v a b : Int) (w : World) : Calls Tryz.prog 81 #[.agg #[.int .i64 a, .int .i64 b], .int .i64 v] w fun e w' => e = .returned (.bool (inB v a b)) ∧ Ext w w' := by
  unfold inB
  by_cases h : a ≤ v
  · have h1 : decide (a ≤ v) = true := decide_eq_true h
    go_enter Tryz.func81, Tryz.ntmps81
    go_wp2
    go_ret
    exact ⟨by rw [h1]; rfl, Ext.alloc _ _⟩
  · have h1 : decide (a ≤ v) = false := decide_eq_false h
    rw [h1]
    go_enter Tryz.func81, Tryz.ntmps81
    go_wp2
    go_ret
    exact ⟨rfl, Ext.alloc _ _⟩
def insV (i : In1) : Value := .agg #[.int .i64 i.op, .int .i64 i.a, .int .i64 i.b]
def insC (i : In1) : List Value := [.int .i64 i.op, .int .i64 i.a, .int .i64 i.b]
theorem op_good (op a b : Int) (w : World) (hk : OpLie w) : Calls Tryz.prog 76 #[.agg #[.int .i64 op, .int .i64 a, .int .i64 b]] w fun e w' => e = .returned (.bool (goodI ⟨op, a, b⟩)) ∧ Ext w w' := by
  by_cases h0 : op < 0
  · have hg : goodI ⟨op, a, b⟩ = false := by
      unfold goodI; rw [decide_eq_false (by omega : ¬ (0 : Int) ≤ op)]; simp
    have b0 : decide (op < 0) = true := decide_eq_true h0
    rw [hg]
    clear hg h0
    go_enter Tryz.func76, Tryz.ntmps76
    go_wp2
    go_ret
    exact ⟨rfl, Ext.alloc _ _⟩
  have b0 : decide (op < 0) = false := decide_eq_false h0
  by_cases h1 : 38 ≤ op
  · have hg : goodI ⟨op, a, b⟩ = false := by
      unfold goodI; rw [decide_eq_false (by omega : ¬ op < 38)]; simp
    have b1 : decide (38 ≤ op) = true := decide_eq_true h1
    rw [hg]
    clear hg h0 h1
    go_enter Tryz.func76, Tryz.ntmps76
    go_wp2
    go_ret
    exact ⟨rfl, Ext.alloc _ _⟩
  have b1 : decide (38 ≤ op) = false := decide_eq_false h1
  obtain ⟨k, rfl⟩ := Int.eq_ofNat_of_zero_le (show 0 ≤ op by omega)
  obtain ⟨s, hs⟩ := hk k (by omega)
  have e := Ext.alloc w (.cells #[.int .i64 k, .int .i64 a, .int .i64 b] 101)
  obtain ⟨n, c0, c1, d0, d1, f0, f1, hrow, hbnd⟩ : ∃ (n : ByteArray) (c0 c1 d0 d1 f0 f1 : Int), rowW s k = [.string n, .int .i64 c0, .int .i64 c1, .int .i64 d0, .int .i64 d1, .int .i64 f0, .int .i64 f1] ∧ bnd k = (c0, c1, d0, d1) := ⟨_, _, _, _, _, _, _, rfl, rfl⟩
  rw [hrow] at hs
  have r0 := e.cell (hs 0 _ rfl); have r1 := e.cell (hs 1 _ rfl); have r2 := e.cell (hs 2 _ rfl); have r3 := e.cell (hs 3 _ rfl); have r4 := e.cell (hs 4 _ rfl); have r5 := e.cell (hs 5 _ rfl); have r6 := e.cell (hs 6 _ rfl)
  rw [Nat.add_zero] at r0
  have hgo : goodI ⟨k, a, b⟩ = (!(decide ((k : Int) = 36) && decide (a ≠ 3) && decide (b ≠ 0)) && inB a c0 c1 && inB b d0 d1) := by
    unfold goodI
    rw [hbnd, decide_eq_true (by omega : (0 : Int) ≤ k), decide_eq_true (by omega : (k : Int) < 38)]
    rfl
  have HG := Lib.hid hgo
  have i1 : (k : Int) < 38 := by omega
  have i2 : k < 38 := by omega
  clear hs hrow hbnd hgo h0 h1 hk
  by_cases q36 : (k : Int) = 36
  · have t36 : ((k : Int) == 36) = true := beq_iff_eq.2 q36
    by_cases qa : a = 3
    · have ta : (a != 3) = false := by simp [qa]
      have HR := Lib.hid (show goodI ⟨k, a, b⟩ = (inB a c0 c1 && inB b d0 d1) by rw [HG.out]; simp [qa])
      clear HG qa q36
      rw [HR.out]
      have HA := Lib.hid (fun W => bin_is a c0 c1 W)
      have HB := Lib.hid (fun W => bin_is b d0 d1 W)
      clear HR
      generalize inB a c0 c1 = A at HA ⊢
      generalize inB b d0 d1 = B at HB ⊢
      cases A with
      | false =>
        go_enter Tryz.func76, Tryz.ntmps76
        go_upto_region 4 with fail
        refine wp_alloc2 fun W hE hS v0 v1 => ?_
        have x1 : W.cell? ⟨w.heap.size, 1, none⟩ = some (.int .i64 a) := cell_at v0 rfl
        have x2 : W.cell? ⟨w.heap.size, 2, none⟩ = some (.int .i64 b) := cell_at v0 rfl
        have x0 : W.cell? ⟨w.heap.size, 0, none⟩ = some (.int .i64 k) := cell_at v0 rfl
        have y1 : W.cell? ⟨w.heap.size + 1, 1, none⟩ = some (.int .i64 c0) := cell_at v1 rfl
        have y2 : W.cell? ⟨w.heap.size + 1, 2, none⟩ = some (.int .i64 c1) := cell_at v1 rfl
        have y3 : W.cell? ⟨w.heap.size + 1, 3, none⟩ = some (.int .i64 d0) := cell_at v1 rfl
        have y4 : W.cell? ⟨w.heap.size + 1, 4, none⟩ = some (.int .i64 d1) := cell_at v1 rfl
        have HE := Lib.hid hE
        clear r0 r1 r2 r3 r4 r5 r6 e hE hS v0 v1 b0 b1
        go_wp2_with fail
        refine (HA.out _).mono ?_; rintro e' w1 ⟨rfl, hx1⟩
        replace x2 := hx1.cell x2; replace y3 := hx1.cell y3; replace y4 := hx1.cell y4
        have HX := Lib.hid (HE.out.trans hx1)
        clear hx1 HE x0 x1 y1 y2 t36 HA
        go_wp2_with fail
        go_ret
        exact ⟨rfl, HX.out⟩
      | true =>
        go_enter Tryz.func76, Tryz.ntmps76
        go_upto_region 4 with fail
        refine wp_alloc2 fun W hE hS v0 v1 => ?_
        have x1 : W.cell? ⟨w.heap.size, 1, none⟩ = some (.int .i64 a) := cell_at v0 rfl
        have x2 : W.cell? ⟨w.heap.size, 2, none⟩ = some (.int .i64 b) := cell_at v0 rfl
        have x0 : W.cell? ⟨w.heap.size, 0, none⟩ = some (.int .i64 k) := cell_at v0 rfl
        have y1 : W.cell? ⟨w.heap.size + 1, 1, none⟩ = some (.int .i64 c0) := cell_at v1 rfl
        have y2 : W.cell? ⟨w.heap.size + 1, 2, none⟩ = some (.int .i64 c1) := cell_at v1 rfl
        have y3 : W.cell? ⟨w.heap.size + 1, 3, none⟩ = some (.int .i64 d0) := cell_at v1 rfl
        have y4 : W.cell? ⟨w.heap.size + 1, 4, none⟩ = some (.int .i64 d1) := cell_at v1 rfl
        have HE := Lib.hid hE
        clear r0 r1 r2 r3 r4 r5 r6 e hE hS v0 v1 b0 b1
        go_wp2_with fail
        refine (HA.out _).mono ?_; rintro e' w1 ⟨rfl, hx1⟩
        replace x2 := hx1.cell x2; replace y3 := hx1.cell y3; replace y4 := hx1.cell y4
        have HX := Lib.hid (HE.out.trans hx1)
        clear hx1 HE x0 x1 y1 y2 t36 HA
        go_wp2_with fail
        refine (HB.out _).mono ?_; rintro e' w2 ⟨rfl, hx2⟩
        have HX2 := Lib.hid (HX.out.trans hx2)
        clear hx2
        go_wp2_with fail
        go_ret
        exact ⟨rfl, HX2.out⟩
    · have ta : (a != 3) = true := by simp [qa]
      by_cases qb : b = 0
      · have tb : (b != 0) = false := by simp [qb]
        have HR := Lib.hid (show goodI ⟨k, a, b⟩ = (inB a c0 c1 && inB b d0 d1) by rw [HG.out]; simp [qb])
        clear HG qa qb q36
        rw [HR.out]
        have HA := Lib.hid (fun W => bin_is a c0 c1 W)
        have HB := Lib.hid (fun W => bin_is b d0 d1 W)
        clear HR
        generalize inB a c0 c1 = A at HA ⊢
        generalize inB b d0 d1 = B at HB ⊢
        cases A with
        | false =>
          go_enter Tryz.func76, Tryz.ntmps76
          go_upto_region 4 with fail
          refine wp_alloc2 fun W hE hS v0 v1 => ?_
          have x1 : W.cell? ⟨w.heap.size, 1, none⟩ = some (.int .i64 a) := cell_at v0 rfl
          have x2 : W.cell? ⟨w.heap.size, 2, none⟩ = some (.int .i64 b) := cell_at v0 rfl
          have x0 : W.cell? ⟨w.heap.size, 0, none⟩ = some (.int .i64 k) := cell_at v0 rfl
          have y1 : W.cell? ⟨w.heap.size + 1, 1, none⟩ = some (.int .i64 c0) := cell_at v1 rfl
          have y2 : W.cell? ⟨w.heap.size + 1, 2, none⟩ = some (.int .i64 c1) := cell_at v1 rfl
          have y3 : W.cell? ⟨w.heap.size + 1, 3, none⟩ = some (.int .i64 d0) := cell_at v1 rfl
          have y4 : W.cell? ⟨w.heap.size + 1, 4, none⟩ = some (.int .i64 d1) := cell_at v1 rfl
          have HE := Lib.hid hE
          clear r0 r1 r2 r3 r4 r5 r6 e hE hS v0 v1 b0 b1
          go_wp2_with fail
          refine (HA.out _).mono ?_; rintro e' w1 ⟨rfl, hx1⟩
          replace x2 := hx1.cell x2; replace y3 := hx1.cell y3; replace y4 := hx1.cell y4
          have HX := Lib.hid (HE.out.trans hx1)
          clear hx1 HE x0 x1 y1 y2 t36 HA
          go_wp2_with fail
          go_ret
          exact ⟨rfl, HX.out⟩
        | true =>
          go_enter Tryz.func76, Tryz.ntmps76
          go_upto_region 4 with fail
          refine wp_alloc2 fun W hE hS v0 v1 => ?_
          have x1 : W.cell? ⟨w.heap.size, 1, none⟩ = some (.int .i64 a) := cell_at v0 rfl
          have x2 : W.cell? ⟨w.heap.size, 2, none⟩ = some (.int .i64 b) := cell_at v0 rfl
          have x0 : W.cell? ⟨w.heap.size, 0, none⟩ = some (.int .i64 k) := cell_at v0 rfl
          have y1 : W.cell? ⟨w.heap.size + 1, 1, none⟩ = some (.int .i64 c0) := cell_at v1 rfl
          have y2 : W.cell? ⟨w.heap.size + 1, 2, none⟩ = some (.int .i64 c1) := cell_at v1 rfl
          have y3 : W.cell? ⟨w.heap.size + 1, 3, none⟩ = some (.int .i64 d0) := cell_at v1 rfl
          have y4 : W.cell? ⟨w.heap.size + 1, 4, none⟩ = some (.int .i64 d1) := cell_at v1 rfl
          have HE := Lib.hid hE
          clear r0 r1 r2 r3 r4 r5 r6 e hE hS v0 v1 b0 b1
          go_wp2_with fail
          refine (HA.out _).mono ?_; rintro e' w1 ⟨rfl, hx1⟩
          replace x2 := hx1.cell x2; replace y3 := hx1.cell y3; replace y4 := hx1.cell y4
          have HX := Lib.hid (HE.out.trans hx1)
          clear hx1 HE x0 x1 y1 y2 t36 HA
          go_wp2_with fail
          refine (HB.out _).mono ?_; rintro e' w2 ⟨rfl, hx2⟩
          have HX2 := Lib.hid (HX.out.trans hx2)
          clear hx2
          go_wp2_with fail
          go_ret
          exact ⟨rfl, HX2.out⟩
      · have tb : (b != 0) = true := by simp [qb]
        have HR := Lib.hid (show goodI ⟨k, a, b⟩ = false by rw [HG.out]; simp [q36, qa, qb])
        rw [HR.out]
        clear HR HG qa qb q36
        go_enter Tryz.func76, Tryz.ntmps76
        go_wp2_with fail
        go_ret
        exact ⟨rfl, (Ext.alloc _ _).trans (Ext.alloc _ _)⟩
  · have t36 : ((k : Int) == 36) = false := beq_false_of_ne q36
    have HR := Lib.hid (show goodI ⟨k, a, b⟩ = (inB a c0 c1 && inB b d0 d1) by rw [HG.out]; simp [q36])
    clear HG q36
    rw [HR.out]
    have HA := Lib.hid (fun W => bin_is a c0 c1 W)
    have HB := Lib.hid (fun W => bin_is b d0 d1 W)
    clear HR
    generalize inB a c0 c1 = A at HA ⊢
    generalize inB b d0 d1 = B at HB ⊢
    cases A with
    | false =>
      go_enter Tryz.func76, Tryz.ntmps76
      go_upto_region 4 with fail
      refine wp_alloc2 fun W hE hS v0 v1 => ?_
      have x1 : W.cell? ⟨w.heap.size, 1, none⟩ = some (.int .i64 a) := cell_at v0 rfl
      have x2 : W.cell? ⟨w.heap.size, 2, none⟩ = some (.int .i64 b) := cell_at v0 rfl
      have x0 : W.cell? ⟨w.heap.size, 0, none⟩ = some (.int .i64 k) := cell_at v0 rfl
      have y1 : W.cell? ⟨w.heap.size + 1, 1, none⟩ = some (.int .i64 c0) := cell_at v1 rfl
      have y2 : W.cell? ⟨w.heap.size + 1, 2, none⟩ = some (.int .i64 c1) := cell_at v1 rfl
      have y3 : W.cell? ⟨w.heap.size + 1, 3, none⟩ = some (.int .i64 d0) := cell_at v1 rfl
      have y4 : W.cell? ⟨w.heap.size + 1, 4, none⟩ = some (.int .i64 d1) := cell_at v1 rfl
      have HE := Lib.hid hE
      clear r0 r1 r2 r3 r4 r5 r6 e hE hS v0 v1 b0 b1
      go_wp2_with fail
      refine (HA.out _).mono ?_; rintro e' w1 ⟨rfl, hx1⟩
      replace x2 := hx1.cell x2; replace y3 := hx1.cell y3; replace y4 := hx1.cell y4
      have HX := Lib.hid (HE.out.trans hx1)
      clear hx1 HE x0 x1 y1 y2 t36 HA
      go_wp2_with fail
      go_ret
      exact ⟨rfl, HX.out⟩
    | true =>
      go_enter Tryz.func76, Tryz.ntmps76
      go_upto_region 4 with fail
      refine wp_alloc2 fun W hE hS v0 v1 => ?_
      have x1 : W.cell? ⟨w.heap.size, 1, none⟩ = some (.int .i64 a) := cell_at v0 rfl
      have x2 : W.cell? ⟨w.heap.size, 2, none⟩ = some (.int .i64 b) := cell_at v0 rfl
      have x0 : W.cell? ⟨w.heap.size, 0, none⟩ = some (.int .i64 k) := cell_at v0 rfl
      have y1 : W.cell? ⟨w.heap.size + 1, 1, none⟩ = some (.int .i64 c0) := cell_at v1 rfl
      have y2 : W.cell? ⟨w.heap.size + 1, 2, none⟩ = some (.int .i64 c1) := cell_at v1 rfl
      have y3 : W.cell? ⟨w.heap.size + 1, 3, none⟩ = some (.int .i64 d0) := cell_at v1 rfl
      have y4 : W.cell? ⟨w.heap.size + 1, 4, none⟩ = some (.int .i64 d1) := cell_at v1 rfl
      have HE := Lib.hid hE
      clear r0 r1 r2 r3 r4 r5 r6 e hE hS v0 v1 b0 b1
      go_wp2_with fail
      refine (HA.out _).mono ?_; rintro e' w1 ⟨rfl, hx1⟩
      replace x2 := hx1.cell x2; replace y3 := hx1.cell y3; replace y4 := hx1.cell y4
      have HX := Lib.hid (HE.out.trans hx1)
      clear hx1 HE x0 x1 y1 y2 t36 HA
      go_wp2_with fail
      refine (HB.out _).mono ?_; rintro e' w2 ⟨rfl, hx2⟩
      have HX2 := Lib.hid (HX.out.trans hx2)
      clear hx2
      go_wp2_with fail
      go_ret
      exact ⟨rfl, HX2.out⟩
end Go.Proofs.YtppkgfcobnknfaaGreatDoor
/- code.function, code.form: which function and which form may be (the program's). -/
namespace Go.Proofs.YtppkgfcobnknfaaGreatDoor
open Go.RowKit
set_option maxHeartbeats 4000000
set_option maxRecDepth 100000
theorem betw_is (v a b : Int) (w : World) : Calls Tryz.prog 66 #[.int .i64 v, .int .i64 a, .int .i64 b] w fun e w' => e = .returned (.bool (inB v a b)) ∧ w = w' := between_is v a b w
/-- a function as it lies -/
structure FnI where
  f : Fn
  v : Value
def fnC (x : FnI) : List Value := [.int .i64 x.f.locals, .int .i64 x.f.free, x.v]
def FnP (w : World) (x : FnI) : Prop := RowsP w x.v 3 (x.f.code.map insC)
theorem FnP.ext {w w' : World} {x : FnI} (h : FnP w x) (e : Ext w w') : FnP w' x := RowsP.ext h e
def ncC (n : Int) : List Value := [.int .i64 n]
/-- a form as it lies -/
structure FoI where
  f : Fo
  v : Value
def foC (x : FoI) : List Value := [.int .i64 x.f.kind, .int .i64 x.f.a, .int .i64 x.f.b, x.v]
def FoP (w : World) (x : FoI) : Prop := RowsP w x.v 1 (x.f.cons.map ncC)
theorem FoP.ext {w w' : World} {x : FoI} (h : FoP w x) (e : Ext w w') : FoP w' x := RowsP.ext h e
theorem all_drop {α : Type} {p : α → Bool} {l : List α} {k : Nat} {x : α} (h : l[k]? = some x) : (l.drop k).all p = (p x && (l.drop (k + 1)).all p) := by
  obtain ⟨hk, e⟩ := List.getElem?_eq_some_iff.1 h
  rw [List.drop_eq_getElem_cons hk, e, List.all_cons]
theorem function_is {w : World} (hk : OpLie w) (x : FnI) (hx : FnP w x) (first : Bool) : Calls Tryz.prog 67 #[.agg #[.int .i64 x.f.locals, .int .i64 x.f.free, x.v], .bool first] w fun e w' => e = .returned (.bool (goodFn x.f first)) ∧ Ext w w' := by
  obtain ⟨⟨lo, fr, code⟩, v⟩ := x
  unfold FnP at hx
  dsimp only at hx ⊢
  obtain ⟨q, c, rfl, h1, h2, hc⟩ := RowsP.at hx
  rw [List.length_map] at h1 ⊢
  have HC := Lib.hid hc
  have HK := Lib.hid hk
  clear hx hc hk
  unfold maxLen at h2
  have hC := fun W => betw_is code.length 1 600 W
  cases first with
  | true =>
    have hA := fun W => betw_is lo 0 60 W
    have hB := fun W => betw_is fr 0 0 W
    have hgf : goodFn ⟨lo, fr, code⟩ true = (code.all goodI && inB lo 0 60 && inB fr 0 0 && inB code.length 1 600) := rfl
    generalize inB lo 0 60 = A at hA hgf
    generalize inB fr 0 0 = B at hB hgf
    generalize inB code.length 1 600 = C at hC hgf
    rw [hgf]
    clear hgf
    go_enter Tryz.func67, Tryz.ntmps67
    go_upto_region 4 with fail
    refine wp_alloc1 fun W hE hS b0 => ?_
    have f0 : W.cell? ⟨w.heap.size, 0, none⟩ = some (.int .i64 lo) := cell_at b0 rfl
    have f1 : W.cell? ⟨w.heap.size, 1, none⟩ = some (.int .i64 fr) := cell_at b0 rfl
    have f2 : W.cell? ⟨w.heap.size, 2, none⟩ = some (.slice q code.length c) := cell_at b0 rfl
    have HE := Lib.hid hE
    clear hE hS b0
    go_upto_block 5 with fail
    go_loopw [13] (fun i wr => ∃ j : Nat, j ≤ code.length ∧ i = .int .i64 j ∧ code.all goodI = (code.drop j).all goodI ∧ Ext W wr) (fun i _ => code.length - (Go.RowKit.intOf i).toNat)
    case atStart => exact ⟨0, by omega, rfl, rfl, Ext.refl _⟩
    case round =>
      obtain ⟨j, hj, rfl, ha, hx⟩ := hrel
      have HA := Lib.hid ha
      replace f0 := hx.cell f0; replace f1 := hx.cell f1; replace f2 := hx.cell f2
      have HX := Lib.hid (HE.out.trans hx)
      have HX1 := Lib.hid hx
      clear ha hx HE
      by_cases hlt : j < code.length
      · have hxk := List.getElem?_eq_getElem hlt
        generalize code[j] = x at hxk
        obtain ⟨b, off, rfl, hcell⟩ := HC.out j (insC x) (by rw [List.getElem?_map, hxk]; rfl)
        have y0 := HX.out.cell (hcell 0 _ rfl); have y1 := HX.out.cell (hcell 1 _ rfl); have y2 := HX.out.cell (hcell 2 _ rfl)
        rw [Nat.add_zero] at y0
        have HD := Lib.hid (HA.out.trans (all_drop (p := goodI) hxk))
        have i1 : (j : Int) < (code.length : Int) := by omega
        clear hcell hxk HA
        obtain ⟨op, a, b'⟩ := x
        dsimp only at y0 y1 y2
        have HG := Lib.hid (fun W' (e : Ext wr W') => op_good op a b' W' (HK.out.ext (HX.out.trans e)))
        generalize goodI ⟨op, a, b'⟩ = g at HD HG
        cases g with
        | true =>
          go_wp2_with fail
          refine (HG.out _ (Ext.alloc _ _)).mono ?_
          rintro e w1 ⟨rfl, hx1⟩
          have HX2 := Lib.hid (HX1.out.trans ((Ext.alloc _ _).trans hx1))
          clear hx1
          go_wp2_with fail
          exact ⟨⟨j + 1, by omega, by go_num, by rw [HD.out, Bool.true_and], HX2.out⟩, by simp [Go.RowKit.intOf]; omega⟩
        | false =>
          go_wp2_with fail
          refine (HG.out _ (Ext.alloc _ _)).mono ?_
          rintro e w1 ⟨rfl, hx1⟩
          have HX2 := Lib.hid (HX.out.trans ((Ext.alloc _ _).trans hx1))
          clear hx1
          go_wp2_with fail
          go_ret
          rw [HD.out, Bool.false_and]
          exact ⟨rfl, HX2.out⟩
      · obtain rfl : j = code.length := by omega
        have HD := Lib.hid (show code.all goodI = true by rw [HA.out, List.drop_length]; rfl)
        clear HA HC HK HX1
        cases A with
        | false =>
          go_wp2_with fail
          refine (hA _).mono ?_; rintro e w2 ⟨rfl, rfl⟩
          go_wp2_with fail
          go_ret
          exact ⟨by rw [HD.out]; rfl, HX.out⟩
        | true =>
          cases B with
          | false =>
            go_wp2_with fail
            refine (hA _).mono ?_; rintro e w2 ⟨rfl, rfl⟩
            go_wp2_with fail
            refine (hB _).mono ?_; rintro e w2 ⟨rfl, rfl⟩
            go_wp2_with fail
            go_ret
            exact ⟨by rw [HD.out]; rfl, HX.out⟩
          | true =>
            go_wp2_with fail
            refine (hA _).mono ?_; rintro e w2 ⟨rfl, rfl⟩
            go_wp2_with fail
            refine (hB _).mono ?_; rintro e w2 ⟨rfl, rfl⟩
            go_wp2_with fail
            refine (hC _).mono ?_; rintro e w2 ⟨rfl, rfl⟩
            go_wp2_with fail
            go_ret
            exact ⟨by rw [HD.out]; rfl, HX.out⟩
  | false =>
    have hA := fun W => betw_is lo 1 60 W
    have hB := fun W => betw_is fr 0 30 W
    have hgf : goodFn ⟨lo, fr, code⟩ false = (code.all goodI && inB lo 1 60 && inB fr 0 30 && inB code.length 1 600) := rfl
    generalize inB lo 1 60 = A at hA hgf
    generalize inB fr 0 30 = B at hB hgf
    generalize inB code.length 1 600 = C at hC hgf
    rw [hgf]
    clear hgf
    go_enter Tryz.func67, Tryz.ntmps67
    go_upto_region 4 with fail
    refine wp_alloc1 fun W hE hS b0 => ?_
    have f0 : W.cell? ⟨w.heap.size, 0, none⟩ = some (.int .i64 lo) := cell_at b0 rfl
    have f1 : W.cell? ⟨w.heap.size, 1, none⟩ = some (.int .i64 fr) := cell_at b0 rfl
    have f2 : W.cell? ⟨w.heap.size, 2, none⟩ = some (.slice q code.length c) := cell_at b0 rfl
    have HE := Lib.hid hE
    clear hE hS b0
    go_upto_block 5 with fail
    go_loopw [13] (fun i wr => ∃ j : Nat, j ≤ code.length ∧ i = .int .i64 j ∧ code.all goodI = (code.drop j).all goodI ∧ Ext W wr) (fun i _ => code.length - (Go.RowKit.intOf i).toNat)
    case atStart => exact ⟨0, by omega, rfl, rfl, Ext.refl _⟩
    case round =>
      obtain ⟨j, hj, rfl, ha, hx⟩ := hrel
      have HA := Lib.hid ha
      replace f0 := hx.cell f0; replace f1 := hx.cell f1; replace f2 := hx.cell f2
      have HX := Lib.hid (HE.out.trans hx)
      have HX1 := Lib.hid hx
      clear ha hx HE
      by_cases hlt : j < code.length
      · have hxk := List.getElem?_eq_getElem hlt
        generalize code[j] = x at hxk
        obtain ⟨b, off, rfl, hcell⟩ := HC.out j (insC x) (by rw [List.getElem?_map, hxk]; rfl)
        have y0 := HX.out.cell (hcell 0 _ rfl); have y1 := HX.out.cell (hcell 1 _ rfl); have y2 := HX.out.cell (hcell 2 _ rfl)
        rw [Nat.add_zero] at y0
        have HD := Lib.hid (HA.out.trans (all_drop (p := goodI) hxk))
        have i1 : (j : Int) < (code.length : Int) := by omega
        clear hcell hxk HA
        obtain ⟨op, a, b'⟩ := x
        dsimp only at y0 y1 y2
        have HG := Lib.hid (fun W' (e : Ext wr W') => op_good op a b' W' (HK.out.ext (HX.out.trans e)))
        generalize goodI ⟨op, a, b'⟩ = g at HD HG
        cases g with
        | true =>
          go_wp2_with fail
          refine (HG.out _ (Ext.alloc _ _)).mono ?_
          rintro e w1 ⟨rfl, hx1⟩
          have HX2 := Lib.hid (HX1.out.trans ((Ext.alloc _ _).trans hx1))
          clear hx1
          go_wp2_with fail
          exact ⟨⟨j + 1, by omega, by go_num, by rw [HD.out, Bool.true_and], HX2.out⟩, by simp [Go.RowKit.intOf]; omega⟩
        | false =>
          go_wp2_with fail
          refine (HG.out _ (Ext.alloc _ _)).mono ?_
          rintro e w1 ⟨rfl, hx1⟩
          have HX2 := Lib.hid (HX.out.trans ((Ext.alloc _ _).trans hx1))
          clear hx1
          go_wp2_with fail
          go_ret
          rw [HD.out, Bool.false_and]
          exact ⟨rfl, HX2.out⟩
      · obtain rfl : j = code.length := by omega
        have HD := Lib.hid (show code.all goodI = true by rw [HA.out, List.drop_length]; rfl)
        clear HA HC HK HX1
        cases A with
        | false =>
          go_wp2_with fail
          refine (hA _).mono ?_; rintro e w2 ⟨rfl, rfl⟩
          go_wp2_with fail
          go_ret
          exact ⟨by rw [HD.out]; rfl, HX.out⟩
        | true =>
          cases B with
          | false =>
            go_wp2_with fail
            refine (hA _).mono ?_; rintro e w2 ⟨rfl, rfl⟩
            go_wp2_with fail
            refine (hB _).mono ?_; rintro e w2 ⟨rfl, rfl⟩
            go_wp2_with fail
            go_ret
            exact ⟨by rw [HD.out]; rfl, HX.out⟩
          | true =>
            go_wp2_with fail
            refine (hA _).mono ?_; rintro e w2 ⟨rfl, rfl⟩
            go_wp2_with fail
            refine (hB _).mono ?_; rintro e w2 ⟨rfl, rfl⟩
            go_wp2_with fail
            refine (hC _).mono ?_; rintro e w2 ⟨rfl, rfl⟩
            go_wp2_with fail
            go_ret
            exact ⟨by rw [HD.out]; rfl, HX.out⟩
end Go.Proofs.YtppkgfcobnknfaaGreatDoor
/- code.form: which form may be (the program's). -/
namespace Go.Proofs.YtppkgfcobnknfaaGreatDoor
open Go.RowKit
set_option maxHeartbeats 4000000
set_option maxRecDepth 100000
theorem form_is {w : World} (x : FoI) (hx : FoP w x) (n : Nat) (hn : n ≤ 1000000) : Calls Tryz.prog 68 #[.agg #[.int .i64 x.f.kind, .int .i64 x.f.a, .int .i64 x.f.b, x.v], .int .i64 n] w fun e w' => e = .returned (.bool (goodFo x.f n)) ∧ Ext w w' := by
  obtain ⟨⟨kd, fa, fb, cons⟩, v⟩ := x
  unfold FoP at hx
  dsimp only at hx ⊢
  obtain ⟨q, c, rfl, h1, h2, hc⟩ := RowsP.at hx
  rw [List.length_map] at h1 ⊢
  have HC := Lib.hid hc
  clear hx hc
  unfold maxLen at h2
  have hF := fun x W => betw_is x (-1) (n - 1) W
  have hA := fun W => betw_is kd 1 7 W
  obtain ⟨P, hP⟩ : ∃ P : Int → Bool, P = fun c => inB c (-1) ((n : Int) - 1) := ⟨_, rfl⟩
  have hF : ∀ (x : Int) W, Calls Tryz.prog 66 #[.int .i64 x, .int .i64 (-1), .int .i64 ((n : Int) - 1)] W fun e w' => e = .returned (.bool (P x)) ∧ W = w' := by rw [hP]; exact fun x W => betw_is x (-1) (n - 1) W
  by_cases h5 : kd = 5
  · subst h5
    have hB := fun W => betw_is fa 0 (n - 1) W
    have hC := fun W => betw_is fb 0 (n - 1) W
    have hD := fun W => betw_is cons.length 0 0 W
    have hgf : goodFo ⟨5, fa, fb, cons⟩ n = (cons.all P && inB 5 1 7 && inB fa 0 ((n : Int) - 1) && inB fb 0 ((n : Int) - 1) && inB cons.length 0 0) := by rw [hP]; rfl
    generalize inB 5 1 7 = A at hA hgf
    generalize inB fa 0 ((n : Int) - 1) = B at hB hgf
    generalize inB fb 0 ((n : Int) - 1) = C at hC hgf
    generalize inB cons.length 0 0 = D at hD hgf
    clear hP
    rw [hgf]
    clear hgf
    go_enter Tryz.func68, Tryz.ntmps68
    go_upto_region 2 with fail
    refine wp_alloc1 fun W hE hS b0 => ?_
    have f0 : W.cell? ⟨w.heap.size, 0, none⟩ = some (.int .i64 _) := cell_at b0 rfl
    have f1 : W.cell? ⟨w.heap.size, 1, none⟩ = some (.int .i64 fa) := cell_at b0 rfl
    have f2 : W.cell? ⟨w.heap.size, 2, none⟩ = some (.int .i64 fb) := cell_at b0 rfl
    have f3 : W.cell? ⟨w.heap.size, 3, none⟩ = some (.slice q cons.length c) := cell_at b0 rfl
    have HE := Lib.hid hE
    clear hE hS b0
    go_upto_block 10 with fail
    go_loopw [28] (fun i wr => ∃ j : Nat, j ≤ cons.length ∧ i = .int .i64 j ∧ cons.all P = (cons.drop j).all P ∧ Ext W wr) (fun i _ => cons.length - (Go.RowKit.intOf i).toNat)
    case atStart => exact ⟨0, by omega, rfl, rfl, Ext.refl _⟩
    case round =>
      obtain ⟨j, hj, rfl, ha, hx⟩ := hrel
      have HA := Lib.hid ha
      replace f0 := hx.cell f0; replace f1 := hx.cell f1; replace f2 := hx.cell f2; replace f3 := hx.cell f3
      have HX := Lib.hid (HE.out.trans hx)
      have HX1 := Lib.hid hx
      clear ha hx HE
      by_cases hlt : j < cons.length
      · have hxk := List.getElem?_eq_getElem hlt
        generalize cons[j] = x at hxk
        obtain ⟨b, off, rfl, hcell⟩ := HC.out j (ncC x) (by rw [List.getElem?_map, hxk]; rfl)
        have y0 := HX.out.cell (hcell 0 _ rfl)
        rw [Nat.add_zero, Nat.mul_one] at y0
        have HD := Lib.hid (HA.out.trans (all_drop (p := P) hxk))
        have i1 : (j : Int) < (cons.length : Int) := by omega
        have HG := Lib.hid (hF x)
        clear hcell hxk HA hF hA hB hC hD
        generalize P x = g at HD HG
        cases g with
        | true =>
          go_wp2_with fail
          refine (HG.out _).mono ?_
          rintro e w1 ⟨rfl, rfl⟩
          go_wp2_with fail
          exact ⟨⟨j + 1, by omega, by go_num, by rw [HD.out, Bool.true_and], HX1.out⟩, by simp [Go.RowKit.intOf]; omega⟩
        | false =>
          go_wp2_with fail
          refine (HG.out _).mono ?_
          rintro e w1 ⟨rfl, rfl⟩
          go_wp2_with fail
          go_ret
          rw [HD.out, Bool.false_and]
          exact ⟨rfl, HX.out⟩
      · obtain rfl : j = cons.length := by omega
        have HD := Lib.hid (show cons.all P = true by rw [HA.out, List.drop_length]; rfl)
        clear HA HC HX1 hF
        cases A with
        | false =>
          go_wp2_with fail
          refine (hA _).mono ?_; rintro e w2 ⟨rfl, rfl⟩
          go_wp2_with fail
          go_ret
          exact ⟨by rw [HD.out]; rfl, HX.out⟩
        | true =>
          cases B with
          | false =>
            go_wp2_with fail
            refine (hA _).mono ?_; rintro e w2 ⟨rfl, rfl⟩
            go_wp2_with fail
            refine (hB _).mono ?_; rintro e w2 ⟨rfl, rfl⟩
            go_wp2_with fail
            go_ret
            exact ⟨by rw [HD.out]; rfl, HX.out⟩
          | true =>
            cases C with
            | false =>
              go_wp2_with fail
              refine (hA _).mono ?_; rintro e w2 ⟨rfl, rfl⟩
              go_wp2_with fail
              refine (hB _).mono ?_; rintro e w2 ⟨rfl, rfl⟩
              go_wp2_with fail
              refine (hC _).mono ?_; rintro e w2 ⟨rfl, rfl⟩
              go_wp2_with fail
              go_ret
              exact ⟨by rw [HD.out]; rfl, HX.out⟩
            | true =>
              go_wp2_with fail
              refine (hA _).mono ?_; rintro e w2 ⟨rfl, rfl⟩
              go_wp2_with fail
              refine (hB _).mono ?_; rintro e w2 ⟨rfl, rfl⟩
              go_wp2_with fail
              refine (hC _).mono ?_; rintro e w2 ⟨rfl, rfl⟩
              go_wp2_with fail
              refine (hD _).mono ?_; rintro e w2 ⟨rfl, rfl⟩
              go_wp2_with fail
              go_ret
              exact ⟨by rw [HD.out]; rfl, HX.out⟩
  by_cases h6 : kd = 6
  · subst h6
    clear h5
    have hB := fun W => betw_is fa 0 (n - 1) W
    have hC := fun W => betw_is fb 0 0 W
    have hD := fun W => betw_is cons.length 0 0 W
    have hgf : goodFo ⟨6, fa, fb, cons⟩ n = (cons.all P && inB 6 1 7 && inB fa 0 ((n : Int) - 1) && inB fb 0 0 && inB cons.length 0 0) := by rw [hP]; rfl
    generalize inB 6 1 7 = A at hA hgf
    generalize inB fa 0 ((n : Int) - 1) = B at hB hgf
    generalize inB fb 0 0 = C at hC hgf
    generalize inB cons.length 0 0 = D at hD hgf
    clear hP
    rw [hgf]
    clear hgf
    go_enter Tryz.func68, Tryz.ntmps68
    go_upto_region 2 with fail
    refine wp_alloc1 fun W hE hS b0 => ?_
    have f0 : W.cell? ⟨w.heap.size, 0, none⟩ = some (.int .i64 _) := cell_at b0 rfl
    have f1 : W.cell? ⟨w.heap.size, 1, none⟩ = some (.int .i64 fa) := cell_at b0 rfl
    have f2 : W.cell? ⟨w.heap.size, 2, none⟩ = some (.int .i64 fb) := cell_at b0 rfl
    have f3 : W.cell? ⟨w.heap.size, 3, none⟩ = some (.slice q cons.length c) := cell_at b0 rfl
    have HE := Lib.hid hE
    clear hE hS b0
    go_upto_block 10 with fail
    go_loopw [28] (fun i wr => ∃ j : Nat, j ≤ cons.length ∧ i = .int .i64 j ∧ cons.all P = (cons.drop j).all P ∧ Ext W wr) (fun i _ => cons.length - (Go.RowKit.intOf i).toNat)
    case atStart => exact ⟨0, by omega, rfl, rfl, Ext.refl _⟩
    case round =>
      obtain ⟨j, hj, rfl, ha, hx⟩ := hrel
      have HA := Lib.hid ha
      replace f0 := hx.cell f0; replace f1 := hx.cell f1; replace f2 := hx.cell f2; replace f3 := hx.cell f3
      have HX := Lib.hid (HE.out.trans hx)
      have HX1 := Lib.hid hx
      clear ha hx HE
      by_cases hlt : j < cons.length
      · have hxk := List.getElem?_eq_getElem hlt
        generalize cons[j] = x at hxk
        obtain ⟨b, off, rfl, hcell⟩ := HC.out j (ncC x) (by rw [List.getElem?_map, hxk]; rfl)
        have y0 := HX.out.cell (hcell 0 _ rfl)
        rw [Nat.add_zero, Nat.mul_one] at y0
        have HD := Lib.hid (HA.out.trans (all_drop (p := P) hxk))
        have i1 : (j : Int) < (cons.length : Int) := by omega
        have HG := Lib.hid (hF x)
        clear hcell hxk HA hF hA hB hC hD
        generalize P x = g at HD HG
        cases g with
        | true =>
          go_wp2_with fail
          refine (HG.out _).mono ?_
          rintro e w1 ⟨rfl, rfl⟩
          go_wp2_with fail
          exact ⟨⟨j + 1, by omega, by go_num, by rw [HD.out, Bool.true_and], HX1.out⟩, by simp [Go.RowKit.intOf]; omega⟩
        | false =>
          go_wp2_with fail
          refine (HG.out _).mono ?_
          rintro e w1 ⟨rfl, rfl⟩
          go_wp2_with fail
          go_ret
          rw [HD.out, Bool.false_and]
          exact ⟨rfl, HX.out⟩
      · obtain rfl : j = cons.length := by omega
        have HD := Lib.hid (show cons.all P = true by rw [HA.out, List.drop_length]; rfl)
        clear HA HC HX1 hF
        cases A with
        | false =>
          go_wp2_with fail
          refine (hA _).mono ?_; rintro e w2 ⟨rfl, rfl⟩
          go_wp2_with fail
          go_ret
          exact ⟨by rw [HD.out]; rfl, HX.out⟩
        | true =>
          cases B with
          | false =>
            go_wp2_with fail
            refine (hA _).mono ?_; rintro e w2 ⟨rfl, rfl⟩
            go_wp2_with fail
            refine (hB _).mono ?_; rintro e w2 ⟨rfl, rfl⟩
            go_wp2_with fail
            go_ret
            exact ⟨by rw [HD.out]; rfl, HX.out⟩
          | true =>
            cases C with
            | false =>
              go_wp2_with fail
              refine (hA _).mono ?_; rintro e w2 ⟨rfl, rfl⟩
              go_wp2_with fail
              refine (hB _).mono ?_; rintro e w2 ⟨rfl, rfl⟩
              go_wp2_with fail
              refine (hC _).mono ?_; rintro e w2 ⟨rfl, rfl⟩
              go_wp2_with fail
              go_ret
              exact ⟨by rw [HD.out]; rfl, HX.out⟩
            | true =>
              go_wp2_with fail
              refine (hA _).mono ?_; rintro e w2 ⟨rfl, rfl⟩
              go_wp2_with fail
              refine (hB _).mono ?_; rintro e w2 ⟨rfl, rfl⟩
              go_wp2_with fail
              refine (hC _).mono ?_; rintro e w2 ⟨rfl, rfl⟩
              go_wp2_with fail
              refine (hD _).mono ?_; rintro e w2 ⟨rfl, rfl⟩
              go_wp2_with fail
              go_ret
              exact ⟨by rw [HD.out]; rfl, HX.out⟩
  by_cases h7 : kd = 7
  · subst h7
    clear h5 h6
    have hB := fun W => betw_is fa 0 0 W
    have hC := fun W => betw_is fb 0 0 W
    have hD := fun W => betw_is cons.length 1 20 W
    have hgf : goodFo ⟨7, fa, fb, cons⟩ n = (cons.all P && inB 7 1 7 && inB fa 0 0 && inB fb 0 0 && inB cons.length 1 20) := by rw [hP]; rfl
    generalize inB 7 1 7 = A at hA hgf
    generalize inB fa 0 0 = B at hB hgf
    generalize inB fb 0 0 = C at hC hgf
    generalize inB cons.length 1 20 = D at hD hgf
    clear hP
    rw [hgf]
    clear hgf
    go_enter Tryz.func68, Tryz.ntmps68
    go_upto_region 2 with fail
    refine wp_alloc1 fun W hE hS b0 => ?_
    have f0 : W.cell? ⟨w.heap.size, 0, none⟩ = some (.int .i64 _) := cell_at b0 rfl
    have f1 : W.cell? ⟨w.heap.size, 1, none⟩ = some (.int .i64 fa) := cell_at b0 rfl
    have f2 : W.cell? ⟨w.heap.size, 2, none⟩ = some (.int .i64 fb) := cell_at b0 rfl
    have f3 : W.cell? ⟨w.heap.size, 3, none⟩ = some (.slice q cons.length c) := cell_at b0 rfl
    have HE := Lib.hid hE
    clear hE hS b0
    go_upto_block 10 with fail
    go_loopw [28] (fun i wr => ∃ j : Nat, j ≤ cons.length ∧ i = .int .i64 j ∧ cons.all P = (cons.drop j).all P ∧ Ext W wr) (fun i _ => cons.length - (Go.RowKit.intOf i).toNat)
    case atStart => exact ⟨0, by omega, rfl, rfl, Ext.refl _⟩
    case round =>
      obtain ⟨j, hj, rfl, ha, hx⟩ := hrel
      have HA := Lib.hid ha
      replace f0 := hx.cell f0; replace f1 := hx.cell f1; replace f2 := hx.cell f2; replace f3 := hx.cell f3
      have HX := Lib.hid (HE.out.trans hx)
      have HX1 := Lib.hid hx
      clear ha hx HE
      by_cases hlt : j < cons.length
      · have hxk := List.getElem?_eq_getElem hlt
        generalize cons[j] = x at hxk
        obtain ⟨b, off, rfl, hcell⟩ := HC.out j (ncC x) (by rw [List.getElem?_map, hxk]; rfl)
        have y0 := HX.out.cell (hcell 0 _ rfl)
        rw [Nat.add_zero, Nat.mul_one] at y0
        have HD := Lib.hid (HA.out.trans (all_drop (p := P) hxk))
        have i1 : (j : Int) < (cons.length : Int) := by omega
        have HG := Lib.hid (hF x)
        clear hcell hxk HA hF hA hB hC hD
        generalize P x = g at HD HG
        cases g with
        | true =>
          go_wp2_with fail
          refine (HG.out _).mono ?_
          rintro e w1 ⟨rfl, rfl⟩
          go_wp2_with fail
          exact ⟨⟨j + 1, by omega, by go_num, by rw [HD.out, Bool.true_and], HX1.out⟩, by simp [Go.RowKit.intOf]; omega⟩
        | false =>
          go_wp2_with fail
          refine (HG.out _).mono ?_
          rintro e w1 ⟨rfl, rfl⟩
          go_wp2_with fail
          go_ret
          rw [HD.out, Bool.false_and]
          exact ⟨rfl, HX.out⟩
      · obtain rfl : j = cons.length := by omega
        have HD := Lib.hid (show cons.all P = true by rw [HA.out, List.drop_length]; rfl)
        clear HA HC HX1 hF
        cases A with
        | false =>
          go_wp2_with fail
          refine (hA _).mono ?_; rintro e w2 ⟨rfl, rfl⟩
          go_wp2_with fail
          go_ret
          exact ⟨by rw [HD.out]; rfl, HX.out⟩
        | true =>
          cases B with
          | false =>
            go_wp2_with fail
            refine (hA _).mono ?_; rintro e w2 ⟨rfl, rfl⟩
            go_wp2_with fail
            refine (hB _).mono ?_; rintro e w2 ⟨rfl, rfl⟩
            go_wp2_with fail
            go_ret
            exact ⟨by rw [HD.out]; rfl, HX.out⟩
          | true =>
            cases C with
            | false =>
              go_wp2_with fail
              refine (hA _).mono ?_; rintro e w2 ⟨rfl, rfl⟩
              go_wp2_with fail
              refine (hB _).mono ?_; rintro e w2 ⟨rfl, rfl⟩
              go_wp2_with fail
              refine (hC _).mono ?_; rintro e w2 ⟨rfl, rfl⟩
              go_wp2_with fail
              go_ret
              exact ⟨by rw [HD.out]; rfl, HX.out⟩
            | true =>
              go_wp2_with fail
              refine (hA _).mono ?_; rintro e w2 ⟨rfl, rfl⟩
              go_wp2_with fail
              refine (hB _).mono ?_; rintro e w2 ⟨rfl, rfl⟩
              go_wp2_with fail
              refine (hC _).mono ?_; rintro e w2 ⟨rfl, rfl⟩
              go_wp2_with fail
              refine (hD _).mono ?_; rintro e w2 ⟨rfl, rfl⟩
              go_wp2_with fail
              go_ret
              exact ⟨by rw [HD.out]; rfl, HX.out⟩
  have hB := fun W => betw_is fa 0 0 W
  have hC := fun W => betw_is fb 0 0 W
  have hD := fun W => betw_is cons.length 0 0 W
  have hgf : goodFo ⟨kd, fa, fb, cons⟩ n = (cons.all P && inB kd 1 7 && inB fa 0 0 && inB fb 0 0 && inB cons.length 0 0) := by
    rw [hP]
    unfold goodFo
    simp only [h5, h6, h7, if_false, or_self]
  have t5 : (kd == 5) = false := beq_false_of_ne h5
  have t6 : (kd == 6) = false := beq_false_of_ne h6
  have t7 : (kd == 7) = false := beq_false_of_ne h7
  generalize inB kd 1 7 = A at hA hgf
  generalize inB fa 0 0 = B at hB hgf
  generalize inB fb 0 0 = C at hC hgf
  generalize inB cons.length 0 0 = D at hD hgf
  clear hP h5 h6 h7
  rw [hgf]
  clear hgf
  go_enter Tryz.func68, Tryz.ntmps68
  go_upto_region 2 with fail
  refine wp_alloc1 fun W hE hS b0 => ?_
  have f0 : W.cell? ⟨w.heap.size, 0, none⟩ = some (.int .i64 _) := cell_at b0 rfl
  have f1 : W.cell? ⟨w.heap.size, 1, none⟩ = some (.int .i64 fa) := cell_at b0 rfl
  have f2 : W.cell? ⟨w.heap.size, 2, none⟩ = some (.int .i64 fb) := cell_at b0 rfl
  have f3 : W.cell? ⟨w.heap.size, 3, none⟩ = some (.slice q cons.length c) := cell_at b0 rfl
  have HE := Lib.hid hE
  clear hE hS b0
  go_upto_block 10 with fail
  go_loopw [28] (fun i wr => ∃ j : Nat, j ≤ cons.length ∧ i = .int .i64 j ∧ cons.all P = (cons.drop j).all P ∧ Ext W wr) (fun i _ => cons.length - (Go.RowKit.intOf i).toNat)
  case atStart => exact ⟨0, by omega, rfl, rfl, Ext.refl _⟩
  case round =>
    obtain ⟨j, hj, rfl, ha, hx⟩ := hrel
    have HA := Lib.hid ha
    replace f0 := hx.cell f0; replace f1 := hx.cell f1; replace f2 := hx.cell f2; replace f3 := hx.cell f3
    have HX := Lib.hid (HE.out.trans hx)
    have HX1 := Lib.hid hx
    clear ha hx HE
    by_cases hlt : j < cons.length
    · have hxk := List.getElem?_eq_getElem hlt
      generalize cons[j] = x at hxk
      obtain ⟨b, off, rfl, hcell⟩ := HC.out j (ncC x) (by rw [List.getElem?_map, hxk]; rfl)
      have y0 := HX.out.cell (hcell 0 _ rfl)
      rw [Nat.add_zero, Nat.mul_one] at y0
      have HD := Lib.hid (HA.out.trans (all_drop (p := P) hxk))
      have i1 : (j : Int) < (cons.length : Int) := by omega
      have HG := Lib.hid (hF x)
      clear hcell hxk HA hF hA hB hC hD
      generalize P x = g at HD HG
      cases g with
      | true =>
        go_wp2_with fail
        refine (HG.out _).mono ?_
        rintro e w1 ⟨rfl, rfl⟩
        go_wp2_with fail
        exact ⟨⟨j + 1, by omega, by go_num, by rw [HD.out, Bool.true_and], HX1.out⟩, by simp [Go.RowKit.intOf]; omega⟩
      | false =>
        go_wp2_with fail
        refine (HG.out _).mono ?_
        rintro e w1 ⟨rfl, rfl⟩
        go_wp2_with fail
        go_ret
        rw [HD.out, Bool.false_and]
        exact ⟨rfl, HX.out⟩
    · obtain rfl : j = cons.length := by omega
      have HD := Lib.hid (show cons.all P = true by rw [HA.out, List.drop_length]; rfl)
      clear HA HC HX1 hF
      cases A with
      | false =>
        go_wp2_with fail
        refine (hA _).mono ?_; rintro e w2 ⟨rfl, rfl⟩
        go_wp2_with fail
        go_ret
        exact ⟨by rw [HD.out]; rfl, HX.out⟩
      | true =>
        cases B with
        | false =>
          go_wp2_with fail
          refine (hA _).mono ?_; rintro e w2 ⟨rfl, rfl⟩
          go_wp2_with fail
          refine (hB _).mono ?_; rintro e w2 ⟨rfl, rfl⟩
          go_wp2_with fail
          go_ret
          exact ⟨by rw [HD.out]; rfl, HX.out⟩
        | true =>
          cases C with
          | false =>
            go_wp2_with fail
            refine (hA _).mono ?_; rintro e w2 ⟨rfl, rfl⟩
            go_wp2_with fail
            refine (hB _).mono ?_; rintro e w2 ⟨rfl, rfl⟩
            go_wp2_with fail
            refine (hC _).mono ?_; rintro e w2 ⟨rfl, rfl⟩
            go_wp2_with fail
            go_ret
            exact ⟨by rw [HD.out]; rfl, HX.out⟩
          | true =>
            go_wp2_with fail
            refine (hA _).mono ?_; rintro e w2 ⟨rfl, rfl⟩
            go_wp2_with fail
            refine (hB _).mono ?_; rintro e w2 ⟨rfl, rfl⟩
            go_wp2_with fail
            refine (hC _).mono ?_; rintro e w2 ⟨rfl, rfl⟩
            go_wp2_with fail
            refine (hD _).mono ?_; rintro e w2 ⟨rfl, rfl⟩
            go_wp2_with fail
            go_ret
            exact ⟨by rw [HD.out]; rfl, HX.out⟩
end Go.Proofs.YtppkgfcobnknfaaGreatDoor
