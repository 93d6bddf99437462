/- Proved here: the contracts and laws of GcV, BackP, GcRP, GcRQ, GcRA, GcRB of this claim, each beneath its own remark; conditions: those that each theorem names. -/
import Derived.Test.YtinakendlpomnaaM7
import Derived.Test.YtinakendlpomnaaM6
import Derived.Test.YtinakendlpomnaaM9
import Derived.Test.YtinakendlpomnaaM3
import Derived.Deep.CutBlock
import Derived.IntWalk
/- Three collections are one; the live words, the roots. Plain. -/
namespace Go.Proofs.Ytinakendlpomnaa
open Go.RowKit Go.Maps Arena
set_option maxRecDepth 100000
theorem phi_sizes (f : Int → Int) (Fin : List (Nat × Ob)) (G : List (Nat × Ob)) : sizeF (G.map (phi f Fin)) = sizeF G := by
  induction G with
  | nil => rfl
  | cons y G ih =>
    simp only [List.map_cons, sizeF]
    rw [ih]
    unfold phi
    rw [mapO_words]
theorem newHs_size (o0 o1 : Nat) (F : List (Nat × Ob)) : sizeF (newHs o0 o1 F) = sizeF F := phi_sizes _ _ _
section
variable {o0 o1 H : Nat} {Hs F : List (Nat × Ob)}
/-- behind a collection a collection may be, and leans on the same -/
theorem Gc.next (g : Gc o0 o1 H Hs F) : Gc o1 o0 H (newHs o0 o1 F) (newHs o0 o1 F) := by
  have hpl : ∀ y ∈ F, offF F y.1 + wordsO y.2 ≤ sizeF F := fun y hy => by
    obtain ⟨i, hi, rfl⟩ := List.getElem_of_mem hy
    rw [offF_at g.fin (List.getElem?_eq_getElem hi)]
    have e5 : sizeF F = sizeF (F.take i) + sizeF (F.drop i) := by rw [← sizeF_app, List.take_append_drop]
    rw [List.drop_eq_getElem_cons hi] at e5
    simp only [sizeF] at e5
    omega
  have hap : (newHs o0 o1 F).Pairwise fun a b => a.1 + wordsO a.2 ≤ b.1 := by
    refine List.pairwise_iff_getElem.2 fun i j hi hj hij => ?_
    have e : ∀ i (hi : i < F.length) (hi' : i < (newHs o0 o1 F).length), (newHs o0 o1 F)[i] = phi (newW o0 o1 F) F F[i] := fun i hi hi' => List.getElem_map ..
    have hi2 := hi
    have hj2 := hj
    rw [newHs_len] at hi2 hj2
    rw [e i hi2, e j hj2]
    have hi := hi2
    have hj := hj2
    show offF F (F[i]).1 + wordsO (mapO _ (F[i]).2) ≤ offF F (F[j]).1
    rw [mapO_words, offF_at g.fin (List.getElem?_eq_getElem hi), offF_at g.fin (List.getElem?_eq_getElem hj)]
    have e5 : sizeF (F.take j) = sizeF (F.take (i + 1)) + sizeF ((F.take j).drop (i + 1)) := by
      rw [← sizeF_app]
      congr 1
      conv => lhs; rw [← List.take_append_drop (i + 1) (F.take j)]
      rw [List.take_take, Nat.min_eq_left (by omega)]
    rw [List.take_succ_eq_append_getElem hi, sizeF_app] at e5
    simp only [sizeF] at e5
    omega
  have hsz := g.size
  have hfix : ∀ y ∈ F, ∀ x ∈ y.2.fields, W64 x ∧ fieldOK (Hs.map (·.1)) o0 x = true ∧ ClosedAt o0 Hs F x := fun y hy x hx => ⟨(g.ok y (g.fin.sub y hy) x hx).1, (g.ok y (g.fin.sub y hy) x hx).2, g.cl y hy x hx⟩
  refine ⟨⟨hap, fun z hz => ?_, fun z hz => ?_, by rw [newHs_size]; exact hsz⟩, ⟨fun y hy => hy, hap.imp fun {a b} h => by have := wordsO_pos a.2; omega⟩, fun z hz v hv u hu => ?_, fun z hz v hv => ?_, g.small.2, g.small.1⟩
  · obtain ⟨y, hy, rfl⟩ := List.mem_map.1 hz
    have := hpl y hy
    unfold phi
    rw [mapO_words]
    dsimp only
    omega
  · obtain ⟨y, hy, rfl⟩ := List.mem_map.1 hz
    unfold phi
    rw [mapO_may]
    exact g.hs.may y (g.fin.sub y hy)
  · exact inF_true.2 ⟨u, (getL_some hu).1, rfl⟩
  · obtain ⟨y, hy, rfl⟩ := List.mem_map.1 hz
    obtain ⟨x, hx, rfl⟩ := List.mem_map.1 hv
    obtain ⟨h1, h2, h3⟩ := hfix y hy x hx
    refine ⟨(g.newInt h1 h2 h3).2, ?_⟩
    rcases ok_cases h2 h1 with hi | ⟨u, hu⟩
    · rw [newW_int hi]; unfold fieldOK; rw [hi]; rfl
    · have huF := g.mem hu h3
      obtain ⟨e1, e2, e3⟩ := g.new_of hu huF
      have e4 := offF_lt huF
      have := g.small
      unfold fieldOK
      rw [e1]
      simp only [Bool.or_eq_true, Bool.and_eq_true, decide_eq_true_eq, List.any_eq_true]
      exact .inr ⟨by omega, offF F u.1, List.mem_map.2 ⟨_, List.mem_map.2 ⟨u, huF, rfl⟩, rfl⟩, by omega⟩
/-- a good word, of what is moved -/
def Wd (o0 : Nat) (Hs F : List (Nat × Ob)) (x : Int) : Prop := W64 x ∧ fieldOK (Hs.map (·.1)) o0 x = true ∧ ClosedAt o0 Hs F x
theorem Gc.wd (g : Gc o0 o1 H Hs F) {x : Int} (h : Wd o0 Hs F x) : Wd o1 (newHs o0 o1 F) (newHs o0 o1 F) (newW o0 o1 F x) := by
  obtain ⟨h1, h2, h3⟩ := h
  refine ⟨(g.newInt h1 h2 h3).2, ?_, fun u hu => inF_true.2 ⟨u, (getL_some hu).1, rfl⟩⟩
  rcases ok_cases h2 h1 with hi | ⟨u, hu⟩
  · rw [newW_int hi]; unfold fieldOK; rw [hi]; rfl
  · have huF := g.mem hu h3
    obtain ⟨e1, e2, e3⟩ := g.new_of hu huF
    have e4 := offF_lt huF
    have := g.small
    have := g.size
    unfold fieldOK
    rw [e1]
    simp only [Bool.or_eq_true, Bool.and_eq_true, decide_eq_true_eq, List.any_eq_true]
    exact .inr ⟨by omega, offF F u.1, List.mem_map.2 ⟨_, List.mem_map.2 ⟨u, huF, rfl⟩, rfl⟩, by omega⟩
/-- where an object stands behind two collections, there it stands -/
theorem off_new (g : Gc o0 o1 H Hs F) {y : Nat × Ob} (hy : y ∈ F) : offF (newHs o0 o1 F) (offF F y.1) = offF F y.1 := by
  obtain ⟨i, hi, rfl⟩ := List.getElem_of_mem hy
  have h1 := offF_at g.next.fin (i := i) (y := phi (newW o0 o1 F) F F[i]) (by unfold newHs; rw [List.getElem?_map, List.getElem?_eq_getElem hi]; rfl)
  have h2 : (phi (newW o0 o1 F) F F[i]).1 = offF F (F[i]).1 := rfl
  rw [h2] at h1
  rw [h1, offF_at g.fin (List.getElem?_eq_getElem hi)]
  unfold newHs
  rw [← List.map_take, phi_sizes]
theorem Gc.twice (g : Gc o0 o1 H Hs F) {x : Int} (h : Wd o0 Hs F x) {y : Nat × Ob} (hg : getL o0 Hs x = some y) : newW o1 o0 (newHs o0 o1 F) (newW o0 o1 F x) = ((2 * (o0 + offF F y.1) : Nat) : Int) := by
  have hyF := g.mem hg h.2.2
  have h1 := newW_of (o1 := o0) (F := newHs o0 o1 F) (g.get_new hg hyF)
  rw [h1]
  have h2 : (phi (newW o0 o1 F) F y).1 = offF F y.1 := rfl
  rw [h2, off_new g hyF]
theorem Gc.thrice (g : Gc o0 o1 H Hs F) {x : Int} (h : Wd o0 Hs F x) : newW o0 o1 (newHs o1 o0 (newHs o0 o1 F)) (newW o1 o0 (newHs o0 o1 F) (newW o0 o1 F x)) = newW o0 o1 F x := by
  rcases ok_cases h.2.1 h.1 with hi | ⟨y, hy⟩
  · rw [newW_int hi, newW_int hi, newW_int hi]
  · have hyF := g.mem hy h.2.2
    have hw1 := g.wd h
    have hget := g.get_new hy hyF
    have h3 := g.next.twice hw1 hget
    have h4 := g.new_of hy hyF
    have h2 : (phi (newW o0 o1 F) F y).1 = offF F y.1 := rfl
    rw [h3, h2, off_new g hyF, h4.1]
/-- behind three collections the objects are what they were behind the first -/
theorem Gc.same (g : Gc o0 o1 H Hs F) : newHs o0 o1 (newHs o1 o0 (newHs o0 o1 F)) = newHs o0 o1 F := by
  have h1 : ∀ y ∈ F, phi (newW o0 o1 (newHs o1 o0 (newHs o0 o1 F))) (newHs o1 o0 (newHs o0 o1 F)) (phi (newW o1 o0 (newHs o0 o1 F)) (newHs o0 o1 F) (phi (newW o0 o1 F) F y)) = phi (newW o0 o1 F) F y := by
    intro y hy
    have hm : phi (newW o0 o1 F) F y ∈ newHs o0 o1 F := List.mem_map.2 ⟨y, hy, rfl⟩
    have e1 : offF (newHs o0 o1 F) (offF F y.1) = offF F y.1 := off_new g hy
    have e2 := off_new g.next hm
    have e3 : (phi (newW o0 o1 F) F y).1 = offF F y.1 := rfl
    rw [e3, e1] at e2
    have e4 : ∀ (a : Nat) (o : Ob) (f f' : Int → Int) (G G' : List (Nat × Ob)), phi f' G' (phi f G (a, o)) = (offF G' (offF G a), mapO f' (mapO f o)) := fun _ _ _ _ _ _ => rfl
    have e5 : phi (newW o0 o1 F) F y = (offF F y.1, mapO (newW o0 o1 F) y.2) := rfl
    rw [e5, e4, e1, e2]
    congr 1
    have hf : ∀ x ∈ y.2.fields, Wd o0 Hs F x := fun x hx => ⟨(g.ok y (g.fin.sub y hy) x hx).1, (g.ok y (g.fin.sub y hy) x hx).2, g.cl y hy x hx⟩
    unfold mapO
    congr 1
    dsimp only
    rw [List.map_map, List.map_map]
    exact List.map_congr_left fun x hx => g.thrice (hf x hx)
  conv => lhs; unfold newHs
  rw [List.map_map, show newHs o0 o1 F = F.map (phi (newW o0 o1 F) F) from rfl, List.map_map]
  exact List.map_congr_left fun y hy => h1 y hy
end
/-! ### a collection, of all -/
structure Gst where
  ws : List Int
  h : Hp
  roots : List Int
/-- a state, its objects, what is live -/
structure GOk (n : Nat) (R : List (Nat × Nat)) (s : Gst) (Hs : List (Nat × Ob)) : Prop where
  len : s.ws.length = n
  may : mayH s.ws R s.h s.roots = some Hs
  w64 : ∀ x ∈ s.ws, W64 x
  r64 : ∀ x ∈ s.roots, W64 x
def gF (s : Gst) (Hs : List (Nat × Ob)) : List (Nat × Ob) := liveF (firstN s.h) Hs s.roots
def gNext (s : Gst) (Hs : List (Nat × Ob)) : Gst := ⟨collWs s.ws s.h (gF s Hs), collH s.h (gF s Hs), s.roots.map (newW (firstN s.h) (otherN s.h) (gF s Hs))⟩
def gHs (s : Gst) (Hs : List (Nat × Ob)) : List (Nat × Ob) := newHs (firstN s.h) (otherN s.h) (gF s Hs)
section
variable {n : Nat} {R : List (Nat × Nat)} {s : Gst} {Hs : List (Nat × Ob)}
theorem GOk.all (k : GOk n R s Hs) : allH s.ws R s.h = some Hs := (mayH_some k.may).1
theorem GOk.nums (k : GOk n R s Hs) (hg : Arena.Good n R) : ∃ ba H sp, HpN s.h ba H sp n R := hpN_of hg (allH_there k.all).1
theorem GOk.gc (k : GOk n R s Hs) (hg : Arena.Good n R) {ba H sp : Nat} (N : HpN s.h ba H sp n R) : Gc (firstN s.h) (otherN s.h) H Hs (gF s Hs) := gc_of hg k.len k.w64 k.all N s.roots
theorem GOk.root (k : GOk n R s Hs) : ∀ x ∈ s.roots, Wd (firstN s.h) Hs (gF s Hs) x := fun x hx => ⟨k.r64 x hx, (mayH_some k.may).2 x hx, (live_closed _ _ _).1 x hx⟩
theorem gNext_first (s : Gst) (Hs : List (Nat × Ob)) : firstN (gNext s Hs).h = otherN s.h := rfl
theorem GOk.other (k : GOk n R s Hs) (hg : Arena.Good n R) : otherN (gNext s Hs).h = firstN s.h := by
  obtain ⟨ba, H, sp, N⟩ := k.nums hg
  unfold otherN firstN gNext collH
  dsimp only
  congr 1
  rw [show 1 - (1 - s.h.space) = s.h.space by omega]
theorem GOk.next (k : GOk n R s Hs) (hg : Arena.Good n R) : GOk n R (gNext s Hs) (gHs s Hs) := by
  obtain ⟨ba, H, sp, N⟩ := k.nums hg
  have g := k.gc hg N
  have hl := collWs_len (roots := s.roots) hg k.len k.w64 k.all
  have ha := coll_all (roots := s.roots) hg k.len k.w64 k.all
  refine ⟨hl.1, ?_, hl.2, fun x hx => ?_⟩
  · unfold mayH
    have : allH (gNext s Hs).ws R (gNext s Hs).h = some (gHs s Hs) := ha
    rw [this]
    simp only
    rw [if_pos]
    refine List.all_eq_true.2 fun x hx => ?_
    obtain ⟨v, hv, rfl⟩ := List.mem_map.1 hx
    exact (g.wd (k.root v hv)).2.1
  · obtain ⟨v, hv, rfl⟩ := List.mem_map.1 hx
    exact (g.wd (k.root v hv)).1
/-- behind a collection all is live -/
theorem GOk.live (k : GOk n R s Hs) (hg : Arena.Good n R) : gF (gNext s Hs) (gHs s Hs) = gHs s Hs := by
  obtain ⟨ba, H, sp, N⟩ := k.nums hg
  exact live_new (k.gc hg N) fun x hx => ⟨k.r64 x hx, (mayH_some k.may).2 x hx⟩
theorem GOk.top (k : GOk n R s Hs) (hg : Arena.Good n R) : sizeF (gF (gNext s Hs) (gHs s Hs)) = sizeF (gF s Hs) := by rw [k.live hg]; exact newHs_size _ _ _
theorem regW_regW {ws V V' : List Int} {ba : Nat} (h : ba + V.length ≤ ws.length) (h' : V'.length = V.length) : regW (regW ws ba V) ba V' = regW ws ba V' := by
  unfold regW
  rw [List.take_append_of_le_length (by rw [List.length_take]; omega), List.take_take, Nat.min_self, h']
  congr 2
  rw [← List.append_assoc, List.drop_append_of_le_length (by rw [List.length_append, List.length_take]; omega), List.drop_of_length_le (by rw [List.length_append, List.length_take]; omega), List.nil_append]
/-- three collections come to what one comes to -/
theorem GOk.three (k : GOk n R s Hs) (hg : Arena.Good n R) : gNext (gNext (gNext s Hs) (gHs s Hs)) (gHs (gNext s Hs) (gHs s Hs)) = gNext s Hs ∧ gHs (gNext (gNext s Hs) (gHs s Hs)) (gHs (gNext s Hs) (gHs s Hs)) = gHs s Hs := by
  obtain ⟨ba, H, sp, N⟩ := k.nums hg
  have g := k.gc hg N
  have k1 := k.next hg
  have k2 := k1.next hg
  have l1 := k.live hg
  have l2 := k1.live hg
  have o1 := k.other hg
  have o2 := k1.other hg
  have f1 := gNext_first s Hs
  have f2 := gNext_first (gNext s Hs) (gHs s Hs)
  have eH1 : gHs s Hs = newHs (firstN s.h) (otherN s.h) (gF s Hs) := rfl
  have eH2 : gHs (gNext s Hs) (gHs s Hs) = newHs (otherN s.h) (firstN s.h) (gHs s Hs) := by
    unfold gHs at l1 ⊢
    rw [f1, o1, l1]
  have e3 : gHs (gNext (gNext s Hs) (gHs s Hs)) (gHs (gNext s Hs) (gHs s Hs)) = gHs s Hs := by
    have : gHs (gNext (gNext s Hs) (gHs s Hs)) (gHs (gNext s Hs) (gHs s Hs)) = newHs (firstN s.h) (otherN s.h) (gHs (gNext s Hs) (gHs s Hs)) := by
      conv => lhs; unfold gHs
      rw [show newHs (firstN (gNext s Hs).h) (otherN (gNext s Hs).h) (gF (gNext s Hs) (newHs (firstN s.h) (otherN s.h) (gF s Hs))) = gHs (gNext s Hs) (gHs s Hs) from rfl]
      rw [show newHs (firstN s.h) (otherN s.h) (gF s Hs) = gHs s Hs from rfl]
      rw [f2, o2, f1, o1, l2]
    rw [this, eH2, eH1]
    exact g.same
  refine ⟨?_, e3⟩
  have hsz1 : sizeF (gHs s Hs) = sizeF (gF s Hs) := newHs_size _ _ _
  have hsz2 : sizeF (gHs (gNext s Hs) (gHs s Hs)) = sizeF (gF s Hs) := by rw [eH2, newHs_size, hsz1]
  -- the heaps
  have hh : (gNext (gNext (gNext s Hs) (gHs s Hs)) (gHs (gNext s Hs) (gHs s Hs))).h = (gNext s Hs).h := by
    show (⟨s.h.base, s.h.half, 1 - (1 - (1 - s.h.space)), ((sizeF (gF (gNext (gNext s Hs) (gHs s Hs)) (gHs (gNext s Hs) (gHs s Hs))) : Nat) : Int)⟩ : Hp) = ⟨s.h.base, s.h.half, 1 - s.h.space, ((sizeF (gF s Hs) : Nat) : Int)⟩
    rw [l2, hsz2, show 1 - (1 - (1 - s.h.space)) = 1 - s.h.space by omega]
  have hroots : (gNext (gNext (gNext s Hs) (gHs s Hs)) (gHs (gNext s Hs) (gHs s Hs))).roots = (gNext s Hs).roots := by
    show ((s.roots.map _).map _).map _ = s.roots.map _
    rw [l2, l1, f2, o2, f1, o1, List.map_map, List.map_map, eH2, eH1]
    exact List.map_congr_left fun x hx => g.thrice (k.root x hx)
  have hws : (gNext (gNext (gNext s Hs) (gHs s Hs)) (gHs (gNext s Hs) (gHs s Hs))).ws = (gNext s Hs).ws := by
    have hV : ∀ (s : Gst) (Hs : List (Nat × Ob)) (_ : GOk n R s Hs), (collV s.h (gF s Hs)).length = lenAt R s.h.base ∧ s.h.base.toNat + lenAt R s.h.base ≤ n := by
      intro s Hs k
      obtain ⟨ba, H, sp, N⟩ := k.nums hg
      have g := k.gc hg N
      have := gcB_len g (newW (sp * H) ((1 - sp) * H) (gF s Hs))
      rw [N.coll, mkV_len (H := H) (by simp) this, N.base, N.reg.l, Int.toNat_natCast]
      exact ⟨rfl, N.reg.fit⟩
    have v0 := hV s Hs k
    have v1 := hV _ _ k1
    have v2 := hV _ _ k2
    have b1 : (gNext s Hs).h.base = s.h.base := rfl
    have b2 : (gNext (gNext s Hs) (gHs s Hs)).h.base = s.h.base := rfl
    rw [b1] at v1
    rw [b2] at v2
    show regW (regW (regW s.ws s.h.base.toNat (collV s.h (gF s Hs))) s.h.base.toNat (collV (gNext s Hs).h (gF (gNext s Hs) (gHs s Hs)))) s.h.base.toNat (collV (gNext (gNext s Hs) (gHs s Hs)).h (gF (gNext (gNext s Hs) (gHs s Hs)) (gHs (gNext s Hs) (gHs s Hs)))) = regW s.ws s.h.base.toNat (collV s.h (gF s Hs))
    have kl := k.len
    rw [regW_regW (ws := s.ws) (by rw [v0.1]; omega) (by rw [v1.1, v0.1]), regW_regW (ws := s.ws) (by rw [v1.1]; omega) (by rw [v2.1, v1.1])]
    congr 1
    rw [l2]
    unfold collV
    rw [f2, o2, f1, o1]
    have es : (gNext (gNext s Hs) (gHs s Hs)).h.space = s.h.space := by
      show 1 - (1 - s.h.space) = s.h.space
      omega
    have eh : (gNext (gNext s Hs) (gHs s Hs)).h.half = s.h.half := rfl
    rw [es, eh]
    congr 1
    unfold gcB
    rw [hsz2]
    congr 2
    -- the objects
    have e4 := e3
    have : gHs (gNext (gNext s Hs) (gHs s Hs)) (gHs (gNext s Hs) (gHs s Hs)) = newHs (firstN s.h) (otherN s.h) (gHs (gNext s Hs) (gHs s Hs)) := by
      conv => lhs; unfold gHs
      rw [show newHs (firstN (gNext s Hs).h) (otherN (gNext s Hs).h) (gF (gNext s Hs) (newHs (firstN s.h) (otherN s.h) (gF s Hs))) = gHs (gNext s Hs) (gHs s Hs) from rfl]
      rw [show newHs (firstN s.h) (otherN s.h) (gF s Hs) = gHs s Hs from rfl]
      rw [f2, o2, f1, o1, l2]
    rw [this, eH1] at e4
    have e5 := congrArg (fun L : List (Nat × Ob) => L.map (·.2)) e4
    unfold newHs at e5
    simp only [List.map_map] at e5
    rw [eH1]
    unfold newHs
    exact e5
  cases hA : gNext (gNext (gNext s Hs) (gHs s Hs)) (gHs (gNext s Hs) (gHs s Hs)) with
  | mk a b c =>
    rw [hA] at hh hroots hws
    dsimp only at hh hroots hws
    rw [hh, hroots, hws]
end
end Go.Proofs.Ytinakendlpomnaa
/- What ObjectBack's heap holds: plain. -/
namespace Go.Proofs.Ytinakendlpomnaa
open Go.RowKit Go.Maps Arena
set_option maxRecDepth 100000
/-- the objects' words -/
def wdL (Hs : List (Nat × Ob)) : List Int := Hs.map fun y => ((2 * y.1 : Nat) : Int)
theorem wdL_len (Hs : List (Nat × Ob)) : (wdL Hs).length = Hs.length := by unfold wdL; simp
theorem wdL_at {Hs : List (Nat × Ob)} {k : Nat} (h : k < Hs.length) : (wdL Hs)[k]? = some ((2 * (Hs[k]).1 : Nat) : Int) := by unfold wdL; rw [List.getElem?_map, List.getElem?_eq_getElem h]; rfl
def heapB (n top : Int) : Hp := ⟨3, n, 0, top⟩
theorem heapB_first (n top : Int) : firstN (heapB n top) = 0 := by unfold firstN heapB; simp
theorem heapB_top {n top : Int} (_h : 0 ≤ top) : topN (heapB n top) = top.toNat := by unfold topN; rw [heapB_first]; simp [heapB]
/-- the objects, and what a heap's numbers are -/
structure Held (ws : List Int) (m : Nat) (n top : Int) (Hs : List (Nat × Ob)) : Prop where
  len : ws.length = m + 10
  all : allH ws (rigR m) (heapB n top) = some Hs
  w64 : ∀ x ∈ ws, W64 x
  big : m ≤ 400
theorem rig_good {m : Nat} (h : 1 ≤ m) : Arena.Good (m + 10) (rigR m) := by
  unfold Arena.Good rigR
  refine ⟨by simp, fun r hr => ?_⟩
  simp only [List.mem_cons, List.not_mem_nil, or_false] at hr
  rcases hr with rfl | rfl <;> dsimp only <;> omega
section
variable {ws : List Int} {m : Nat} {n top : Int} {Hs : List (Nat × Ob)}
theorem Held.ok (h : Held ws m n top Hs) : hpOK (heapB n top) ∧ (m : Int) = 2 * n := by
  obtain ⟨ht, _⟩ := allH_there h.all
  obtain ⟨h1, h2⟩ := thereB_ok ht
  refine ⟨h1, ?_⟩
  rw [show (heapB n top).base = 3 from rfl, rig_len] at h2
  exact h2
theorem Held.nums (h : Held ws m n top Hs) : 8 ≤ n ∧ n ≤ 200 ∧ 0 ≤ top ∧ top ≤ n ∧ (m : Int) = 2 * n := by
  obtain ⟨⟨a1, a2, a3, a4, a5, a6⟩, h2⟩ := h.ok
  have := h.big
  unfold heapB at a1 a2 a5 a6
  dsimp only at a1 a2 a5 a6
  omega
theorem Held.good (h : Held ws m n top Hs) : Arena.Good (m + 10) (rigR m) := rig_good (by have := h.nums; omega)
theorem Held.places (h : Held ws m n top Hs) : Hs.Pairwise (fun x y => x.1 < y.1) := objs_places (allS_some (allH_there h.all).2).1
theorem Held.fit (h : Held ws m n top Hs) : ∀ y ∈ Hs, y.1 + wordsO y.2 ≤ 200 ∧ mayO y.2 = true := by
  intro y hy
  obtain ⟨ht, hS⟩ := allH_there h.all
  obtain ⟨ho, _⟩ := allS_some hS
  have h1 := objs_ge ho y hy
  have h2 := (objs_fields ho y hy).1
  rw [semi_len h.good h.len ht] at h1
  have := h.nums
  have h3 : (heapB n top).top.toNat = top.toNat := rfl
  exact ⟨by omega, h2⟩
theorem Held.f64 (h : Held ws m n top Hs) : ∀ y ∈ Hs, ∀ x ∈ y.2.fields, W64 x := by
  intro y hy x hx
  obtain ⟨ht, hS⟩ := allH_there h.all
  obtain ⟨ho, _⟩ := allS_some hS
  exact h.w64 x (semi_mem ((objs_fields ho y hy).2 x hx))
theorem getL_place (hp : Hs.Pairwise (fun x y => x.1 < y.1)) {y : Nat × Ob} (hy : y ∈ Hs) (hb : y.1 ≤ 100000) : getL 0 Hs ((2 * y.1 : Nat) : Int) = some y := by
  unfold getL
  have hi : isIntW ((2 * y.1 : Nat) : Int) = false := decide_eq_false (by omega)
  rw [if_neg (by rw [hi]; intro h; rcases h with h | h; cases h; omega)]
  have he : ((2 * y.1 : Nat) : Int) / 2 = (y.1 : Int) := by omega
  rw [he]
  cases hf : Hs.find? (fun z => decide (((0 + z.1 : Nat) : Int) = (y.1 : Int))) with
  | none =>
    have := List.find?_eq_none.1 hf y hy
    simp at this
  | some z =>
    have h1 := List.mem_of_find?_eq_some hf
    have h2 := List.find?_some hf
    have h3 : z.1 = y.1 := by have h4 : ((0 + z.1 : Nat) : Int) = (y.1 : Int) := of_decide_eq_true h2; omega
    rw [places_inj hp hy h1 h3]
theorem Held.get (h : Held ws m n top Hs) {y : Nat × Ob} (hy : y ∈ Hs) : getH ws (rigR m) (heapB n top) ((2 * y.1 : Nat) : Int) = some y := by
  unfold getH
  rw [h.all, heapB_first]
  exact getL_place h.places hy (by have := (h.fit y hy).1; omega)
/-- may a word be a field here: a number's, or an object's -/
def fldB (Hs : List (Nat × Ob)) (x : Int) : Prop := isIntW x = true ∨ x ∈ wdL Hs
theorem fld_ok (hb : ∀ y ∈ Hs, y.1 ≤ 100000) {x : Int} (h : fldB Hs x) : fieldOK (Hs.map (·.1)) 0 x = true := by
  unfold fieldOK
  rcases h with h | h
  · rw [h]; rfl
  · unfold wdL at h
    obtain ⟨y, hy, rfl⟩ := List.mem_map.1 h
    have := hb y hy
    simp only [Bool.or_eq_true, Bool.and_eq_true, List.any_eq_true, decide_eq_true_eq]
    refine .inr ⟨by omega, y.1, List.mem_map.2 ⟨y, hy, rfl⟩, by omega⟩
theorem Held.putB (h : Held ws m n top Hs) {o : Ob} (hf : ∀ x ∈ o.fields, fldB Hs x) : putB ws (rigR m) (heapB n top) o = (mayO o && decide (top + (wordsO o : Nat) ≤ n)) := by
  rw [putB_some h.all, heapB_first]
  have : o.fields.all (fieldOK (Hs.map (·.1)) 0) = true := List.all_eq_true.2 fun x hx => fld_ok (fun y hy => by have := (h.fit y hy).1; omega) (hf x hx)
  rw [this, Bool.and_true]
  rfl
theorem Held.put (h : Held ws m n top Hs) {o : Ob} (hf : ∀ x ∈ o.fields, fldB Hs x) (h64 : ∀ x ∈ o.fields, W64 x) (hm : mayO o = true) (hfit : top + (wordsO o : Nat) ≤ n) :
    Held (putWs ws (rigR m) (heapB n top) o) m n (top + (wordsO o : Nat)) (Hs ++ [(top.toNat, o)]) := by
  have hb : Go.Proofs.Ytinakendlpomnaa.putB ws (rigR m) (heapB n top) o = true := by rw [h.putB hf, hm, decide_eq_true hfit]; rfl
  exact ⟨by unfold putWs; rw [setRun_len]; exact h.len, allH_put h.good h.len h.all hb, putWs_64 hb h.w64 h64, h.big⟩
theorem wdL_put (Hs : List (Nat × Ob)) (t : Nat) (o : Ob) : wdL (Hs ++ [(t, o)]) = wdL Hs ++ [((2 * t : Nat) : Int)] := by unfold wdL; simp
theorem wdL_upd (a i : Nat) (v : Int) (Hs : List (Nat × Ob)) : wdL (Hs.map (updF a i v)) = wdL Hs := by
  unfold wdL
  rw [List.map_map]
  exact List.map_congr_left fun y _ => by simp only [Function.comp_apply, updF_fst]
/-- one object's field is set, and no other's -/
theorem upd_set (hp : Hs.Pairwise (fun x y => x.1 < y.1)) {k : Nat} (hk : k < Hs.length) (i : Nat) (v : Int) : Hs.map (updF (Hs[k]).1 i v) = Hs.set k ((Hs[k]).1, { (Hs[k]).2 with fields := (Hs[k]).2.fields.set i v }) := by
  apply List.ext_getElem?
  intro j
  rw [List.getElem?_map]
  by_cases hj : j < Hs.length
  · rw [List.getElem?_eq_getElem hj]
    by_cases hjk : k = j
    · subst hjk
      rw [List.getElem?_set_self hj]
      simp only [Option.map_some, updF, if_true]
    · rw [List.getElem?_set_ne hjk, List.getElem?_eq_getElem hj]
      simp only [Option.map_some]
      unfold updF
      rw [if_neg]
      intro e
      rcases Nat.lt_or_gt_of_ne hjk with h | h
      · have := List.pairwise_iff_getElem.1 hp k j hk hj h; omega
      · have := List.pairwise_iff_getElem.1 hp j k hj hk h; omega
  · rw [List.getElem?_eq_none (by omega), List.getElem?_eq_none (by rw [List.length_set]; omega)]
    rfl
theorem Held.set_yes (h : Held ws m n top Hs) {k : Nat} (hk : k < Hs.length) {i v : Int} (hi : 0 ≤ i) (hi2 : i < ((Hs[k]).2.fields.length : Int)) (hv : v ∈ wdL Hs) (hv64 : W64 v) :
    (setAt ws (rigR m) (heapB n top) ((2 * (Hs[k]).1 : Nat) : Int) i v).isSome = true ∧ Held (wsOf ws (rigR m) 3 (setAt ws (rigR m) (heapB n top) ((2 * (Hs[k]).1 : Nat) : Int) i v) v) m n top (Hs.set k ((Hs[k]).1, { (Hs[k]).2 with fields := (Hs[k]).2.fields.set i.toNat v })) := by
  have hy := List.getElem_mem hk
  have hfit := fun y hy => (h.fit y hy).1
  have hg : getL (firstN (heapB n top)) Hs ((2 * (Hs[k]).1 : Nat) : Int) = some Hs[k] := by rw [heapB_first]; exact getL_place h.places hy (by have := hfit _ hy; omega)
  have hok : fieldOK (Hs.map (·.1)) (firstN (heapB n top)) v = true := by rw [heapB_first]; exact fld_ok (fun y hy => by have := hfit y hy; omega) (.inr hv)
  obtain ⟨h1, h2⟩ := allH_set h.good h.len h.all hg hi hi2 hok
  refine ⟨by rw [h1]; rfl, ?_, ?_, ?_, h.big⟩
  · unfold wsOf
    split
    · exact h.len
    · rw [setWs_len]; exact h.len
  · rw [← upd_set h.places hk]
    exact h2
  · exact wsOf_64 h.w64 hv64
theorem Held.set_no (h : Held ws m n top Hs) {k : Nat} (hk : k < Hs.length) {i v : Int} (hi : ((Hs[k]).2.fields.length : Int) ≤ i) : setAt ws (rigR m) (heapB n top) ((2 * (Hs[k]).1 : Nat) : Int) i v = none := by
  unfold setAt
  rw [h.all]
  simp only
  rw [heapB_first, getL_place h.places (List.getElem_mem hk) (by have := (h.fit _ (List.getElem_mem hk)).1; omega)]
  simp only
  rw [if_neg (by omega)]
theorem wdL_64 (h : Held ws m n top Hs) : ∀ x ∈ wdL Hs, W64 x := by
  intro x hx
  unfold wdL at hx
  obtain ⟨y, hy, rfl⟩ := List.mem_map.1 hx
  have := (h.fit y hy).1
  unfold W64
  omega
end
theorem held_start {n : Int} (h1 : 8 ≤ n) (h2 : n ≤ 160) {m : Nat} (hm : (m : Int) = 2 * n) : Held (rigW (List.replicate m 0) m) m n 0 [] := by
  refine ⟨by rw [rigW_len _ _ (by simp)]; simp, ?_, rigW_mem (by intro x hx; rw [(List.mem_replicate.1 hx).2]; exact w64_zero) _, by omega⟩
  have ht : thereB (rigR m) (heapB n 0) = true := by
    unfold thereB
    rw [show (heapB n 0).base = 3 from rfl, rig_len]
    simp only [Bool.and_eq_true, decide_eq_true_eq]
    exact ⟨⟨h1, by show n ≤ 2000; omega, by show (0 : Int) ≤ 0; omega, by show (0 : Int) ≤ 1; omega, by show (0 : Int) ≤ 0; omega, by show (0 : Int) ≤ n; omega⟩, hm⟩
  unfold allH
  rw [if_pos ht]
  have hs : semi (rigW (List.replicate m 0) m) (rigR m) (heapB n 0) = [] := by unfold semi; rw [show (heapB n 0).top.toNat = 0 from rfl, List.take_zero]
  rw [hs]
  unfold allS
  rw [objs_nil]
  rfl
end Go.Proofs.Ytinakendlpomnaa
/- A ring of objects: what is live of it. Plain. -/
namespace Go.Proofs.Ytinakendlpomnaa
open Go.RowKit Go.Maps Arena
set_option maxRecDepth 100000
def ringO (k i : Nat) : Ob := ⟨1, (i : Int), [((2 * (3 * ((i + 1) % k)) : Nat) : Int), ((2 * i + 1 : Nat) : Int)], ByteArray.empty⟩
def ringHs (k : Nat) : List (Nat × Ob) := (List.range k).map fun i => (3 * i, ringO k i)
def ringF (k s : Nat) : List (Nat × Ob) := (List.range k).map fun j => (3 * ((s + j) % k), ringO k ((s + j) % k))
def ringB (k s : Nat) : Bool := (liveF 0 (ringHs k) [((2 * (3 * s) : Nat) : Int)]).map (·.1) == (ringF k s).map (·.1)
theorem ring_all : ((List.range 10).all fun k => (List.range (k + 1)).all fun s => ringB (k + 1) s) = true := by decide +kernel
theorem ring_live {k s : Nat} (h1 : 1 ≤ k) (h2 : k ≤ 10) (hs : s < k) : liveF 0 (ringHs k) [((2 * (3 * s) : Nat) : Int)] = ringF k s := by
  have h := List.all_eq_true.1 ring_all (k - 1) (List.mem_range.2 (by omega))
  rw [show k - 1 + 1 = k by omega] at h
  have h3 := List.all_eq_true.1 h s (List.mem_range.2 hs)
  unfold ringB at h3
  have h4 := eq_of_beq h3
  have hF := FinF.live 0 (ringHs k) [((2 * (3 * s) : Nat) : Int)]
  generalize liveF 0 (ringHs k) [((2 * (3 * s) : Nat) : Int)] = F at h4 hF ⊢
  apply List.ext_getElem?
  intro i
  have h5 := congrArg (fun l : List Nat => l[i]?) h4
  simp only [List.getElem?_map] at h5
  cases hy : F[i]? with
  | none =>
    rw [hy] at h5
    cases hz : (ringF k s)[i]? with
    | none => rfl
    | some z => rw [hz] at h5; cases h5
  | some y =>
    rw [hy] at h5
    cases hz : (ringF k s)[i]? with
    | none => rw [hz] at h5; cases h5
    | some z =>
      rw [hz] at h5
      simp only [Option.map_some, Option.some.injEq] at h5
      obtain ⟨a, ha, rfl⟩ := List.mem_map.1 (hF.sub y (List.mem_of_getElem? hy))
      obtain ⟨b, hb, rfl⟩ := List.mem_map.1 (List.mem_of_getElem? hz)
      dsimp only at h5
      have : a = (s + b) % k := by omega
      rw [this]
theorem ring_words (k i : Nat) : wordsO (ringO k i) = 3 := rfl
theorem ringF_size (k s : Nat) : sizeF (ringF k s) = 3 * k := by
  unfold ringF
  have : ∀ (l : List Nat), sizeF (l.map fun j => (3 * ((s + j) % k), ringO k ((s + j) % k))) = 3 * l.length := by
    intro l
    induction l with
    | nil => rfl
    | cons a l ih => simp only [List.map_cons, sizeF, ih, List.length_cons, ring_words]; omega
  rw [this, List.length_range]
theorem live_none (o0 : Nat) (Hs : List (Nat × Ob)) : liveF o0 Hs [] = [] := scanF_end (Nat.zero_le _)
end Go.Proofs.Ytinakendlpomnaa
/- The ring as it is built: objects put one behind the other, then their fields set. Plain. -/
namespace Go.Proofs.Ytinakendlpomnaa
open Go.RowKit Go.Maps Arena
set_option maxRecDepth 100000
def preO (i : Nat) : Ob := ⟨1, (i : Int), [1, ((2 * i + 1 : Nat) : Int)], ByteArray.empty⟩
/-- k objects, of which i point on -/
def ringMid (k i : Nat) : List (Nat × Ob) := (List.range k).map fun j => (3 * j, if j < i then ringO k j else preO j)
theorem ringMid_len (k i : Nat) : (ringMid k i).length = k := by unfold ringMid; simp
theorem ringMid_at {k i j : Nat} (h : j < k) : (ringMid k i)[j]? = some (3 * j, if j < i then ringO k j else preO j) := by
  unfold ringMid; rw [List.getElem?_map, List.getElem?_range h]; rfl
theorem ringMid_get {k i j : Nat} (h : j < (ringMid k i).length) : (ringMid k i)[j] = (3 * j, if j < i then ringO k j else preO j) := by
  have h2 : j < k := by rw [ringMid_len] at h; exact h
  have := ringMid_at (i := i) h2
  rw [List.getElem?_eq_getElem h] at this
  exact Option.some.inj this
theorem ringMid_start (k : Nat) : ringMid k 0 ++ [(3 * k, preO k)] = ringMid (k + 1) 0 := by
  unfold ringMid
  rw [List.range_succ, List.map_append]
  rfl
theorem ringMid_end (k : Nat) : ringMid k k = ringHs k := by
  unfold ringMid ringHs
  refine List.map_congr_left fun j hj => ?_
  rw [if_pos (List.mem_range.1 hj)]
theorem ringMid_set {k i : Nat} (h : i < k) : (ringMid k i).set i (3 * i, { preO i with fields := (preO i).fields.set 0 ((2 * (3 * ((i + 1) % k)) : Nat) : Int) }) = ringMid k (i + 1) := by
  apply List.ext_getElem?
  intro j
  by_cases hj : j < k
  · rw [ringMid_at hj]
    by_cases e : i = j
    · subst e
      rw [List.getElem?_set_self (by rw [ringMid_len]; exact h), if_pos (by omega)]
      rfl
    · rw [List.getElem?_set_ne e, ringMid_at hj]
      by_cases h2 : j < i
      · rw [if_pos h2, if_pos (by omega)]
      · rw [if_neg h2, if_neg (by omega)]
  · rw [List.getElem?_eq_none (by rw [List.length_set, ringMid_len]; omega), List.getElem?_eq_none (by rw [ringMid_len]; omega)]
theorem ring_wd (k i : Nat) : wdL (ringMid k i) = (List.range k).map fun j => ((2 * (3 * j) : Nat) : Int) := by
  unfold wdL ringMid
  rw [List.map_map]
  rfl
theorem ring_wd_len (k i : Nat) : (wdL (ringMid k i)).length = k := by rw [wdL_len, ringMid_len]
theorem ring_wd_at {k i j : Nat} (h : j < k) : (wdL (ringMid k i))[j]? = some ((2 * (3 * j) : Nat) : Int) := by
  rw [ring_wd, List.getElem?_map, List.getElem?_range h]; rfl
theorem preO_may {i : Nat} (h : i < 60) : mayO (preO i) = true := by
  unfold mayO mayK preO
  dsimp only
  rw [if_pos rfl]
  unfold rowB
  simp only [Bool.and_eq_true, decide_eq_true_eq, List.length_cons, List.length_nil]
  refine ⟨⟨⟨⟨?_, ?_⟩, ?_⟩, ?_⟩, ?_⟩
  all_goals first | omega | rfl
theorem ring_put {ws : List Int} {i : Nat} (d : Held ws 200 100 ((3 * i : Nat) : Int) (ringMid i 0)) (h : i < 10) : putB ws (rigR 200) (heapB 100 ((3 * i : Nat) : Int)) (preO i) = true ∧ Held (putWs ws (rigR 200) (heapB 100 ((3 * i : Nat) : Int)) (preO i)) 200 100 ((3 * (i + 1) : Nat) : Int) (ringMid (i + 1) 0) := by
  have hf : ∀ x ∈ (preO i).fields, fldB (ringMid i 0) x := fun x hx => by
    refine .inl ?_
    unfold preO at hx
    simp only [List.mem_cons, List.not_mem_nil, or_false] at hx
    unfold isIntW
    rcases hx with rfl | rfl <;> exact decide_eq_true (by omega)
  have h64 : ∀ x ∈ (preO i).fields, W64 x := fun x hx => by
    unfold preO at hx
    simp only [List.mem_cons, List.not_mem_nil, or_false] at hx
    unfold W64
    rcases hx with rfl | rfl <;> omega
  have hw : wordsO (preO i) = 3 := rfl
  have hm := preO_may (i := i) (by omega)
  have hb := d.putB hf
  rw [hm, hw, decide_eq_true (by omega)] at hb
  refine ⟨hb, ?_⟩
  have := d.put hf h64 hm (by rw [hw]; omega)
  rw [hw, Int.toNat_natCast, ringMid_start] at this
  rw [show ((3 * (i + 1) : Nat) : Int) = ((3 * i : Nat) : Int) + ((3 : Nat) : Int) by omega]
  exact this
theorem ring_set {ws : List Int} {k i : Nat} (d : Held ws 200 100 ((3 * k : Nat) : Int) (ringMid k i)) (h : i < k) : (setAt ws (rigR 200) (heapB 100 ((3 * k : Nat) : Int)) ((2 * (3 * i) : Nat) : Int) 0 ((2 * (3 * ((i + 1) % k)) : Nat) : Int)).isSome = true ∧
    Held (wsOf ws (rigR 200) 3 (setAt ws (rigR 200) (heapB 100 ((3 * k : Nat) : Int)) ((2 * (3 * i) : Nat) : Int) 0 ((2 * (3 * ((i + 1) % k)) : Nat) : Int)) ((2 * (3 * ((i + 1) % k)) : Nat) : Int)) 200 100 ((3 * k : Nat) : Int) (ringMid k (i + 1)) := by
  have hl : i < (ringMid k i).length := by rw [ringMid_len]; exact h
  have hm : (i + 1) % k < k := Nat.mod_lt _ (by omega)
  have hv : ((2 * (3 * ((i + 1) % k)) : Nat) : Int) ∈ wdL (ringMid k i) := List.mem_of_getElem? (ring_wd_at hm)
  have he := ringMid_get hl
  rw [if_neg (by omega)] at he
  have := d.set_yes hl (i := 0) (v := ((2 * (3 * ((i + 1) % k)) : Nat) : Int)) (by omega) (by rw [he]; show (0 : Int) < 2; omega) hv (wdL_64 d _ hv)
  rw [he] at this
  dsimp only at this
  rw [show (0 : Int).toNat = 0 from rfl, ringMid_set h] at this
  exact this
/-- behind the ring: what is live, what a collection makes of it -/
theorem ring_all_h {ws : List Int} {k : Nat} (d : Held ws 200 100 ((3 * k : Nat) : Int) (ringMid k k)) : allH ws (rigR 200) (heapB 100 ((3 * k : Nat) : Int)) = some (ringHs k) := by
  have := d.all; rw [ringMid_end] at this; exact this
theorem ring_may {ws : List Int} {k s : Nat} (d : Held ws 200 100 ((3 * k : Nat) : Int) (ringMid k k)) (hs : s < k) (hk : k ≤ 10) : mayH ws (rigR 200) (heapB 100 ((3 * k : Nat) : Int)) [((2 * (3 * s) : Nat) : Int)] = some (ringHs k) := by
  unfold mayH
  rw [ring_all_h d]
  simp only
  rw [if_pos]
  rw [List.all_cons, List.all_nil, Bool.and_true, heapB_first]
  refine fld_ok (fun y hy => ?_) (.inr ?_)
  · unfold ringHs at hy
    obtain ⟨j, hj, rfl⟩ := List.mem_map.1 hy
    have := List.mem_range.1 hj
    dsimp only
    omega
  · have := List.mem_of_getElem? (ring_wd_at (i := k) hs)
    rw [ringMid_end] at this
    exact this
theorem ring_may0 {ws : List Int} {k : Nat} (d : Held ws 200 100 ((3 * k : Nat) : Int) (ringMid k k)) : mayH ws (rigR 200) (heapB 100 ((3 * k : Nat) : Int)) [] = some (ringHs k) := by
  unfold mayH
  rw [ring_all_h d]
  rfl
theorem ring_live0 {ws : List Int} {k : Nat} (d : Held ws 200 100 ((3 * k : Nat) : Int) (ringMid k k)) : liveN ws (rigR 200) (heapB 100 ((3 * k : Nat) : Int)) [] = 0 := by
  unfold liveN
  rw [ring_may0 d]
  dsimp only
  rw [live_none]
  rfl
theorem ring_live1 {ws : List Int} {k s : Nat} (d : Held ws 200 100 ((3 * k : Nat) : Int) (ringMid k k)) (hs : s < k) (hk : k ≤ 10) : liveN ws (rigR 200) (heapB 100 ((3 * k : Nat) : Int)) [((2 * (3 * s) : Nat) : Int)] = 3 * k := by
  unfold liveN
  rw [ring_may d hs hk]
  dsimp only
  rw [heapB_first, ring_live (by omega) hk hs, ringF_size]
def ringG (k : Nat) : Hp := ⟨3, 100, 1, ((3 * k : Nat) : Int)⟩
/-- the ring's objects behind the collection, in the order in which they are met -/
def ringN (k s : Nat) : List (Nat × Ob) := (List.range k).map fun j => (3 * j, ⟨1, (((s + j) % k : Nat) : Int), [((2 * (100 + 3 * ((j + 1) % k)) : Nat) : Int), ((2 * ((s + j) % k) + 1 : Nat) : Int)], ByteArray.empty⟩)
def ringNB (k s : Nat) : Bool := (newHs 0 100 (ringF k s)).map (fun y => (y.1, y.2.kind, y.2.tag, y.2.fields)) == (ringN k s).map (fun y => (y.1, y.2.kind, y.2.tag, y.2.fields))
theorem ringN_all : ((List.range 10).all fun k => (List.range (k + 1)).all fun s => ringNB (k + 1) s) = true := by decide +kernel
theorem ringN_is {k s : Nat} (h1 : 1 ≤ k) (h2 : k ≤ 10) (hs : s < k) : newHs 0 100 (ringF k s) = ringN k s := by
  have h := List.all_eq_true.1 ringN_all (k - 1) (List.mem_range.2 (by omega))
  rw [show k - 1 + 1 = k by omega] at h
  have h3 := List.all_eq_true.1 h s (List.mem_range.2 hs)
  unfold ringNB at h3
  have h4 := eq_of_beq h3
  apply List.ext_getElem?
  intro i
  have h5 := congrArg (fun l : List (Nat × Int × Int × List Int) => l[i]?) h4
  simp only [List.getElem?_map] at h5
  have hl : (newHs 0 100 (ringF k s)).length = k := by unfold newHs ringF; simp
  by_cases hi : i < k
  · have e1 : (newHs 0 100 (ringF k s))[i]? = some (phi (newW 0 100 (ringF k s)) (ringF k s) (3 * ((s + i) % k), ringO k ((s + i) % k))) := by
      unfold newHs
      rw [List.getElem?_map]
      unfold ringF
      rw [List.getElem?_map, List.getElem?_range hi]
      rfl
    have e2 : (ringN k s)[i]? = some (3 * i, ⟨1, (((s + i) % k : Nat) : Int), [((2 * (100 + 3 * ((i + 1) % k)) : Nat) : Int), ((2 * ((s + i) % k) + 1 : Nat) : Int)], ByteArray.empty⟩) := by
      unfold ringN
      rw [List.getElem?_map, List.getElem?_range hi]
      rfl
    rw [e1, e2] at h5 ⊢
    simp only [Option.map_some, Option.some.injEq, Prod.mk.injEq] at h5
    obtain ⟨f1, f2, f3, f4⟩ := h5
    congr 1
    unfold phi at f1 f2 f3 f4 ⊢
    unfold mapO at f2 f3 f4 ⊢
    dsimp only at f1 f2 f3 f4 ⊢
    rw [f1, f4]
    rfl
  · rw [List.getElem?_eq_none (by omega), List.getElem?_eq_none (by unfold ringN; simp; omega)]
theorem ring_root {k s : Nat} (h1 : 1 ≤ k) (h2 : k ≤ 10) (hs : s < k) : newW 0 100 (ringF k s) ((2 * (3 * s) : Nat) : Int) = 200 := by
  have h : ((List.range 10).all fun k => (List.range (k + 1)).all fun s => newW 0 100 (ringF (k + 1) s) ((2 * (3 * s) : Nat) : Int) == 200) = true := by decide +kernel
  have h := List.all_eq_true.1 h (k - 1) (List.mem_range.2 (by omega))
  rw [show k - 1 + 1 = k by omega] at h
  exact eq_of_beq (List.all_eq_true.1 h s (List.mem_range.2 hs))
theorem ring_coll {ws : List Int} {k s : Nat} (d : Held ws 200 100 ((3 * k : Nat) : Int) (ringMid k k)) (hk : 1 ≤ k) (hk2 : k ≤ 10) (hs : s < k) : ∃ ws', (∀ x ∈ ws', W64 x) ∧ ws'.length = 210 ∧ allH ws' (rigR 200) (ringG k) = some (ringN k s) ∧
    collWs ws (heapB 100 ((3 * k : Nat) : Int)) (liveF 0 (ringHs k) [((2 * (3 * s) : Nat) : Int)]) = ws' ∧ collH (heapB 100 ((3 * k : Nat) : Int)) (liveF 0 (ringHs k) [((2 * (3 * s) : Nat) : Int)]) = ringG k := by
  refine ⟨collWs ws (heapB 100 ((3 * k : Nat) : Int)) (liveF 0 (ringHs k) [((2 * (3 * s) : Nat) : Int)]), ?_, ?_, ?_, rfl, ?_⟩
  · exact (collWs_len (h := heapB 100 ((3 * k : Nat) : Int)) (roots := [((2 * (3 * s) : Nat) : Int)]) d.good d.len d.w64 (ring_all_h d)).2
  · exact (collWs_len (h := heapB 100 ((3 * k : Nat) : Int)) (roots := [((2 * (3 * s) : Nat) : Int)]) d.good d.len d.w64 (ring_all_h d)).1
  · have := coll_all (h := heapB 100 ((3 * k : Nat) : Int)) (roots := [((2 * (3 * s) : Nat) : Int)]) d.good d.len d.w64 (ring_all_h d)
    rw [heapB_first, show otherN (heapB 100 ((3 * k : Nat) : Int)) = 100 from rfl] at this
    rw [← ringN_is hk hk2 hs, ← ring_live hk hk2 hs]
    have e : collH (heapB 100 ((3 * k : Nat) : Int)) (liveF 0 (ringHs k) [((2 * (3 * s) : Nat) : Int)]) = ringG k := by
      unfold collH; rw [ring_live hk hk2 hs, ringF_size]; rfl
    rw [e] at this
    exact this
  · unfold collH; rw [ring_live hk hk2 hs, ringF_size]; rfl
theorem ringG_first (k : Nat) : firstN (ringG k) = 100 := rfl
theorem ringN_get {ws : List Int} {k s i : Nat} (h : allH ws (rigR 200) (ringG k) = some (ringN k s)) (hi : i < k) (hk : k ≤ 10) : getH ws (rigR 200) (ringG k) ((2 * (100 + 3 * i) : Nat) : Int) = some (3 * i, ⟨1, (((s + i) % k : Nat) : Int), [((2 * (100 + 3 * ((i + 1) % k)) : Nat) : Int), ((2 * ((s + i) % k) + 1 : Nat) : Int)], ByteArray.empty⟩) := by
  unfold getH
  rw [h, ringG_first]
  show getL 100 (ringN k s) _ = _
  unfold getL
  have hi1 : isIntW ((2 * (100 + 3 * i) : Nat) : Int) = false := decide_eq_false (by omega)
  rw [if_neg (by rw [hi1]; intro h; rcases h with h | h; cases h; omega)]
  rw [show ((2 * (100 + 3 * i) : Nat) : Int) / 2 = ((100 + 3 * i : Nat) : Int) by omega]
  cases hf : (ringN k s).find? (fun z => decide (((100 + z.1 : Nat) : Int) = ((100 + 3 * i : Nat) : Int))) with
  | none =>
    have := List.find?_eq_none.1 hf _ (List.mem_map.2 ⟨i, List.mem_range.2 hi, rfl⟩)
    simp at this
  | some z =>
    have h1 := List.mem_of_find?_eq_some hf
    have h2 := List.find?_some hf
    obtain ⟨j, hj, rfl⟩ := List.mem_map.1 h1
    have h3 : ((100 + 3 * j : Nat) : Int) = ((100 + 3 * i : Nat) : Int) := of_decide_eq_true h2
    obtain rfl : j = i := by omega
    rfl
theorem ringN_may0 {ws : List Int} {k s : Nat} (h : allH ws (rigR 200) (ringG k) = some (ringN k s)) : mayH ws (rigR 200) (ringG k) [] = some (ringN k s) := by
  unfold mayH
  rw [h]
  rfl
theorem ringN_coll0 (k s : Nat) : collH (ringG k) (liveF (firstN (ringG k)) (ringN k s) []) = ⟨3, 100, 0, 0⟩ := by rw [live_none]; rfl
end Go.Proofs.Ytinakendlpomnaa
/- GcRings: the walk. -/
namespace Go.Proofs.Ytinakendlpomnaa
open Go Go.RowKit Go.Deep Go.Maps Arena
set_option maxHeartbeats 8000000
set_option maxRecDepth 100000
theorem ringlow {w w' : World} {base : Nat} {T : TypeId} {v : Value} {s : Nat} {l : List (List Value)} (h : OwnP w base T v s l) {bs : List Nat} (t : Turn bs w w') (hg : ∀ b ∈ bs, b < base) : OwnP w' base T v s l :=
  h.turn t fun b hb hm => by
    have := (h.own b hb).1
    have := hg b hm
    omega
theorem ring_grown {w1 W W' : World} {p g bm t0 t1 q n : Nat} {ws : List Int} {R : List (Nat × Nat)} {h : Hp} {row : Option Nat} (k : Wk w1 W p g bm t0 t1 q n ws R h) (hg : W.grownBy W' row) (hr : ∀ b, row = some b → t1 < b) (h0 : w1.heap.size ≤ t1) : Wk w1 W' p g bm t0 t1 q n ws R h := by
  obtain ⟨l1, l2, l3, l4⟩ := k.lt
  cases row with
  | none => exact k.ext (Turn.ext (Turn.of_grown hg (fun b e => by cases e)))
  | some b =>
    have hb := hr b rfl
    have t : Turn [b] W W' := Turn.of_grown hg fun b' e => .inl (by rw [← Option.some.inj e]; simp)
    refine ⟨k.a.turn t (by simp; omega) (by simp; omega) (by simp; omega), ⟨t.os.trans k.t.os, t.tape.trans k.t.tape, t.output.trans k.t.output, Nat.le_trans k.t.size t.size, fun i hi hb' => (t.block i (Nat.lt_of_lt_of_le hi k.t.size) (fun hm => ?_)).trans (k.t.block i hi hb')⟩, t.keep k.two (by omega), t.keep k.hp (by omega), k.lt⟩
    rw [List.mem_singleton.1 hm] at hi
    omega
/-- the arena's side, what it holds, and the row of its words -/
structure Rk (w1 W : World) (p g bm t0 t1 q : Nat) (ws : List Int) (top : Int) (Hs : List (Nat × Ob)) (vw : Value) : Prop where
  k : Wk w1 W p g bm t0 t1 q 210 ws (rigR 200) (heapB 100 top)
  d : Held ws 200 100 top Hs
  v : OwnP W (t1 + 1) 44 vw 1 ((wdL Hs).map wordC)
theorem Rk.ext {w1 W W' : World} {p g bm t0 t1 q : Nat} {ws : List Int} {top : Int} {Hs : List (Nat × Ob)} {vw : Value} (b : Rk w1 W p g bm t0 t1 q ws top Hs vw) (e : Ext W W') : Rk w1 W' p g bm t0 t1 q ws top Hs vw := ⟨b.k.ext e, b.d, b.v.ext e⟩
theorem Wk.done {w w1 W : World} {p g bm t0 t1 q n : Nat} {ws : List Int} {R : List (Nat × Nat)} {h : Hp} (k : Wk w1 W p g bm t0 t1 q n ws R h) (e : Ext w w1) (hg : w.heap.size ≤ g) (h0 : w1.heap.size ≤ t1) : Ext w W :=
  Turn.after e k.t (by
    intro x hx
    have := Below.size e
    simp only [List.mem_cons, List.not_mem_nil, or_false] at hx
    rcases hx with rfl | rfl <;> omega)
theorem ring_put_is {w1 W W' : World} {p g bm t0 t1 q : Nat} {ws : List Int} {i tn : Nat} {vw : Value} (ht : tn = 3 * i) (b : Rk w1 W p g bm t0 t1 q ws (tn : Int) (ringMid i 0) vw) (hi : i < 10) (e : Ext W W') {T : TypeId} {gl : Nat} {x : Int} (hx : x = ((2 * i + 1 : Nat) : Int)) (hl : W'.heap[gl]? = some (.cells #[.int .u64 1, .int .u64 x] T (0, 0))) (hge : W.heap.size ≤ gl) :
    Calls Try.prog 19 #[.pointer (some ⟨p, 0, none⟩), .agg #[.int .i64 (heapB 100 (tn : Int)).base, .int .i64 (heapB 100 (tn : Int)).half, .int .i64 (heapB 100 (tn : Int)).space, .int .i64 (heapB 100 (tn : Int)).top], .agg #[.int .i64 1, .int .i64 i, .slice (some ⟨gl, 0, none⟩) 2 2, .string ⟨#[]⟩]] W' fun e w' =>
      ∃ (tn' : Nat) (kk : Int) (ws' : List Int), tn' = 3 * (i + 1) ∧ kk = ((2 * (3 * i) : Nat) : Int) ∧ e = .returned (.tuple #[.agg #[.int .i64 (heapB 100 (tn' : Int)).base, .int .i64 (heapB 100 (tn' : Int)).half, .int .i64 (heapB 100 (tn' : Int)).space, .int .i64 (heapB 100 (tn' : Int)).top], .int .u64 kk, .bool true]) ∧
        ArenaAt w' p g bm 210 ws' (rigR 200) ∧ Held ws' 200 100 (tn' : Int) (ringMid (i + 1) 0) ∧ Turn [g] W' w' := by
  subst hx ht
  obtain ⟨hb, hd⟩ := ring_put b.d hi
  have K := b.k.ext e
  have hgl : g < W.heap.size := by have := b.k.a.lt; omega
  have hrow := (lit_at (W := W') (B := W.heap.size) [1, ((2 * i + 1 : Nat) : Int)] hl (by simp) hge).rowStay (g := g) hgl
  have hup : hpUp (heapB 100 ((3 * i : Nat) : Int)) (preO i) = heapB 100 ((3 * (i + 1) : Nat) : Int) := by
    unfold hpUp heapB
    rw [show wordsO (preO i) = 3 from rfl]
    congr 1
  have htop : ((2 * topN (heapB 100 ((3 * i : Nat) : Int)) : Nat) : Int) = ((2 * (3 * i) : Nat) : Int) := by rw [heapB_top (by omega), Int.toNat_natCast]
  refine (put_yes (h' := heapB 100 ((3 * (i + 1) : Nat) : Int)) K.a (heapB 100 ((3 * i : Nat) : Int)) (show (Lit.int .i64 (3 : Int)).wf = true by decide) b.d.w64 (preO i) 2 (some ⟨gl, 0, none⟩) hrow ?_ (by show 2 ≤ 1000; omega) hb hup rfl _ htop).mono ?_
  · intro x hx
    unfold preO at hx
    simp only [List.mem_cons, List.not_mem_nil, or_false] at hx
    unfold W64
    rcases hx with rfl | rfl <;> omega
  · rintro e w' ⟨rfl, hA, hT⟩
    exact ⟨_, _, _, rfl, rfl, rfl, hA, hd, hT⟩
theorem ring_set_is {w1 W W' : World} {p g bm t0 t1 q : Nat} {ws : List Int} {i k tn : Nat} {vw : Value} (ht : tn = 3 * k) (b : Rk w1 W p g bm t0 t1 q ws (tn : Int) (ringMid k i) vw) (hi : i < k) (e : Ext W W') {x v : Int} (hx : x = ((2 * (3 * i) : Nat) : Int)) (hv : v = ((2 * (3 * ((i + 1) % k)) : Nat) : Int)) :
    Calls Try.prog 20 #[.pointer (some ⟨p, 0, none⟩), .agg #[.int .i64 (heapB 100 (tn : Int)).base, .int .i64 (heapB 100 (tn : Int)).half, .int .i64 (heapB 100 (tn : Int)).space, .int .i64 (heapB 100 (tn : Int)).top], .int .u64 x, .int .i64 0, .int .u64 v] W' fun e w' =>
      ∃ (ws' : List Int), e = .returned (.bool true) ∧ ArenaAt w' p g bm 210 ws' (rigR 200) ∧ Held ws' 200 100 (tn : Int) (ringMid k (i + 1)) ∧ Turn [g] W w' := by
  subst hx hv ht
  obtain ⟨h1, h2⟩ := ring_set b.d hi
  have hm : (i + 1) % k < k := Nat.mod_lt _ (by omega)
  have w1 := wdL_64 b.d _ (List.mem_of_getElem? (ring_wd_at hi))
  have w2 := wdL_64 b.d _ (List.mem_of_getElem? (ring_wd_at hm))
  refine (oset_is (b.k.ext e).a (heapB 100 ((3 * k : Nat) : Int)) (show (Lit.int .i64 (3 : Int)).wf = true by decide) b.d.w64 w1 w2 (show (Lit.int .i64 (0 : Int)).wf = true by decide)).mono ?_
  rintro e' w' ⟨rfl, hA, hT⟩
  rw [h1]
  exact ⟨_, rfl, hA, h2, (Turn.of_ext e).trans hT⟩
theorem ring_live0_is {w1 W W' : World} {p g bm t0 t1 q : Nat} {ws : List Int} {k tn : Nat} {vw : Value} (ht : tn = 3 * k) (b : Rk w1 W p g bm t0 t1 q ws (tn : Int) (ringMid k k) vw) (e : Ext W W') :
    Calls Try.prog 13 #[.pointer (some ⟨p, 0, none⟩), .agg #[.int .i64 (heapB 100 (tn : Int)).base, .int .i64 (heapB 100 (tn : Int)).half, .int .i64 (heapB 100 (tn : Int)).space, .int .i64 (heapB 100 (tn : Int)).top], .slice none 0 0] W' fun e w' =>
      e = .returned (.tuple #[.int .i64 0, .bool true]) ∧ Ext W' w' := by
  subst ht
  refine (live_is (b.k.ext e).a (heapB 100 ((3 * k : Nat) : Int)) (show (Lit.int .i64 (3 : Int)).wf = true by decide) b.d.w64 (q := none) (c := 0) (roots := []) (RowsP.nil _ _) (by simp) (by simp)).mono ?_
  rintro e' w' ⟨rfl, hx⟩
  rw [ring_live0 b.d, ring_may0 b.d]
  exact ⟨rfl, hx⟩
theorem ring_word {s k : Nat} (hs : s < k) (hk : k ≤ 10) : W64 ((2 * (3 * s) : Nat) : Int) := by unfold W64; omega
theorem ring_live1_is {w1 W W' : World} {p g bm t0 t1 q : Nat} {ws : List Int} {k s tn : Nat} {vw : Value} (ht : tn = 3 * k) (b : Rk w1 W p g bm t0 t1 q ws (tn : Int) (ringMid k k) vw) (hk : k ≤ 10) (hs : s < k) (e : Ext W W') {T : TypeId} {gl : Nat} {x : Int} (hx : x = ((2 * (3 * s) : Nat) : Int)) (hl : W'.heap[gl]? = some (.cells #[.int .u64 x] T (0, 0))) (hge : W.heap.size ≤ gl) :
    Calls Try.prog 13 #[.pointer (some ⟨p, 0, none⟩), .agg #[.int .i64 (heapB 100 (tn : Int)).base, .int .i64 (heapB 100 (tn : Int)).half, .int .i64 (heapB 100 (tn : Int)).space, .int .i64 (heapB 100 (tn : Int)).top], .slice (some ⟨gl, 0, none⟩) 1 1] W' fun e w' =>
      e = .returned (.tuple #[.int .i64 (tn : Int), .bool true]) ∧ Ext W' w' := by
  subst ht hx
  refine (live_is (b.k.ext e).a (heapB 100 ((3 * k : Nat) : Int)) (show (Lit.int .i64 (3 : Int)).wf = true by decide) b.d.w64 (q := some ⟨gl, 0, none⟩) (c := 1) (roots := [((2 * (3 * s) : Nat) : Int)]) (lit_at (W := W') (B := W.heap.size) [((2 * (3 * s) : Nat) : Int)] hl (by simp) hge).p (fun x hx => by rw [List.mem_singleton.1 hx]; exact ring_word hs hk) (by simp)).mono ?_
  rintro e' w' ⟨rfl, hx⟩
  rw [ring_live1 b.d hs hk, ring_may b.d hs hk]
  exact ⟨rfl, hx⟩
theorem ring_coll_is {w1 W W' : World} {p g bm t0 t1 q : Nat} {ws : List Int} {k s tn : Nat} {vw : Value} (ht : tn = 3 * k) (b : Rk w1 W p g bm t0 t1 q ws (tn : Int) (ringMid k k) vw) (hk1 : 1 ≤ k) (hk : k ≤ 10) (hs : s < k) (e : Ext W W') {T : TypeId} {gl : Nat} {x : Int} (hx : x = ((2 * (3 * s) : Nat) : Int)) (hl : W'.heap[gl]? = some (.cells #[.int .u64 x] T (0, 0))) (hge : W.heap.size ≤ gl) :
    Calls Try.prog 10 #[.pointer (some ⟨p, 0, none⟩), .agg #[.int .i64 (heapB 100 (tn : Int)).base, .int .i64 (heapB 100 (tn : Int)).half, .int .i64 (heapB 100 (tn : Int)).space, .int .i64 (heapB 100 (tn : Int)).top], .slice (some ⟨gl, 0, none⟩) 1 1] W' fun e w' =>
      ∃ ws' q c, e = .returned (.tuple #[.agg #[.int .i64 3, .int .i64 100, .int .i64 1, .int .i64 (tn : Int)], .slice q 1 c, .bool true]) ∧ (∀ x ∈ ws', W64 x) ∧ allH ws' (rigR 200) (ringG k) = some (ringN k s) ∧ ArenaAt w' p g bm 210 ws' (rigR 200) ∧ OwnP w' W'.heap.size 44 (.slice q 1 c) 1 [wordC 200] ∧ Turn [g] W' w' := by
  subst ht hx
  have K := b.k.ext e
  have hgl : g < W.heap.size := by have := b.k.a.lt; omega
  obtain ⟨ws', h1, h2, h3, h4, h5⟩ := ring_coll b.d hk1 hk hs
  refine (coll_is K.a (heapB 100 ((3 * k : Nat) : Int)) (show (Lit.int .i64 (3 : Int)).wf = true by decide) b.d.w64 (q := some ⟨gl, 0, none⟩) (c := 1) (roots := [((2 * (3 * s) : Nat) : Int)]) ((lit_at (W := W') (B := W.heap.size) [((2 * (3 * s) : Nat) : Int)] hl (by simp) hge).rowStay hgl) (fun x hx => by rw [List.mem_singleton.1 hx]; exact ring_word hs hk) (by simp)).mono ?_
  intro e' w' hc
  unfold CollSaid at hc
  rw [ring_may b.d hs hk] at hc
  dsimp only at hc
  rw [heapB_first, h4, h5] at hc
  obtain ⟨q, c, rfl, hA, hO, hT⟩ := hc
  rw [ring_live hk1 hk hs] at hO
  rw [show otherN (heapB 100 ((3 * k : Nat) : Int)) = 100 from rfl, List.map_cons, List.map_nil, ring_root hk1 hk hs] at hO
  exact ⟨ws', q, c, rfl, h1, h3, hA, hO, hT⟩
/-- behind the region of the collection -/
structure CollEnd (wr W : World) (p g bm b : Nat) (ws : List Int) (tn : Nat) (q : Option Addr) (c : Nat) : Prop where
  blk : W.heap[b]? = some (.cells #[.int .i64 3, .int .i64 100, .int .i64 1, .int .i64 (tn : Int)] 24 (0, 0))
  a : ArenaAt W p g bm 210 ws (rigR 200)
  t : Turn [g] wr W
  ro : OwnP W wr.heap.size 44 (.slice q 1 c) 1 [wordC 200]
  ge : wr.heap.size ≤ b
theorem CollEnd.fill {wr w9 : World} {p g bm b B tn : Nat} {ws : List Int} {q : Option Addr} {c : Nat} {x0 x1 x2 x3 : Value} (ht : Turn [g] wr w9) (ha : ArenaAt w9 p g bm 210 ws (rigR 200)) (ho : OwnP w9 B 44 (.slice q 1 c) 1 [wordC 200]) (hb : wr.heap.size ≤ b) (hB : b < B) (hlo : p < b ∧ g < b ∧ bm < b) (nb : w9.heap[b]? = some (.cells #[x0, x1, x2, x3] 24 (0, 0))) :
    CollEnd wr ((((w9.setCell ⟨b, 0, none⟩ (.int .i64 3)).setCell ⟨b, 1, none⟩ (.int .i64 100)).setCell ⟨b, 2, none⟩ (.int .i64 1)).setCell ⟨b, 3, none⟩ (.int .i64 (tn : Int))) p g bm b ws tn q c := by
  obtain ⟨h1, h2, -⟩ := fill4 nb (.int .i64 3) (.int .i64 100) (.int .i64 1) (.int .i64 (tn : Int))
  refine ⟨h1, ha.turn h2 (by simp; omega) (by simp; omega) (by simp; omega), ?_, (ho.turn h2 fun x hx hm => ?_).mono (by omega), hb⟩
  · refine Turn.sub ((ht.mono (cs := [g, b]) (by simp)).trans (h2.mono (by simp))) ?_
    intro x hx
    simp only [List.mem_cons, List.not_mem_nil, or_false] at hx ⊢
    omega
  · have := (ho.own x hx).1
    rw [List.mem_singleton.1 hm] at this
    omega
theorem CollEnd.made {wr w9 : World} {p g bm B tn : Nat} {ws : List Int} {q : Option Addr} {c : Nat} (ht : Turn [g] wr w9) (ha : ArenaAt w9 p g bm 210 ws (rigR 200)) (ho : OwnP w9 B 44 (.slice q 1 c) 1 [wordC 200]) (hB : wr.heap.size ≤ B) :
    CollEnd wr (w9.alloc (.cells #[.int .i64 3, .int .i64 100, .int .i64 1, .int .i64 (tn : Int)] 24 (0, 0))) p g bm w9.heap.size ws tn q c :=
  ⟨heap_alloc_new _ _, ha.ext (Ext.alloc _ _), ht.trans (Turn.of_ext (Ext.alloc _ _)), (ho.ext (Ext.alloc _ _)).mono hB, ht.size⟩
theorem ring_c6s {w : World} {t0 t1 gw a b : Nat} {v0 v1 v2 v3 v4 v5 u0 u1 u2 u3 : Value} (h : w.cell? ⟨t0, 0, none⟩ = some v0 ∧ w.cell? ⟨t1, 0, none⟩ = some v1 ∧ w.cell? ⟨t1, 1, none⟩ = some v2 ∧ w.cell? ⟨t1, 2, none⟩ = some v3 ∧ w.cell? ⟨t1, 3, none⟩ = some v4 ∧ w.cell? ⟨gw, a, none⟩ = some v5) (h0 : t0 ≠ b) (h1 : t1 ≠ b) (h2 : gw ≠ b) :
    ((((w.setCell ⟨b, 0, none⟩ u0).setCell ⟨b, 1, none⟩ u1).setCell ⟨b, 2, none⟩ u2).setCell ⟨b, 3, none⟩ u3).cell? ⟨t0, 0, none⟩ = some v0 ∧ ((((w.setCell ⟨b, 0, none⟩ u0).setCell ⟨b, 1, none⟩ u1).setCell ⟨b, 2, none⟩ u2).setCell ⟨b, 3, none⟩ u3).cell? ⟨t1, 0, none⟩ = some v1 ∧ ((((w.setCell ⟨b, 0, none⟩ u0).setCell ⟨b, 1, none⟩ u1).setCell ⟨b, 2, none⟩ u2).setCell ⟨b, 3, none⟩ u3).cell? ⟨t1, 1, none⟩ = some v2 ∧
    ((((w.setCell ⟨b, 0, none⟩ u0).setCell ⟨b, 1, none⟩ u1).setCell ⟨b, 2, none⟩ u2).setCell ⟨b, 3, none⟩ u3).cell? ⟨t1, 2, none⟩ = some v3 ∧ ((((w.setCell ⟨b, 0, none⟩ u0).setCell ⟨b, 1, none⟩ u1).setCell ⟨b, 2, none⟩ u2).setCell ⟨b, 3, none⟩ u3).cell? ⟨t1, 3, none⟩ = some v4 ∧ ((((w.setCell ⟨b, 0, none⟩ u0).setCell ⟨b, 1, none⟩ u1).setCell ⟨b, 2, none⟩ u2).setCell ⟨b, 3, none⟩ u3).cell? ⟨gw, a, none⟩ = some v5 := by
  have t : Turn [b] w ((((w.setCell ⟨b, 0, none⟩ u0).setCell ⟨b, 1, none⟩ u1).setCell ⟨b, 2, none⟩ u2).setCell ⟨b, 3, none⟩ u3) := ((((Turn.refl [b] w).setCell (.inl (by simp)) u0).setCell (.inl (by simp)) u1).setCell (.inl (by simp)) u2).setCell (.inl (by simp)) u3
  exact ⟨t.cell (by simpa using h0) h.1, t.cell (by simpa using h1) h.2.1, t.cell (by simpa using h1) h.2.2.1, t.cell (by simpa using h1) h.2.2.2.1, t.cell (by simpa using h1) h.2.2.2.2.1, t.cell (by simpa using h2) h.2.2.2.2.2⟩
theorem OwnP.cellw {w : World} {base : Nat} {T : TypeId} {g n c i : Nat} {l : List Int} {x y : Int} (h : OwnP w base T (.slice (some ⟨g, 0, none⟩) n c) 1 (l.map wordC)) (hi : l[i]? = some x) (hy : y = x) : w.cell? ⟨g, i, none⟩ = some (.int .u64 y) := by
  subst hy
  obtain ⟨g', e, _, hc, _⟩ := h.cell (i := i) (f := 0) (cs := wordC y) (u := .int .u64 y) (by rw [List.getElem?_map, hi]; rfl) rfl
  obtain ⟨rfl, _⟩ := Addr.mk.inj (Option.some.inj e)
  rw [Nat.add_zero, Nat.mul_one] at hc
  exact hc
def ringT (tn : Nat) : Hp := ⟨3, 100, 1, (tn : Int)⟩
theorem Wk.coll {w1 wr W : World} {p g bm t0 t1 q b tn c : Nat} {ws ws' : List Int} {h : Hp} {qc : Option Addr} (k : Wk w1 wr p g bm t0 t1 q 210 ws (rigR 200) h) (e : CollEnd wr W p g bm b ws' tn qc c) (h1 : t1 < wr.heap.size) (h0 : w1.heap.size ≤ t1) : Wk w1 W p g bm t0 b q 210 ws' (rigR 200) (ringT tn) := by
  obtain ⟨l1, l2, l3, l4⟩ := k.lt
  have hb := e.ge
  refine ⟨e.a, Turn.sub (k.t.trans (e.t.mono (cs := [g, t1]) (by simp))) ?_, e.t.keep k.two (by omega), e.blk, l1, l2, l3, by omega⟩
  intro x hx
  simp only [List.mem_cons, List.not_mem_nil, or_false] at hx ⊢
  omega
theorem ring_get_is {w1 W : World} {p g bm t0 b q tn j s a r : Nat} {ws : List Int} (k : Wk w1 W p g bm t0 b q 210 ws (rigR 200) (ringT tn)) (ht : tn = 3 * j) (hW : ∀ x ∈ ws, W64 x) (hA : allH ws (rigR 200) (ringG j) = some (ringN j s)) (ha : a < j) (hj : j ≤ 10) {x : Int} (hx : x = ((2 * (100 + 3 * a) : Nat) : Int)) (hr : r = (s + a) % j) :
    Calls Try.prog 21 #[.pointer (some ⟨p, 0, none⟩), .agg #[.int .i64 3, .int .i64 100, .int .i64 1, .int .i64 (tn : Int)], .int .u64 x] W fun e w' =>
      ∃ q c f, e = .returned (.tuple #[.agg #[.int .i64 1, .int .i64 (r : Int), .slice q 2 c, .string ⟨#[]⟩], .bool true]) ∧ f = ((2 * (100 + 3 * ((a + 1) % j)) : Nat) : Int) ∧ OwnP w' W.heap.size 44 (.slice q 2 c) 1 [wordC f, wordC (2 * (r : Int) + 1)] ∧ Ext W w' := by
  subst ht hx hr
  have hg := ringN_get hA ha hj
  refine (get_is k.a (ringT (3 * j)) (show (Lit.int .i64 (3 : Int)).wf = true by decide) hW (x := ((2 * (100 + 3 * a) : Nat) : Int)) (by unfold W64; omega)).mono ?_
  rintro e w' ⟨v, rfl, hx, -, hy⟩
  obtain ⟨q, c, rfl, ho⟩ := hy _ hg
  rw [show getH ws (rigR 200) (ringT (3 * j)) ((2 * (100 + 3 * a) : Nat) : Int) = _ from hg]
  exact ⟨q, c, _, rfl, rfl, ho, hx⟩
theorem ring_coll0_is {w1 W : World} {p g bm t0 b q tn j s : Nat} {ws : List Int} (k : Wk w1 W p g bm t0 b q 210 ws (rigR 200) (ringT tn)) (ht : tn = 3 * j) (hW : ∀ x ∈ ws, W64 x) (hA : allH ws (rigR 200) (ringG j) = some (ringN j s)) :
    Calls Try.prog 10 #[.pointer (some ⟨p, 0, none⟩), .agg #[.int .i64 3, .int .i64 100, .int .i64 1, .int .i64 (tn : Int)], .slice none 0 0] W fun e w' =>
      ∃ ws' q c, e = .returned (.tuple #[.agg #[.int .i64 3, .int .i64 100, .int .i64 0, .int .i64 0], .slice q 0 c, .bool true]) ∧ ArenaAt w' p g bm 210 ws' (rigR 200) ∧ Turn [g] W w' := by
  subst ht
  refine (coll_is k.a (ringT (3 * j)) (show (Lit.int .i64 (3 : Int)).wf = true by decide) hW (q := none) (c := 0) (roots := []) (fun _ _ => RowsP.nil _ _) (by simp) (by simp)).mono ?_
  intro e' w' hc
  unfold CollSaid at hc
  rw [show mayH ws (rigR 200) (ringT (3 * j)) [] = _ from ringN_may0 hA] at hc
  dsimp only at hc
  rw [show collH (ringT (3 * j)) (liveF (firstN (ringT (3 * j))) (ringN j s) []) = _ from ringN_coll0 j s] at hc
  obtain ⟨q, c, rfl, hA, _, hT⟩ := hc
  exact ⟨_, q, c, rfl, hA, hT⟩
theorem rings_walk {w : World} {nn more : Int} (hn0 : 0 ≤ nn) (hn1 : nn ≤ 255) (hm0 : 0 ≤ more) (hm1 : more ≤ 255) : Calls Try.prog 5 #[.int .u8 nn, .int .u8 more] w (TrueExt w) := by
  have hmk := run_make_row' (P := Try.prog) 22 44 (.int .u64 0) 8 Try.underlying22 info_u64 rfl .i64 .i64 200 (by omega) (by omega)
  simp only [Int.cast_ofNat_Int] at hmk
  obtain ⟨k, hk⟩ : ∃ k : Nat, 1 + nn % 10 = (k : Int) := ⟨(1 + nn % 10).toNat, by omega⟩
  have hk1 : 1 ≤ k := by omega
  have hk2 : k ≤ 10 := by omega
  obtain ⟨s, hs⟩ : ∃ s : Nat, more % (k : Int) = (s : Int) := ⟨(more % (k : Int)).toNat, by have := Int.emod_nonneg more (show (k : Int) ≠ 0 by omega); omega⟩
  have hsk : s < k := by have := Int.emod_lt_of_pos more (show (0 : Int) < k by omega); omega
  have HK := Lib.hid hk; have HS := Lib.hid hs
  clear hk hs
  go_enter Try.func5, Try.ntmps5
  go_wp2_with fail
  refine (lay_words (make_words w 200 (by omega) _) (by simp)).mono ?_; rintro e w1 ⟨p, g, bm, q, gq, B, rfl, hB⟩
  have HB := Lib.hid hB
  clear hB hmk
  rw [HK.out]
  clear HK
  go_upto_region 7 with fail
  refine wp_alloc2 fun W hE hS b0 b1 => ?_
  have hlt := HB.out.a.lt
  have HGE := Lib.hid (show w.heap.size ≤ g by have h1 := HB.out.ge.2.1; have h2 := Below.size (Ext.alloc w (Obj.cells (madeCells #[Value.int IntKind.u64 0] 200) 44)); omega)
  have HX1 := Lib.hid ((Ext.alloc w (Obj.cells (madeCells #[Value.int IntKind.u64 0] 200) 44)).trans HB.out.ext)
  have K0 := Lib.hid (show Wk w1 W p g bm w1.heap.size (w1.heap.size + 1) q 210 (rigW (List.replicate 200 0) 200) (rigR 200) (heapB 100 0) from ⟨HB.out.a.ext hE, Turn.of_ext hE, b0, b1, by omega, by omega, by omega, by omega⟩)
  clear hE hS b0 b1 hlt HB
  have HT0' := Lib.hid (Nat.le_refl w1.heap.size)
  generalize hgt0 : w1.heap.size = t0 at K0 ⊢
  have HT0 := Lib.hid hgt0
  clear hgt0 HT0'
  generalize ht1 : t0 + 1 = t1 at K0 ⊢
  have HT1 := Lib.hid ht1
  clear ht1
  have HB0 := Lib.hid (show Rk w1 W p g bm t0 t1 q (rigW (List.replicate 200 0) 200) ((0 : Nat) : Int) (ringMid 0 0) (.slice none 0 0) from ⟨K0.out, held_start (by omega) (by omega) rfl, OwnP.nil _ _ _ _⟩)
  clear K0
  have hgl : g < t0 ∧ t0 < t1 := by have := HB0.out.k.lt; omega
  go_wp2_with fail
  go_loopw [10, 11] (fun vw i wx => ∃ (a tn : Nat) (ws : List Int), a ≤ k ∧ tn = 3 * a ∧ i = .int .i64 a ∧ Rk w1 wx p g bm t0 t1 q ws (tn : Int) (ringMid a 0) vw) (fun _ i _ => k - (Go.RowKit.intOf i).toNat)
  case atStart => exact ⟨0, 0, _, by omega, rfl, rfl, HB0.out⟩
  case round =>
    obtain ⟨i, tn, ws, hi, htn, rfl, hRk⟩ := hrel
    have HTN := Lib.hid htn
    clear htn
    clear HB0
    have HRK := Lib.hid hRk
    clear hRk
    obtain ⟨qw, cw, rfl, hcw1, hcw2⟩ := HRK.out.v.len
    rw [List.length_map, ring_wd_len] at hcw1 HRK ⊢
    unfold maxLen at hcw2
    by_cases hlt : i < k
    · --<<A
      have i1 : (i : Int) < (k : Int) := by omega
      obtain ⟨x0, x1⟩ := cells2 HRK.out.k.two
      obtain ⟨y0, y1, y2, y3⟩ := cells4 HRK.out.k.hp
      go_wp2_with fail
      refine at_alloc1 fun W2 hE2 hS2 b2 => ?_
      refine (ring_put_is HTN.out HRK.out (by omega) hE2 (by omega) b2 (Nat.le_refl _)).mono ?_
      rintro e w2 ⟨tn', kk, ws', htn', hkk, rfl, hA2, hD2, hT2⟩
      have HTN' := Lib.hid htn'; have HKK := Lib.hid hkk; have HD2 := Lib.hid hD2
      have K2 := Lib.hid ((HRK.out.k.ext hE2).put hA2 hT2)
      have HV2 := Lib.hid (ringlow (HRK.out.v.ext hE2) hT2 (by intro b hb; rw [List.mem_singleton.1 hb]; omega))
      clear htn' hkk hE2 hS2 b2 hA2 hD2 hT2 x0 x1 y0 y1 y2 y3
      go_upto_region 13 with fail
      refine wp_alloc1 fun W3 hE3 hS3 b3 => ?_
      have K3 := Lib.hid (K2.out.ext hE3)
      have HV3 := Lib.hid (HV2.out.ext hE3)
      clear hE3 hS3 K2 HV2
      obtain ⟨z0, z1, z2, z3⟩ := cells4 b3
      obtain ⟨y0, y1, y2, y3⟩ := cells4 K3.out.hp
      have f0 := free_at K3.out.hp (i := 0)
      have f1 := free_at K3.out.hp (i := 1)
      have f2 := free_at K3.out.hp (i := 2)
      have f3 := free_at K3.out.hp (i := 3)
      clear b3
      go_upto_region 14 with fail
      refine wp_fill4 K3.out.hp fun W4 c4 hT4 hS4 => ?_
      have K4 := Lib.hid (K3.out.fill (h' := heapB 100 (tn' : Int)) c4 hT4)
      have HV4 := Lib.hid (ringlow HV3.out hT4 (by intro b hb; rw [List.mem_singleton.1 hb]; omega))
      clear hS4 c4 hT4 K3 HV3 z0 z1 z2 z3 y0 y1 y2 y3 f0 f1 f2 f3
      have hW4 : t1 < W4.heap.size := (Array.getElem?_eq_some_iff.1 K4.out.hp).1
      go_wp2_with (refine wpList_append_rows E64 (by rfl) _ _ (by rfl) (t1 + 1) (.slice qw i cw) (.slice (some ⟨W4.heap.size, 0, none⟩) 1 1) ((wdL (ringMid i 0)).map wordC) [wordC kk] (by rfl) (HV4.out.ext (Ext.alloc _ _)) (by rfl) (rows_of_block (cs := #[.int .u64 kk]) (heap_alloc_new _ _) rfl (by intro u hu; simp at hu; subst hu; rfl)) (by rw [List.length_map, ring_wd_len]; simp; unfold maxLen; omega) (by rw [List.length_map, ring_wd_len]; simp; omega) (by simp; omega) ?_)
      intro v5 w5 ho5 hg5 hb5 _
      have hfin : Rk w1 w5 p g bm t0 t1 q ws' (tn' : Int) (ringMid (i + 1) 0) v5 := by
        refine ⟨ring_grown (K4.out.ext (Ext.alloc _ _)) hg5 (fun b hb => (HV4.out.own b hb).1) (by have := HT0.out; omega), HD2.out, ?_⟩
        rw [← ringMid_start, wdL_put, List.map_append, ← HKK.out]
        exact ho5
      have HF := Lib.hid hfin
      clear hfin ho5 hg5 hb5 HV4 K4
      go_wp2
      exact ⟨⟨i + 1, tn', ws', by omega, HTN'.out, by go_num, HF.out⟩, by simp [Go.RowKit.intOf]; omega⟩
      -->>A
    · obtain rfl : i = k := by omega
      clear hlt hi hcw1
      generalize wr = wq at *
      have hk3 : (i : Int) ≤ 10 := by omega
      go_wp2_with fail
      go_loopw [15] (fun v wx => ∃ (a : Nat) (ws' : List Int), a ≤ i ∧ v = .int .i64 a ∧ Rk w1 wx p g bm t0 t1 q ws' (tn : Int) (ringMid i a) (.slice qw i cw)) (fun v _ => i - (Go.RowKit.intOf v).toNat)
      case atStart => exact ⟨0, ws, by omega, rfl, HRK.out⟩
      case round =>
        obtain ⟨j, ws', hj, rfl, hB'⟩ := hrel
        have HB := Lib.hid hB'
        clear hB' HRK
        by_cases hlt : j < i
        · --<<B
          obtain ⟨m, hm⟩ : ∃ m, m = (j + 1) % i := ⟨_, rfl⟩
          have hmi : m < i := by rw [hm]; exact Nat.mod_lt _ (by omega)
          have hr1 : ((j : Int) + 1) % (i : Int) = (m : Int) := by rw [hm, Int.natCast_emod, Int.natCast_add]; rfl
          have hr2 : ((j : Int) + 1).tmod (i : Int) = (m : Int) := by rw [Int.tmod_eq_emod_of_nonneg (by omega)]; exact hr1
          have hw1 : IntKind.i64.wrap ((j : Int) + 1) = (j : Int) + 1 := IntWalk.i64_in _ (by omega)
          obtain ⟨gw, rfl, hgw1, hcj, -⟩ := HB.out.v.cell (i := j) (f := 0) (cs := wordC ((2 * (3 * j) : Nat) : Int)) (u := .int .u64 ((2 * (3 * j) : Nat) : Int)) (by rw [List.getElem?_map, ring_wd_at hlt]; rfl) rfl
          obtain ⟨gw', e1, -, hcm, -⟩ := HB.out.v.cell (i := m) (f := 0) (cs := wordC ((2 * (3 * m) : Nat) : Int)) (u := .int .u64 ((2 * (3 * m) : Nat) : Int)) (by rw [List.getElem?_map, ring_wd_at hmi]; rfl) rfl
          obtain rfl : gw' = gw := by
            obtain ⟨rfl, _⟩ := Addr.mk.inj (Option.some.inj e1)
            rfl
          rw [Nat.add_zero, Nat.mul_one] at hcj hcm
          clear e1
          obtain ⟨wj, hwj⟩ : ∃ wj : Int, wj = ((2 * (3 * j) : Nat) : Int) := ⟨_, rfl⟩
          obtain ⟨wm, hwm⟩ : ∃ wm : Int, wm = ((2 * (3 * m) : Nat) : Int) := ⟨_, rfl⟩
          rw [← hwj] at hcj
          rw [← hwm] at hcm
          have hwm2 : wm = ((2 * (3 * ((j + 1) % i)) : Nat) : Int) := by rw [hwm, hm]
          have HSE := Lib.hid (fun W (e : Ext wr W) => ring_set_is HTN.out HB.out hlt e hwj hwm2)
          clear hwj hwm hwm2 hm
          have i1 : (j : Int) < (i : Int) := by omega
          have i2 : (m : Int) < (i : Int) := by omega
          have i3 : (0 : Int) ≤ (j : Int) := by omega
          have i4 : (0 : Int) ≤ (m : Int) := by omega
          have i5 : ¬ i = 0 := by omega
          have i6 : (0 : Int) < (i : Int) := by omega
          obtain ⟨x0, x1⟩ := cells2 HB.out.k.two
          obtain ⟨y0, y1, y2, y3⟩ := cells4 HB.out.k.hp
          have hg0 : g < t0 ∧ t0 < t1 ∧ t1 < gw' := by have := HB.out.k.lt; omega
          go_upto_region 18 with fail
          go_region_held3 (fun w' => w'.cell? ⟨t0, 0, none⟩ = some (.pointer (some ⟨p, 0, none⟩)) ∧ w'.cell? ⟨t1, 0, none⟩ = some (.int .i64 (heapB 100 (tn : Int)).base) ∧ w'.cell? ⟨t1, 1, none⟩ = some (.int .i64 (heapB 100 (tn : Int)).half) ∧ w'.cell? ⟨t1, 2, none⟩ = some (.int .i64 (heapB 100 (tn : Int)).space) ∧ w'.cell? ⟨t1, 3, none⟩ = some (.int .i64 (heapB 100 (tn : Int)).top) ∧
              w'.cell? ⟨gw', j, none⟩ = some (.int .u64 wj) ∧ w'.cell? ⟨gw', m, none⟩ = some (.int .u64 wm))
            (first | go_keep | exact hkp9)
            (first
              | (go_at_call 20; refine (HSE.out _ (by first | exact Ext.refl _ | exact Ext.drew _)).mono ?_; rintro e w9 ⟨ws9, rfl, hA9, hD9, hT9⟩; have hkp9 := And.intro (hT9.cell (by simp; omega) x0) (And.intro (hT9.cell (by simp; omega) y0) (And.intro (hT9.cell (by simp; omega) y1) (And.intro (hT9.cell (by simp; omega) y2) (And.intro (hT9.cell (by simp; omega) y3) (And.intro (hT9.cell (by simp; omega) hcj) (hT9.cell (by simp; omega) hcm))))))))
          have HF := Lib.hid (show Rk w1 w9 p g bm t0 t1 q ws9 (tn : Int) (ringMid i (j + 1)) (.slice (some ⟨gw', 0, none⟩) i cw) from ⟨HB.out.k.put hA9 hT9, hD9, by have := ringlow HB.out.v hT9 (by intro b hb; rw [List.mem_singleton.1 hb]; omega); rw [ring_wd] at this ⊢; exact this⟩)
          clear hkp9 hA9 hD9 hT9 x0 x1 y0 y1 y2 y3 hcj hcm HSE hr1 hr2 hw1
          go_wp2
          exact ⟨⟨j + 1, ws9, by omega, by go_num, HF.out⟩, by simp [Go.RowKit.intOf]; omega⟩
          -->>B
        · obtain rfl : j = i := by omega
          clear hlt hj
          generalize wr = wy at *
          have hs1 : more % (j : Int) = (s : Int) := HS.out
          have hs2 : more.tmod (j : Int) = (s : Int) := by rw [Int.tmod_eq_emod_of_nonneg hm0]; exact hs1
          have j5 : ¬ j = 0 := by omega
          have j9 : IntKind.i64.wrap more = more := IntWalk.i64_in _ (by omega)
          have j6 : (0 : Int) < (j : Int) := by omega
          have j7 : (0 : Int) ≤ (s : Int) := by omega
          have j8 : (s : Int) < (j : Int) := by omega
          obtain ⟨x0, x1⟩ := cells2 HB.out.k.two
          obtain ⟨y0, y1, y2, y3⟩ := cells4 HB.out.k.hp
          go_wp2_with fail
          refine (ring_live0_is HTN.out HB.out (Ext.refl _)).mono ?_
          rintro e w2 ⟨rfl, hx2⟩
          have HB2 := Lib.hid (HB.out.ext hx2)
          clear hx2 HB x0 x1 y0 y1 y2 y3
          obtain ⟨gw, rfl, hgw1, hcs, -⟩ := HB2.out.v.cell (i := s) (f := 0) (cs := wordC ((2 * (3 * s) : Nat) : Int)) (u := .int .u64 ((2 * (3 * s) : Nat) : Int)) (by rw [List.getElem?_map, ring_wd_at hsk]; rfl) rfl
          rw [Nat.add_zero, Nat.mul_one] at hcs
          obtain ⟨ws1, hws1⟩ : ∃ ws1 : Int, ws1 = ((2 * (3 * s) : Nat) : Int) := ⟨_, rfl⟩
          rw [← hws1] at hcs
          have HWS := Lib.hid hws1
          clear hws1
          obtain ⟨x0, x1⟩ := cells2 HB2.out.k.two
          obtain ⟨y0, y1, y2, y3⟩ := cells4 HB2.out.k.hp
          have n0 := (Array.getElem?_eq_some_iff.1 HB2.out.k.two).1
          have n1 := (Array.getElem?_eq_some_iff.1 HB2.out.k.hp).1
          have n2 := (HB2.out.v.own gw rfl).2
          have hg0 : g < t0 ∧ t0 < t1 ∧ t1 < gw := by have := HB2.out.k.lt; omega
          go_upto_region 21 with fail
          have HK0 := Lib.hid (show w2.cell? ⟨t0, 0, none⟩ = some (.pointer (some ⟨p, 0, none⟩)) ∧ w2.cell? ⟨t1, 0, none⟩ = some (.int .i64 (heapB 100 (tn : Int)).base) ∧ w2.cell? ⟨t1, 1, none⟩ = some (.int .i64 (heapB 100 (tn : Int)).half) ∧ w2.cell? ⟨t1, 2, none⟩ = some (.int .i64 (heapB 100 (tn : Int)).space) ∧ w2.cell? ⟨t1, 3, none⟩ = some (.int .i64 (heapB 100 (tn : Int)).top) ∧ w2.cell? ⟨gw, s, none⟩ = some (.int .u64 ws1) from ⟨x0, y0, y1, y2, y3, hcs⟩)
          clear x0 x1 y0 y1 y2 y3 hcs
          refine wp_region_noPanic ?_
          refine wp_region_last 16 (S := (fun w' => w'.cell? ⟨t0, 0, none⟩ = some (.pointer (some ⟨p, 0, none⟩)) ∧ w'.cell? ⟨t1, 0, none⟩ = some (.int .i64 (heapB 100 (tn : Int)).base) ∧ w'.cell? ⟨t1, 1, none⟩ = some (.int .i64 (heapB 100 (tn : Int)).half) ∧ w'.cell? ⟨t1, 2, none⟩ = some (.int .i64 (heapB 100 (tn : Int)).space) ∧ w'.cell? ⟨t1, 3, none⟩ = some (.int .i64 (heapB 100 (tn : Int)).top) ∧ w'.cell? ⟨gw, s, none⟩ = some (.int .u64 ws1))) (by kernel_rfl) (by kernel_rfl) _ rfl ?_ (fun hHeld => ?_)
          · (first | with_reducible exact (Ext.drew _).cells6k HK0.out | with_reducible exact hkp9 | with_reducible exact (Ext.alloc _ _).cells6k hkp9 | with_reducible exact (Ext.trans (Ext.alloc _ _) (Ext.drew _)).cells6k HK0.out | with_reducible exact (Ext.trans (Ext.alloc _ _) (Ext.trans (Ext.alloc _ _) (Ext.drew _))).cells6k HK0.out | exact ring_c6s hkp9 (by omega) (by omega) (by omega))
          simp only [List.take_succ_cons, List.take_zero]
          refine wpAnyH_take (i := 0) (v := ?v1) rfl (by kernel_rfl) (by kernel_rfl) (by kernel_rfl) (fun _ _ _ h => h) (Or.inl ⟨by rfl, ?y1⟩) (by assumption) ?r1
          case y1 => intro w hSw; (try dsimp only at hSw); go_simp; (try with_reducible rfl)
          (try simp only [Act.put, List.setIfInBounds_toArray, List.set_cons_zero, List.set_cons_succ, List.getElem_toArray, List.getElem_cons_zero, List.getElem_cons_succ])
          refine wpAnyH_take (i := 1) (v := ?v2) rfl (by kernel_rfl) (by kernel_rfl) (by kernel_rfl) (fun _ _ _ h => h) (Or.inl ⟨by rfl, ?y2⟩) (by assumption) ?r2
          case y2 => intro w hSw; (try dsimp only at hSw); go_simp; (try with_reducible rfl)
          (try simp only [Act.put, List.setIfInBounds_toArray, List.set_cons_zero, List.set_cons_succ, List.getElem_toArray, List.getElem_cons_zero, List.getElem_cons_succ])
          refine wpAnyH_take (i := 2) (v := ?v3) rfl (by kernel_rfl) (by kernel_rfl) (by kernel_rfl) (fun _ _ _ h => h) (Or.inl ⟨by rfl, ?y3⟩) (by assumption) ?r3
          case y3 => intro w hSw; (try dsimp only at hSw); go_simp; (try with_reducible rfl)
          (try simp only [Act.put, List.setIfInBounds_toArray, List.set_cons_zero, List.set_cons_succ, List.getElem_toArray, List.getElem_cons_zero, List.getElem_cons_succ])
          refine wpAnyH_take (i := 3) (v := ?v4) rfl (by kernel_rfl) (by kernel_rfl) (by kernel_rfl) (fun _ _ _ h => h) (Or.inl ⟨by rfl, ?y4⟩) (by assumption) ?r4
          case y4 => intro w hSw; (try dsimp only at hSw); go_simp; (try with_reducible rfl)
          (try simp only [Act.put, List.setIfInBounds_toArray, List.set_cons_zero, List.set_cons_succ, List.getElem_toArray, List.getElem_cons_zero, List.getElem_cons_succ])
          refine wpAnyH_take (i := 4) (v := ?v5) rfl (by kernel_rfl) (by kernel_rfl) (by kernel_rfl) (fun _ _ _ h => h) (Or.inl ⟨by rfl, ?y5⟩) (by assumption) ?r5
          case y5 => intro w hSw; (try dsimp only at hSw); go_simp; (try with_reducible rfl)
          (try simp only [Act.put, List.setIfInBounds_toArray, List.set_cons_zero, List.set_cons_succ, List.getElem_toArray, List.getElem_cons_zero, List.getElem_cons_succ])
          refine wpAnyH_take (i := 5) (v := ?v6) rfl (by kernel_rfl) (by kernel_rfl) (by kernel_rfl) (fun _ _ _ h => h) (Or.inl ⟨by rfl, ?y6⟩) (by assumption) ?r6
          case y6 => intro w hSw; (try dsimp only at hSw); go_simp; (try with_reducible rfl)
          (try simp only [Act.put, List.setIfInBounds_toArray, List.set_cons_zero, List.set_cons_succ, List.getElem_toArray, List.getElem_cons_zero, List.getElem_cons_succ])
          refine wpAnyH_take (i := 6) (v := ?v7) rfl (by kernel_rfl) (by kernel_rfl) (by kernel_rfl) (fun _ _ _ h => h) (Or.inl ⟨by rfl, ?y7⟩) (by assumption) ?r7
          case y7 => intro w hSw; (try dsimp only at hSw); go_simp; (try with_reducible rfl)
          (try simp only [Act.put, List.setIfInBounds_toArray, List.set_cons_zero, List.set_cons_succ, List.getElem_toArray, List.getElem_cons_zero, List.getElem_cons_succ])
          refine wpAnyH_take (i := 7) (v := ?v8) rfl (by kernel_rfl) (by kernel_rfl) (by kernel_rfl) (fun _ _ _ h => h) (Or.inl ⟨by rfl, ?y8⟩) (by assumption) ?r8
          case y8 => intro w hSw; (try dsimp only at hSw); go_simp; (try with_reducible rfl)
          (try simp only [Act.put, List.setIfInBounds_toArray, List.set_cons_zero, List.set_cons_succ, List.getElem_toArray, List.getElem_cons_zero, List.getElem_cons_succ])
          refine wpAnyH_take (i := 8) (v := ?v9) rfl (by kernel_rfl) (by kernel_rfl) (by kernel_rfl) (fun _ _ _ h => h) (Or.inl ⟨by rfl, ?y9⟩) (by assumption) ?r9
          case y9 => intro w hSw; (try dsimp only at hSw); go_simp; (try with_reducible rfl)
          (try simp only [Act.put, List.setIfInBounds_toArray, List.set_cons_zero, List.set_cons_succ, List.getElem_toArray, List.getElem_cons_zero, List.getElem_cons_succ])
          refine wpAnyH_take (i := 9) (v := ?v10) rfl (by kernel_rfl) (by kernel_rfl) (by kernel_rfl) (fun _ _ _ h => h) (Or.inl ⟨by rfl, ?y10⟩) (by assumption) ?r10
          case y10 => intro w hSw; (try dsimp only at hSw); go_simp; (try with_reducible rfl)
          (try simp only [Act.put, List.setIfInBounds_toArray, List.set_cons_zero, List.set_cons_succ, List.getElem_toArray, List.getElem_cons_zero, List.getElem_cons_succ])
          refine wpAnyH_ready (rs := [10]) (by kernel_rfl) (by simp) ?_
          refine AllReadyH.cons rfl (fun K hK => ?_) AllReadyH.nil
          go_simp
          refine hK.out _ _ ?s11 (fun hHeld => ?k11)
          case s11 => ((try dsimp only); (first | with_reducible exact (Ext.drew _).cells6k HK0.out | with_reducible exact hkp9 | with_reducible exact (Ext.alloc _ _).cells6k hkp9 | with_reducible exact (Ext.trans (Ext.alloc _ _) (Ext.drew _)).cells6k HK0.out | with_reducible exact (Ext.trans (Ext.alloc _ _) (Ext.trans (Ext.alloc _ _) (Ext.drew _))).cells6k HK0.out | exact ring_c6s hkp9 (by omega) (by omega) (by omega)))
          clear hK K
          (try simp only [Act.put, List.setIfInBounds_toArray, List.set_cons_zero, List.set_cons_succ, List.getElem_toArray, List.getElem_cons_zero, List.getElem_cons_succ])
          refine wpAnyH_ready (rs := [11]) (by kernel_rfl) (by simp) ?_
          refine AllReadyH.cons rfl (fun K hK => ?_) AllReadyH.nil
          go_simp
          refine (ring_live1_is HTN.out HB2.out hk2 hsk (Ext.trans (Ext.alloc _ _) (Ext.drew _)) HWS.out (heap_alloc_new w2 _) (Nat.le_refl _)).mono ?_
          rintro e w9 ⟨rfl, hx9⟩
          have hkp9 := (Ext.trans (Ext.alloc _ _) (Ext.trans (Ext.drew _) hx9)).cells6k HK0.out
          refine hK.out _ _ ?s12 (fun hHeld => ?k12)
          case s12 => ((try dsimp only); (first | with_reducible exact (Ext.drew _).cells6k HK0.out | with_reducible exact hkp9 | with_reducible exact (Ext.alloc _ _).cells6k hkp9 | with_reducible exact (Ext.trans (Ext.alloc _ _) (Ext.drew _)).cells6k HK0.out | with_reducible exact (Ext.trans (Ext.alloc _ _) (Ext.trans (Ext.alloc _ _) (Ext.drew _))).cells6k HK0.out | exact ring_c6s hkp9 (by omega) (by omega) (by omega)))
          clear hK K
          (try simp only [Act.put, List.setIfInBounds_toArray, List.set_cons_zero, List.set_cons_succ, List.getElem_toArray, List.getElem_cons_zero, List.getElem_cons_succ])
          refine wpAnyH_take (i := 12) (v := ?v13) rfl (by kernel_rfl) (by kernel_rfl) (by kernel_rfl) (fun _ _ _ h => h) (Or.inl ⟨by rfl, ?y13⟩) (by assumption) ?r13
          case y13 => intro w hSw; (try dsimp only at hSw); go_simp; (try with_reducible rfl)
          (try simp only [Act.put, List.setIfInBounds_toArray, List.set_cons_zero, List.set_cons_succ, List.getElem_toArray, List.getElem_cons_zero, List.getElem_cons_succ])
          refine wpAnyH_take (i := 13) (v := ?v14) rfl (by kernel_rfl) (by kernel_rfl) (by kernel_rfl) (fun _ _ _ h => h) (Or.inl ⟨by rfl, ?y14⟩) (by assumption) ?r14
          case y14 => intro w hSw; (try dsimp only at hSw); go_simp; (try with_reducible rfl)
          (try simp only [Act.put, List.setIfInBounds_toArray, List.set_cons_zero, List.set_cons_succ, List.getElem_toArray, List.getElem_cons_zero, List.getElem_cons_succ])
          refine wpAnyH_take (i := 14) (v := ?v15) rfl (by kernel_rfl) (by kernel_rfl) (by kernel_rfl) (fun _ _ _ h => h) (Or.inl ⟨by rfl, ?y15⟩) (by assumption) ?r15
          case y15 => intro w hSw; (try dsimp only at hSw); go_simp; (try with_reducible rfl)
          (try simp only [Act.put, List.setIfInBounds_toArray, List.set_cons_zero, List.set_cons_succ, List.getElem_toArray, List.getElem_cons_zero, List.getElem_cons_succ])
          refine wpAnyH_take (i := 15) (v := ?v16) rfl (by kernel_rfl) (by kernel_rfl) (by kernel_rfl) (fun _ _ _ h => h) (Or.inl ⟨by rfl, ?y16⟩) (by assumption) ?r16
          case y16 => intro w hSw; (try dsimp only at hSw); go_simp; (try with_reducible rfl)
          (try simp only [Act.put, List.setIfInBounds_toArray, List.set_cons_zero, List.set_cons_succ, List.getElem_toArray, List.getElem_cons_zero, List.getElem_cons_succ])
          refine wpAnyH_done (by kernel_rfl) ?_ _
          show wpList _ _ _ _ _ _
          have HB3 := Lib.hid (HB2.out.ext (Ext.trans (Ext.alloc _ _) (Ext.trans (Ext.drew _) hx9)))
          clear hx9 hHeld hkp9 HK0 HB2 n0 n1 n2
          go_wp2
          refine NoPanic.normal ?_
          go_upto_region 22 with fail
          obtain ⟨x0, x1⟩ := cells2 HB3.out.k.two
          obtain ⟨y0, y1, y2, y3⟩ := cells4 HB3.out.k.hp
          have n0 := (Array.getElem?_eq_some_iff.1 HB3.out.k.two).1
          have n1 := (Array.getElem?_eq_some_iff.1 HB3.out.k.hp).1
          have n2 := (HB3.out.v.own gw rfl).2
          have hg9 : p < w9.heap.size ∧ g < w9.heap.size ∧ bm < w9.heap.size := HB3.out.k.a.lt
          have HK1 := Lib.hid (show w9.cell? ⟨t0, 0, none⟩ = some (.pointer (some ⟨p, 0, none⟩)) ∧ w9.cell? ⟨t1, 0, none⟩ = some (.int .i64 (heapB 100 (tn : Int)).base) ∧ w9.cell? ⟨t1, 1, none⟩ = some (.int .i64 (heapB 100 (tn : Int)).half) ∧ w9.cell? ⟨t1, 2, none⟩ = some (.int .i64 (heapB 100 (tn : Int)).space) ∧ w9.cell? ⟨t1, 3, none⟩ = some (.int .i64 (heapB 100 (tn : Int)).top) ∧ w9.cell? ⟨gw, s, none⟩ = some (.int .u64 ws1) from ⟨x0, y0, y1, y2, y3, HB3.out.v.cellw (ring_wd_at hsk) HWS.out⟩)
          clear x0 x1 y0 y1 y2 y3
          refine wp_region_noPanic ?_
          refine wp_region_last 19 (S := (fun w' => w'.cell? ⟨t0, 0, none⟩ = some (.pointer (some ⟨p, 0, none⟩)) ∧ w'.cell? ⟨t1, 0, none⟩ = some (.int .i64 (heapB 100 (tn : Int)).base) ∧ w'.cell? ⟨t1, 1, none⟩ = some (.int .i64 (heapB 100 (tn : Int)).half) ∧ w'.cell? ⟨t1, 2, none⟩ = some (.int .i64 (heapB 100 (tn : Int)).space) ∧ w'.cell? ⟨t1, 3, none⟩ = some (.int .i64 (heapB 100 (tn : Int)).top) ∧ w'.cell? ⟨gw, s, none⟩ = some (.int .u64 ws1))) (by kernel_rfl) (by kernel_rfl) _ rfl ?_ (fun hHeld => ?_)
          · (first | with_reducible exact (Ext.drew _).cells6k HK1.out | with_reducible exact hkp10 | with_reducible exact (Ext.alloc _ _).cells6k hkp10 | with_reducible exact (Ext.trans (Ext.alloc _ _) (Ext.drew _)).cells6k HK1.out | with_reducible exact (Ext.trans (Ext.alloc _ _) (Ext.trans (Ext.alloc _ _) (Ext.drew _))).cells6k HK1.out | exact ring_c6s hkp10 (by omega) (by omega) (by omega))
          simp only [List.take_succ_cons, List.take_zero]
          refine wpAnyH_take (i := 0) (v := ?v17) rfl (by kernel_rfl) (by kernel_rfl) (by kernel_rfl) (fun _ _ _ h => h) (Or.inl ⟨by rfl, ?y17⟩) (by assumption) ?r17
          case y17 => intro w hSw; (try dsimp only at hSw); go_simp; (try with_reducible rfl)
          (try simp only [Act.put, List.setIfInBounds_toArray, List.set_cons_zero, List.set_cons_succ, List.getElem_toArray, List.getElem_cons_zero, List.getElem_cons_succ])
          refine wpAnyH_take (i := 1) (v := ?v18) rfl (by kernel_rfl) (by kernel_rfl) (by kernel_rfl) (fun _ _ _ h => h) (Or.inl ⟨by rfl, ?y18⟩) (by assumption) ?r18
          case y18 => intro w hSw; (try dsimp only at hSw); go_simp; (try with_reducible rfl)
          (try simp only [Act.put, List.setIfInBounds_toArray, List.set_cons_zero, List.set_cons_succ, List.getElem_toArray, List.getElem_cons_zero, List.getElem_cons_succ])
          refine wpAnyH_take (i := 2) (v := ?v19) rfl (by kernel_rfl) (by kernel_rfl) (by kernel_rfl) (fun _ _ _ h => h) (Or.inl ⟨by rfl, ?y19⟩) (by assumption) ?r19
          case y19 => intro w hSw; (try dsimp only at hSw); go_simp; (try with_reducible rfl)
          (try simp only [Act.put, List.setIfInBounds_toArray, List.set_cons_zero, List.set_cons_succ, List.getElem_toArray, List.getElem_cons_zero, List.getElem_cons_succ])
          refine wpAnyH_take (i := 3) (v := ?v20) rfl (by kernel_rfl) (by kernel_rfl) (by kernel_rfl) (fun _ _ _ h => h) (Or.inl ⟨by rfl, ?y20⟩) (by assumption) ?r20
          case y20 => intro w hSw; (try dsimp only at hSw); go_simp; (try with_reducible rfl)
          (try simp only [Act.put, List.setIfInBounds_toArray, List.set_cons_zero, List.set_cons_succ, List.getElem_toArray, List.getElem_cons_zero, List.getElem_cons_succ])
          refine wpAnyH_take (i := 4) (v := ?v21) rfl (by kernel_rfl) (by kernel_rfl) (by kernel_rfl) (fun _ _ _ h => h) (Or.inl ⟨by rfl, ?y21⟩) (by assumption) ?r21
          case y21 => intro w hSw; (try dsimp only at hSw); go_simp; (try with_reducible rfl)
          (try simp only [Act.put, List.setIfInBounds_toArray, List.set_cons_zero, List.set_cons_succ, List.getElem_toArray, List.getElem_cons_zero, List.getElem_cons_succ])
          refine wpAnyH_take (i := 5) (v := ?v22) rfl (by kernel_rfl) (by kernel_rfl) (by kernel_rfl) (fun _ _ _ h => h) (Or.inl ⟨by rfl, ?y22⟩) (by assumption) ?r22
          case y22 => intro w hSw; (try dsimp only at hSw); go_simp; (try with_reducible rfl)
          (try simp only [Act.put, List.setIfInBounds_toArray, List.set_cons_zero, List.set_cons_succ, List.getElem_toArray, List.getElem_cons_zero, List.getElem_cons_succ])
          refine wpAnyH_take (i := 6) (v := ?v23) rfl (by kernel_rfl) (by kernel_rfl) (by kernel_rfl) (fun _ _ _ h => h) (Or.inl ⟨by rfl, ?y23⟩) (by assumption) ?r23
          case y23 => intro w hSw; (try dsimp only at hSw); go_simp; (try with_reducible rfl)
          (try simp only [Act.put, List.setIfInBounds_toArray, List.set_cons_zero, List.set_cons_succ, List.getElem_toArray, List.getElem_cons_zero, List.getElem_cons_succ])
          refine wpAnyH_take (i := 7) (v := ?v24) rfl (by kernel_rfl) (by kernel_rfl) (by kernel_rfl) (fun _ _ _ h => h) (Or.inl ⟨by rfl, ?y24⟩) (by assumption) ?r24
          case y24 => intro w hSw; (try dsimp only at hSw); go_simp; (try with_reducible rfl)
          (try simp only [Act.put, List.setIfInBounds_toArray, List.set_cons_zero, List.set_cons_succ, List.getElem_toArray, List.getElem_cons_zero, List.getElem_cons_succ])
          refine wpAnyH_take (i := 8) (v := ?v25) rfl (by kernel_rfl) (by kernel_rfl) (by kernel_rfl) (fun _ _ _ h => h) (Or.inl ⟨by rfl, ?y25⟩) (by assumption) ?r25
          case y25 => intro w hSw; (try dsimp only at hSw); go_simp; (try with_reducible rfl)
          (try simp only [Act.put, List.setIfInBounds_toArray, List.set_cons_zero, List.set_cons_succ, List.getElem_toArray, List.getElem_cons_zero, List.getElem_cons_succ])
          refine wpAnyH_take (i := 9) (v := ?v26) rfl (by kernel_rfl) (by kernel_rfl) (by kernel_rfl) (fun _ _ _ h => h) (Or.inl ⟨by rfl, ?y26⟩) (by assumption) ?r26
          case y26 => intro w hSw; (try dsimp only at hSw); go_simp; (try with_reducible rfl)
          (try simp only [Act.put, List.setIfInBounds_toArray, List.set_cons_zero, List.set_cons_succ, List.getElem_toArray, List.getElem_cons_zero, List.getElem_cons_succ])
          refine wpAnyH_ready (rs := [10, 16]) (by kernel_rfl) (by simp) ?_
          refine AllReadyH.cons rfl (fun K hK => ?_) (AllReadyH.cons rfl (fun K hK => ?_) (AllReadyH.nil))
          · skip
            go_simp
            refine hK.out _ _ ?s27 (fun hHeld => ?k27)
            case s27 => ((try dsimp only); (first | with_reducible exact (Ext.drew _).cells6k HK1.out | with_reducible exact hkp10 | with_reducible exact (Ext.alloc _ _).cells6k hkp10 | with_reducible exact (Ext.trans (Ext.alloc _ _) (Ext.drew _)).cells6k HK1.out | with_reducible exact (Ext.trans (Ext.alloc _ _) (Ext.trans (Ext.alloc _ _) (Ext.drew _))).cells6k HK1.out | exact ring_c6s hkp10 (by omega) (by omega) (by omega)))
            clear hK K
            (try simp only [Act.put, List.setIfInBounds_toArray, List.set_cons_zero, List.set_cons_succ, List.getElem_toArray, List.getElem_cons_zero, List.getElem_cons_succ])
            refine wpAnyH_ready (rs := [11, 16]) (by kernel_rfl) (by simp) ?_
            refine AllReadyH.cons rfl (fun K hK => ?_) (AllReadyH.cons rfl (fun K hK => ?_) (AllReadyH.nil))
            · skip
              go_simp
              refine (ring_coll_is HTN.out HB3.out hk1 hk2 hsk (Ext.trans (Ext.alloc w9 _) (Ext.drew _)) HWS.out (heap_alloc_new w9 _) (Nat.le_refl _)).mono ?_
              rintro e w10 ⟨wsc, qc, cc, rfl, hWc, hAc, hA10, hO10, hT10⟩
              have hT9 : Turn [g] w9 w10 := (Turn.of_ext (Ext.trans (Ext.alloc w9 _) (Ext.drew _))).trans hT10
              have hkp10 := hT9.cells6 HK1.out (by omega) (by omega) (by omega)
              refine hK.out _ _ ?s28 (fun hHeld => ?k28)
              case s28 => ((try dsimp only); (first | with_reducible exact (Ext.drew _).cells6k HK1.out | with_reducible exact hkp10 | with_reducible exact (Ext.alloc _ _).cells6k hkp10 | with_reducible exact (Ext.trans (Ext.alloc _ _) (Ext.drew _)).cells6k HK1.out | with_reducible exact (Ext.trans (Ext.alloc _ _) (Ext.trans (Ext.alloc _ _) (Ext.drew _))).cells6k HK1.out | exact ring_c6s hkp10 (by omega) (by omega) (by omega)))
              clear hK K
              (try simp only [Act.put, List.setIfInBounds_toArray, List.set_cons_zero, List.set_cons_succ, List.getElem_toArray, List.getElem_cons_zero, List.getElem_cons_succ])
              refine wpAnyH_take (i := 12) (v := ?v29) rfl (by kernel_rfl) (by kernel_rfl) (by kernel_rfl) (fun _ _ _ h => h) (Or.inl ⟨by rfl, ?y29⟩) (by assumption) ?r29
              case y29 => intro w hSw; (try dsimp only at hSw); go_simp; (try with_reducible rfl)
              (try simp only [Act.put, List.setIfInBounds_toArray, List.set_cons_zero, List.set_cons_succ, List.getElem_toArray, List.getElem_cons_zero, List.getElem_cons_succ])
              refine wpAnyH_take (i := 13) (v := ?v30) rfl (by kernel_rfl) (by kernel_rfl) (by kernel_rfl) (fun _ _ _ h => h) (Or.inl ⟨by rfl, ?y30⟩) (by assumption) ?r30
              case y30 => intro w hSw; (try dsimp only at hSw); go_simp; (try with_reducible rfl)
              (try simp only [Act.put, List.setIfInBounds_toArray, List.set_cons_zero, List.set_cons_succ, List.getElem_toArray, List.getElem_cons_zero, List.getElem_cons_succ])
              refine wpAnyH_take (i := 14) (v := ?v31) rfl (by kernel_rfl) (by kernel_rfl) (by kernel_rfl) (fun _ _ _ h => h) (Or.inl ⟨by rfl, ?y31⟩) (by assumption) ?r31
              case y31 => intro w hSw; (try dsimp only at hSw); go_simp; (try with_reducible rfl)
              (try simp only [Act.put, List.setIfInBounds_toArray, List.set_cons_zero, List.set_cons_succ, List.getElem_toArray, List.getElem_cons_zero, List.getElem_cons_succ])
              refine wpAnyH_take (i := 15) (v := ?v32) rfl (by kernel_rfl) (by kernel_rfl) (by kernel_rfl) (fun _ _ _ h => h) (Or.inl ⟨by rfl, ?y32⟩) (by assumption) ?r32
              case y32 => intro w hSw; (try dsimp only at hSw); go_simp; (try with_reducible rfl)
              (try simp only [Act.put, List.setIfInBounds_toArray, List.set_cons_zero, List.set_cons_succ, List.getElem_toArray, List.getElem_cons_zero, List.getElem_cons_succ])
              refine wpAnyH_ready (rs := [16]) (by kernel_rfl) (by simp) ?_
              refine AllReadyH.cons rfl (fun K hK => ?_) AllReadyH.nil
              go_simp
              refine hK.out _ _ ?s33 (fun hHeld => ?k33)
              case s33 => ((try dsimp only); (first | with_reducible exact (Ext.drew _).cells6k HK1.out | with_reducible exact hkp10 | with_reducible exact (Ext.alloc _ _).cells6k hkp10 | with_reducible exact (Ext.trans (Ext.alloc _ _) (Ext.drew _)).cells6k HK1.out | with_reducible exact (Ext.trans (Ext.alloc _ _) (Ext.trans (Ext.alloc _ _) (Ext.drew _))).cells6k HK1.out | exact ring_c6s hkp10 (by omega) (by omega) (by omega)))
              clear hK K
              (try simp only [Act.put, List.setIfInBounds_toArray, List.set_cons_zero, List.set_cons_succ, List.getElem_toArray, List.getElem_cons_zero, List.getElem_cons_succ])
              refine wpAnyH_ready (rs := [17]) (by kernel_rfl) (by simp) ?_
              refine AllReadyH.cons rfl (fun K hK => ?_) AllReadyH.nil
              go_simp
              refine hK.out _ _ ?s34 (fun hHeld => ?k34)
              case s34 => ((try dsimp only); (first | with_reducible exact (Ext.drew _).cells6k HK1.out | with_reducible exact hkp10 | with_reducible exact (Ext.alloc _ _).cells6k hkp10 | with_reducible exact (Ext.trans (Ext.alloc _ _) (Ext.drew _)).cells6k HK1.out | with_reducible exact (Ext.trans (Ext.alloc _ _) (Ext.trans (Ext.alloc _ _) (Ext.drew _))).cells6k HK1.out | exact ring_c6s hkp10 (by omega) (by omega) (by omega)))
              clear hK K
              (try simp only [Act.put, List.setIfInBounds_toArray, List.set_cons_zero, List.set_cons_succ, List.getElem_toArray, List.getElem_cons_zero, List.getElem_cons_succ])
              refine wpAnyH_take (i := 18) (v := ?v35) rfl (by kernel_rfl) (by kernel_rfl) (by kernel_rfl) (fun _ _ _ h => h) (Or.inl ⟨by rfl, ?y35⟩) (by assumption) ?r35
              case y35 => intro w hSw; (try dsimp only at hSw); go_simp; (try with_reducible rfl)
              (try simp only [Act.put, List.setIfInBounds_toArray, List.set_cons_zero, List.set_cons_succ, List.getElem_toArray, List.getElem_cons_zero, List.getElem_cons_succ])
              refine wpAnyH_done (by kernel_rfl) ?_ _
              show wpList _ _ _ _ _ _
              first
                | (refine list_gen (fun W => CollEnd w9 W p g bm w10.heap.size wsc tn qc cc) (CollEnd.made hT9 hA10 hO10 (by simp)) fun W11 hE => ?_; generalize hb11 : w10.heap.size = b11 at hE ⊢)
                | (refine list_gen (fun W => CollEnd w9 W p g bm (w9.heap.size + 1) wsc tn qc cc) (CollEnd.fill hT9 hA10 hO10 (by omega) (by simp) (by omega) nb10) fun W11 hE => ?_; generalize hb11 : w9.heap.size + 1 = b11 at hE ⊢)
                | (refine list_gen (fun W => CollEnd w9 W p g bm w9.heap.size wsc tn qc cc) (CollEnd.fill hT9 hA10 hO10 (by omega) (by simp; omega) (by omega) nb10) fun W11 hE => ?_; generalize hb11 : w9.heap.size = b11 at hE ⊢)
              have HE := Lib.hid hE
              have HWc := Lib.hid hWc; have HAc := Lib.hid hAc
              clear hE hb11 hWc hAc hA10 hO10 hT10 hT9 hkp10 hHeld
              go_wp2
              refine NoPanic.normal ?_
              have K4 := Lib.hid (HB3.out.k.coll HE.out n1 (by have := HT0.out; omega))
              have RO := Lib.hid HE.out.ro
              have hro1 : t1 < w9.heap.size := n1
              have HRO1 := Lib.hid hro1
              clear HE HB3 HK1 n0 n1 n2 hs1 hs2 j9
              obtain ⟨x0, x1⟩ := cells2 K4.out.two
              obtain ⟨z0, z1, z2, z3⟩ := cells4 K4.out.hp
              have y0 : W11.cell? ⟨b11, 0, none⟩ = some (.int .i64 3) := z0
              have y1 : W11.cell? ⟨b11, 1, none⟩ = some (.int .i64 100) := z1
              have y2 : W11.cell? ⟨b11, 2, none⟩ = some (.int .i64 1) := z2
              have y3 : W11.cell? ⟨b11, 3, none⟩ = some (.int .i64 (tn : Int)) := z3
              clear z0 z1 z2 z3
              obtain ⟨gr, rfl, hgr, hcr, -⟩ := RO.out.cell (i := 0) (f := 0) (cs := wordC 200) (u := .int .u64 200) rfl rfl
              simp only [Nat.zero_mul, Nat.add_zero] at hcr
              have e1 : 3 * (j : Int) = (tn : Int) := by have := HTN.out; omega
              go_wp2_with fail
              clear e1 x0 x1 y0 y1 y2 y3 hcr
              go_loopw [23, 24] (fun wv iv wx => ∃ (a : Nat) (x : Int), a ≤ j ∧ x = ((2 * (100 + 3 * (a % j)) : Nat) : Int) ∧ iv = .int .i64 a ∧ wv = .int .u64 x ∧ Wk w1 wx p g bm t0 b11 q 210 wsc (rigR 200) (ringT tn) ∧ OwnP wx w9.heap.size 44 (.slice (some ⟨gr, 0, none⟩) 1 cc) 1 [wordC 200]) (fun _ v _ => j - (Go.RowKit.intOf v).toNat)
              case atStart => exact ⟨0, 200, by omega, by rw [Nat.zero_mod]; rfl, rfl, rfl, K4.out, RO.out⟩
              case round =>
                obtain ⟨a, x, ha, hx, rfl, rfl, hk5, hro5⟩ := hrel
                have K5 := Lib.hid hk5; have RO5 := Lib.hid hro5; have HX := Lib.hid hx
                clear hk5 hro5 hx K4 RO
                by_cases hlt : a < j
                · obtain ⟨r, hr⟩ : ∃ r, r = (s + a) % j := ⟨_, rfl⟩
                  have hr1 : ((s : Int) + (a : Int)) % (j : Int) = (r : Int) := by rw [hr, Int.natCast_emod, Int.natCast_add]
                  have hrj : r < j := by rw [hr]; exact Nat.mod_lt _ (by omega)
                  have hs1 : more % (j : Int) = (s : Int) := HS.out
                  have HGT := Lib.hid (ring_get_is K5.out HTN.out HWc.out HAc.out hlt hk2 (x := x) (by rw [HX.out, Nat.mod_eq_of_lt hlt]) hr)
                  clear hr
                  obtain ⟨x0, x1⟩ := cells2 K5.out.two
                  obtain ⟨z0, z1, z2, z3⟩ := cells4 K5.out.hp
                  have y0 : wr.cell? ⟨b11, 0, none⟩ = some (.int .i64 3) := z0
                  have y1 : wr.cell? ⟨b11, 1, none⟩ = some (.int .i64 100) := z1
                  have y2 : wr.cell? ⟨b11, 2, none⟩ = some (.int .i64 1) := z2
                  have y3 : wr.cell? ⟨b11, 3, none⟩ = some (.int .i64 (tn : Int)) := z3
                  clear z0 z1 z2 z3
                  go_wp2_with fail
                  refine HGT.out.mono ?_
                  rintro e w12 ⟨qg, cg, f, rfl, hf, hog, hxg⟩
                  have HF := Lib.hid hf; have HOG := Lib.hid hog
                  have K6 := Lib.hid (K5.out.ext hxg); have RO6 := Lib.hid (RO5.out.ext hxg)
                  clear hf hog hxg K5 RO5 HGT x0 x1 y0 y1 y2 y3
                  go_upto_region 30 with fail
                  refine wp_alloc1 fun W13 hE13 hS13 b13 => ?_
                  have K7 := Lib.hid (K6.out.ext hE13); have RO7 := Lib.hid (RO6.out.ext hE13); have HOG7 := Lib.hid (HOG.out.ext hE13)
                  obtain ⟨v0, v1, v2, v3⟩ := cells4 b13
                  clear hE13 hS13 b13 K6 RO6 HOG
                  obtain ⟨gg, rfl, -, hc0, -⟩ := HOG7.out.cell (i := 0) (f := 0) (cs := wordC f) (u := .int .u64 f) rfl rfl
                  obtain ⟨gg', e9, -, hc1, -⟩ := HOG7.out.cell (i := 1) (f := 0) (cs := wordC (2 * (r : Int) + 1)) (u := .int .u64 (2 * (r : Int) + 1)) rfl rfl
                  obtain rfl : gg' = gg := by
                    obtain ⟨rfl, _⟩ := Addr.mk.inj (Option.some.inj e9)
                    rfl
                  clear e9
                  simp only [Nat.zero_mul, Nat.add_zero, Nat.one_mul] at hc0 hc1
                  go_wp2
                  exact ⟨⟨a + 1, f, by omega, HF.out, by go_num, rfl, K7.out, RO7.out⟩, by simp [Go.RowKit.intOf]; omega⟩
                · obtain rfl : a = j := by omega
                  have HX2 := HX.out
                  rw [Nat.mod_self] at HX2
                  obtain rfl : x = 200 := HX2
                  clear hlt ha
                  obtain ⟨x0, x1⟩ := cells2 K5.out.two
                  obtain ⟨z0, z1, z2, z3⟩ := cells4 K5.out.hp
                  have y0 : wr.cell? ⟨b11, 0, none⟩ = some (.int .i64 3) := z0
                  have y1 : wr.cell? ⟨b11, 1, none⟩ = some (.int .i64 100) := z1
                  have y2 : wr.cell? ⟨b11, 2, none⟩ = some (.int .i64 1) := z2
                  have y3 : wr.cell? ⟨b11, 3, none⟩ = some (.int .i64 (tn : Int)) := z3
                  clear z0 z1 z2 z3
                  go_wp2_with fail
                  refine (ring_coll0_is K5.out HTN.out HWc.out HAc.out).mono ?_
                  rintro e w12 ⟨ws9, qn, cn, rfl, hA12, hT12⟩
                  have K6 := Lib.hid (K5.out.put hA12 hT12); have RO6 := Lib.hid (ringlow RO5.out hT12 (by intro b hb; rw [List.mem_singleton.1 hb]; omega))
                  clear hA12 hT12 K5 RO5 x0 x1 y0 y1 y2 y3
                  go_upto_region 35 with fail
                  refine wp_alloc1 fun W13 hE13 hS13 b13 => ?_
                  have K7 := Lib.hid (K6.out.ext hE13); have RO7 := Lib.hid (RO6.out.ext hE13)
                  obtain ⟨v0, v1, v2, v3⟩ := cells4 b13
                  have hcr := RO7.out.cellw (l := [200]) (i := 0) rfl rfl
                  clear hE13 hS13 b13 K6 RO6
                  go_wp2_with fail
                  refine (wakes4 _).mono ?_
                  rintro e w14 ⟨rfl, hx14⟩
                  have K8 := Lib.hid (K7.out.ext hx14)
                  clear hx14 K7 RO7 v0 v1 v2 v3 hcr
                  go_wp2
                  go_ret
                  exact ⟨rfl, K8.out.done HX1.out HGE.out (by have := K8.out.lt; have := HT0.out; omega)⟩
            · skip
              go_simp
              refine hK.out _ _ ?s36 (fun hHeld => ?k36)
              case s36 => ((try dsimp only); (first | with_reducible exact (Ext.drew _).cells6k HK1.out | with_reducible exact hkp10 | with_reducible exact (Ext.alloc _ _).cells6k hkp10 | with_reducible exact (Ext.trans (Ext.alloc _ _) (Ext.drew _)).cells6k HK1.out | with_reducible exact (Ext.trans (Ext.alloc _ _) (Ext.trans (Ext.alloc _ _) (Ext.drew _))).cells6k HK1.out | exact ring_c6s hkp10 (by omega) (by omega) (by omega)))
              clear hK K
              (try simp only [Act.put, List.setIfInBounds_toArray, List.set_cons_zero, List.set_cons_succ, List.getElem_toArray, List.getElem_cons_zero, List.getElem_cons_succ])
              refine wpAnyH_ready (rs := [11]) (by kernel_rfl) (by simp) ?_
              refine AllReadyH.cons rfl (fun K hK => ?_) AllReadyH.nil
              go_simp
              refine (ring_coll_is HTN.out HB3.out hk1 hk2 hsk (Ext.trans (Ext.alloc w9 _) (Ext.trans (Ext.alloc _ _) (Ext.drew _))) HWS.out (blocks2 w9 _ _).2.2.1 (Nat.le_refl _)).mono ?_
              rintro e w10 ⟨wsc, qc, cc, rfl, hWc, hAc, hA10, hO10, hT10⟩
              have hT9 : Turn [g] w9 w10 := (Turn.of_ext (Ext.trans (Ext.alloc w9 _) (Ext.trans (Ext.alloc _ _) (Ext.drew _)))).trans hT10
              have hkp10 := hT9.cells6 HK1.out (by omega) (by omega) (by omega)
              have nb10 : w10.heap[w9.heap.size + 1]? = some (Obj.cells #[.int .i64 0, .int .i64 0, .int .i64 0, .int .i64 0] 24 (0, 0)) := hT10.keep (blocks2 w9 _ _).2.2.2 (by omega)
              obtain ⟨k0, k1, k2, k3⟩ := cells4 nb10
              have kf0 := free_at nb10 (i := 0)
              have kf1 := free_at nb10 (i := 1)
              have kf2 := free_at nb10 (i := 2)
              have kf3 := free_at nb10 (i := 3)
              refine hK.out _ _ ?s37 (fun hHeld => ?k37)
              case s37 => ((try dsimp only); (first | with_reducible exact (Ext.drew _).cells6k HK1.out | with_reducible exact hkp10 | with_reducible exact (Ext.alloc _ _).cells6k hkp10 | with_reducible exact (Ext.trans (Ext.alloc _ _) (Ext.drew _)).cells6k HK1.out | with_reducible exact (Ext.trans (Ext.alloc _ _) (Ext.trans (Ext.alloc _ _) (Ext.drew _))).cells6k HK1.out | exact ring_c6s hkp10 (by omega) (by omega) (by omega)))
              clear hK K
              (try simp only [Act.put, List.setIfInBounds_toArray, List.set_cons_zero, List.set_cons_succ, List.getElem_toArray, List.getElem_cons_zero, List.getElem_cons_succ])
              refine wpAnyH_take (i := 12) (v := ?v38) rfl (by kernel_rfl) (by kernel_rfl) (by kernel_rfl) (fun _ _ _ h => h) (Or.inl ⟨by rfl, ?y38⟩) (by assumption) ?r38
              case y38 => intro w hSw; (try dsimp only at hSw); go_simp; (try with_reducible rfl)
              (try simp only [Act.put, List.setIfInBounds_toArray, List.set_cons_zero, List.set_cons_succ, List.getElem_toArray, List.getElem_cons_zero, List.getElem_cons_succ])
              refine wpAnyH_take (i := 13) (v := ?v39) rfl (by kernel_rfl) (by kernel_rfl) (by kernel_rfl) (fun _ _ _ h => h) (Or.inl ⟨by rfl, ?y39⟩) (by assumption) ?r39
              case y39 => intro w hSw; (try dsimp only at hSw); go_simp; (try with_reducible rfl)
              (try simp only [Act.put, List.setIfInBounds_toArray, List.set_cons_zero, List.set_cons_succ, List.getElem_toArray, List.getElem_cons_zero, List.getElem_cons_succ])
              refine wpAnyH_take (i := 14) (v := ?v40) rfl (by kernel_rfl) (by kernel_rfl) (by kernel_rfl) (fun _ _ _ h => h) (Or.inl ⟨by rfl, ?y40⟩) (by assumption) ?r40
              case y40 => intro w hSw; (try dsimp only at hSw); go_simp; (try with_reducible rfl)
              (try simp only [Act.put, List.setIfInBounds_toArray, List.set_cons_zero, List.set_cons_succ, List.getElem_toArray, List.getElem_cons_zero, List.getElem_cons_succ])
              refine wpAnyH_take (i := 15) (v := ?v41) rfl (by kernel_rfl) (by kernel_rfl) (by kernel_rfl) (fun _ _ _ h => h) (Or.inl ⟨by rfl, ?y41⟩) (by assumption) ?r41
              case y41 => intro w hSw; (try dsimp only at hSw); go_simp; (try with_reducible rfl)
              (try simp only [Act.put, List.setIfInBounds_toArray, List.set_cons_zero, List.set_cons_succ, List.getElem_toArray, List.getElem_cons_zero, List.getElem_cons_succ])
              refine wpAnyH_ready (rs := [17]) (by kernel_rfl) (by simp) ?_
              refine AllReadyH.cons rfl (fun K hK => ?_) AllReadyH.nil
              go_simp
              refine hK.out _ _ ?s42 (fun hHeld => ?k42)
              case s42 => ((try dsimp only); (first | with_reducible exact (Ext.drew _).cells6k HK1.out | with_reducible exact hkp10 | with_reducible exact (Ext.alloc _ _).cells6k hkp10 | with_reducible exact (Ext.trans (Ext.alloc _ _) (Ext.drew _)).cells6k HK1.out | with_reducible exact (Ext.trans (Ext.alloc _ _) (Ext.trans (Ext.alloc _ _) (Ext.drew _))).cells6k HK1.out | exact ring_c6s hkp10 (by omega) (by omega) (by omega)))
              clear hK K
              (try simp only [Act.put, List.setIfInBounds_toArray, List.set_cons_zero, List.set_cons_succ, List.getElem_toArray, List.getElem_cons_zero, List.getElem_cons_succ])
              refine wpAnyH_take (i := 18) (v := ?v43) rfl (by kernel_rfl) (by kernel_rfl) (by kernel_rfl) (fun _ _ _ h => h) (Or.inl ⟨by rfl, ?y43⟩) (by assumption) ?r43
              case y43 => intro w hSw; (try dsimp only at hSw); go_simp; (try with_reducible rfl)
              (try simp only [Act.put, List.setIfInBounds_toArray, List.set_cons_zero, List.set_cons_succ, List.getElem_toArray, List.getElem_cons_zero, List.getElem_cons_succ])
              refine wpAnyH_done (by kernel_rfl) ?_ _
              show wpList _ _ _ _ _ _
              first
                | (refine list_gen (fun W => CollEnd w9 W p g bm w10.heap.size wsc tn qc cc) (CollEnd.made hT9 hA10 hO10 (by simp)) fun W11 hE => ?_; generalize hb11 : w10.heap.size = b11 at hE ⊢)
                | (refine list_gen (fun W => CollEnd w9 W p g bm (w9.heap.size + 1) wsc tn qc cc) (CollEnd.fill hT9 hA10 hO10 (by omega) (by simp) (by omega) nb10) fun W11 hE => ?_; generalize hb11 : w9.heap.size + 1 = b11 at hE ⊢)
                | (refine list_gen (fun W => CollEnd w9 W p g bm w9.heap.size wsc tn qc cc) (CollEnd.fill hT9 hA10 hO10 (by omega) (by simp; omega) (by omega) nb10) fun W11 hE => ?_; generalize hb11 : w9.heap.size = b11 at hE ⊢)
              have HE := Lib.hid hE
              have HWc := Lib.hid hWc; have HAc := Lib.hid hAc
              clear hE hb11 hWc hAc hA10 hO10 hT10 hT9 hkp10 hHeld
              go_wp2
              refine NoPanic.normal ?_
              have K4 := Lib.hid (HB3.out.k.coll HE.out n1 (by have := HT0.out; omega))
              have RO := Lib.hid HE.out.ro
              have hro1 : t1 < w9.heap.size := n1
              have HRO1 := Lib.hid hro1
              clear HE HB3 HK1 n0 n1 n2 hs1 hs2 j9
              obtain ⟨x0, x1⟩ := cells2 K4.out.two
              obtain ⟨z0, z1, z2, z3⟩ := cells4 K4.out.hp
              have y0 : W11.cell? ⟨b11, 0, none⟩ = some (.int .i64 3) := z0
              have y1 : W11.cell? ⟨b11, 1, none⟩ = some (.int .i64 100) := z1
              have y2 : W11.cell? ⟨b11, 2, none⟩ = some (.int .i64 1) := z2
              have y3 : W11.cell? ⟨b11, 3, none⟩ = some (.int .i64 (tn : Int)) := z3
              clear z0 z1 z2 z3
              obtain ⟨gr, rfl, hgr, hcr, -⟩ := RO.out.cell (i := 0) (f := 0) (cs := wordC 200) (u := .int .u64 200) rfl rfl
              simp only [Nat.zero_mul, Nat.add_zero] at hcr
              have e1 : 3 * (j : Int) = (tn : Int) := by have := HTN.out; omega
              go_wp2_with fail
              clear e1 x0 x1 y0 y1 y2 y3 hcr
              go_loopw [23, 24] (fun wv iv wx => ∃ (a : Nat) (x : Int), a ≤ j ∧ x = ((2 * (100 + 3 * (a % j)) : Nat) : Int) ∧ iv = .int .i64 a ∧ wv = .int .u64 x ∧ Wk w1 wx p g bm t0 b11 q 210 wsc (rigR 200) (ringT tn) ∧ OwnP wx w9.heap.size 44 (.slice (some ⟨gr, 0, none⟩) 1 cc) 1 [wordC 200]) (fun _ v _ => j - (Go.RowKit.intOf v).toNat)
              case atStart => exact ⟨0, 200, by omega, by rw [Nat.zero_mod]; rfl, rfl, rfl, K4.out, RO.out⟩
              case round =>
                obtain ⟨a, x, ha, hx, rfl, rfl, hk5, hro5⟩ := hrel
                have K5 := Lib.hid hk5; have RO5 := Lib.hid hro5; have HX := Lib.hid hx
                clear hk5 hro5 hx K4 RO
                by_cases hlt : a < j
                · obtain ⟨r, hr⟩ : ∃ r, r = (s + a) % j := ⟨_, rfl⟩
                  have hr1 : ((s : Int) + (a : Int)) % (j : Int) = (r : Int) := by rw [hr, Int.natCast_emod, Int.natCast_add]
                  have hrj : r < j := by rw [hr]; exact Nat.mod_lt _ (by omega)
                  have hs1 : more % (j : Int) = (s : Int) := HS.out
                  have HGT := Lib.hid (ring_get_is K5.out HTN.out HWc.out HAc.out hlt hk2 (x := x) (by rw [HX.out, Nat.mod_eq_of_lt hlt]) hr)
                  clear hr
                  obtain ⟨x0, x1⟩ := cells2 K5.out.two
                  obtain ⟨z0, z1, z2, z3⟩ := cells4 K5.out.hp
                  have y0 : wr.cell? ⟨b11, 0, none⟩ = some (.int .i64 3) := z0
                  have y1 : wr.cell? ⟨b11, 1, none⟩ = some (.int .i64 100) := z1
                  have y2 : wr.cell? ⟨b11, 2, none⟩ = some (.int .i64 1) := z2
                  have y3 : wr.cell? ⟨b11, 3, none⟩ = some (.int .i64 (tn : Int)) := z3
                  clear z0 z1 z2 z3
                  go_wp2_with fail
                  refine HGT.out.mono ?_
                  rintro e w12 ⟨qg, cg, f, rfl, hf, hog, hxg⟩
                  have HF := Lib.hid hf; have HOG := Lib.hid hog
                  have K6 := Lib.hid (K5.out.ext hxg); have RO6 := Lib.hid (RO5.out.ext hxg)
                  clear hf hog hxg K5 RO5 HGT x0 x1 y0 y1 y2 y3
                  go_upto_region 30 with fail
                  refine wp_alloc1 fun W13 hE13 hS13 b13 => ?_
                  have K7 := Lib.hid (K6.out.ext hE13); have RO7 := Lib.hid (RO6.out.ext hE13); have HOG7 := Lib.hid (HOG.out.ext hE13)
                  obtain ⟨v0, v1, v2, v3⟩ := cells4 b13
                  clear hE13 hS13 b13 K6 RO6 HOG
                  obtain ⟨gg, rfl, -, hc0, -⟩ := HOG7.out.cell (i := 0) (f := 0) (cs := wordC f) (u := .int .u64 f) rfl rfl
                  obtain ⟨gg', e9, -, hc1, -⟩ := HOG7.out.cell (i := 1) (f := 0) (cs := wordC (2 * (r : Int) + 1)) (u := .int .u64 (2 * (r : Int) + 1)) rfl rfl
                  obtain rfl : gg' = gg := by
                    obtain ⟨rfl, _⟩ := Addr.mk.inj (Option.some.inj e9)
                    rfl
                  clear e9
                  simp only [Nat.zero_mul, Nat.add_zero, Nat.one_mul] at hc0 hc1
                  go_wp2
                  exact ⟨⟨a + 1, f, by omega, HF.out, by go_num, rfl, K7.out, RO7.out⟩, by simp [Go.RowKit.intOf]; omega⟩
                · obtain rfl : a = j := by omega
                  have HX2 := HX.out
                  rw [Nat.mod_self] at HX2
                  obtain rfl : x = 200 := HX2
                  clear hlt ha
                  obtain ⟨x0, x1⟩ := cells2 K5.out.two
                  obtain ⟨z0, z1, z2, z3⟩ := cells4 K5.out.hp
                  have y0 : wr.cell? ⟨b11, 0, none⟩ = some (.int .i64 3) := z0
                  have y1 : wr.cell? ⟨b11, 1, none⟩ = some (.int .i64 100) := z1
                  have y2 : wr.cell? ⟨b11, 2, none⟩ = some (.int .i64 1) := z2
                  have y3 : wr.cell? ⟨b11, 3, none⟩ = some (.int .i64 (tn : Int)) := z3
                  clear z0 z1 z2 z3
                  go_wp2_with fail
                  refine (ring_coll0_is K5.out HTN.out HWc.out HAc.out).mono ?_
                  rintro e w12 ⟨ws9, qn, cn, rfl, hA12, hT12⟩
                  have K6 := Lib.hid (K5.out.put hA12 hT12); have RO6 := Lib.hid (ringlow RO5.out hT12 (by intro b hb; rw [List.mem_singleton.1 hb]; omega))
                  clear hA12 hT12 K5 RO5 x0 x1 y0 y1 y2 y3
                  go_upto_region 35 with fail
                  refine wp_alloc1 fun W13 hE13 hS13 b13 => ?_
                  have K7 := Lib.hid (K6.out.ext hE13); have RO7 := Lib.hid (RO6.out.ext hE13)
                  obtain ⟨v0, v1, v2, v3⟩ := cells4 b13
                  have hcr := RO7.out.cellw (l := [200]) (i := 0) rfl rfl
                  clear hE13 hS13 b13 K6 RO6
                  go_wp2_with fail
                  refine (wakes4 _).mono ?_
                  rintro e w14 ⟨rfl, hx14⟩
                  have K8 := Lib.hid (K7.out.ext hx14)
                  clear hx14 K7 RO7 v0 v1 v2 v3 hcr
                  go_wp2
                  go_ret
                  exact ⟨rfl, K8.out.done HX1.out HGE.out (by have := K8.out.lt; have := HT0.out; omega)⟩
          · skip
            go_simp
            refine hK.out _ _ ?s44 (fun hHeld => ?k44)
            case s44 => ((try dsimp only); (first | with_reducible exact (Ext.drew _).cells6k HK1.out | with_reducible exact hkp10 | with_reducible exact (Ext.alloc _ _).cells6k hkp10 | with_reducible exact (Ext.trans (Ext.alloc _ _) (Ext.drew _)).cells6k HK1.out | with_reducible exact (Ext.trans (Ext.alloc _ _) (Ext.trans (Ext.alloc _ _) (Ext.drew _))).cells6k HK1.out | exact ring_c6s hkp10 (by omega) (by omega) (by omega)))
            clear hK K
            (try simp only [Act.put, List.setIfInBounds_toArray, List.set_cons_zero, List.set_cons_succ, List.getElem_toArray, List.getElem_cons_zero, List.getElem_cons_succ])
            refine wpAnyH_ready (rs := [10]) (by kernel_rfl) (by simp) ?_
            refine AllReadyH.cons rfl (fun K hK => ?_) AllReadyH.nil
            go_simp
            refine hK.out _ _ ?s45 (fun hHeld => ?k45)
            case s45 => ((try dsimp only); (first | with_reducible exact (Ext.drew _).cells6k HK1.out | with_reducible exact hkp10 | with_reducible exact (Ext.alloc _ _).cells6k hkp10 | with_reducible exact (Ext.trans (Ext.alloc _ _) (Ext.drew _)).cells6k HK1.out | with_reducible exact (Ext.trans (Ext.alloc _ _) (Ext.trans (Ext.alloc _ _) (Ext.drew _))).cells6k HK1.out | exact ring_c6s hkp10 (by omega) (by omega) (by omega)))
            clear hK K
            (try simp only [Act.put, List.setIfInBounds_toArray, List.set_cons_zero, List.set_cons_succ, List.getElem_toArray, List.getElem_cons_zero, List.getElem_cons_succ])
            refine wpAnyH_ready (rs := [11]) (by kernel_rfl) (by simp) ?_
            refine AllReadyH.cons rfl (fun K hK => ?_) AllReadyH.nil
            go_simp
            refine (ring_coll_is HTN.out HB3.out hk1 hk2 hsk (Ext.trans (Ext.alloc w9 _) (Ext.trans (Ext.alloc _ _) (Ext.drew _))) HWS.out (blocks2 w9 _ _).2.2.2 (Nat.le_succ _)).mono ?_
            rintro e w10 ⟨wsc, qc, cc, rfl, hWc, hAc, hA10, hO10, hT10⟩
            have hT9 : Turn [g] w9 w10 := (Turn.of_ext (Ext.trans (Ext.alloc w9 _) (Ext.trans (Ext.alloc _ _) (Ext.drew _)))).trans hT10
            have hkp10 := hT9.cells6 HK1.out (by omega) (by omega) (by omega)
            have nb10 : w10.heap[w9.heap.size]? = some (Obj.cells #[.int .i64 0, .int .i64 0, .int .i64 0, .int .i64 0] 24 (0, 0)) := hT10.keep (blocks2 w9 _ _).2.2.1 (by omega)
            obtain ⟨k0, k1, k2, k3⟩ := cells4 nb10
            have kf0 := free_at nb10 (i := 0)
            have kf1 := free_at nb10 (i := 1)
            have kf2 := free_at nb10 (i := 2)
            have kf3 := free_at nb10 (i := 3)
            refine hK.out _ _ ?s46 (fun hHeld => ?k46)
            case s46 => ((try dsimp only); (first | with_reducible exact (Ext.drew _).cells6k HK1.out | with_reducible exact hkp10 | with_reducible exact (Ext.alloc _ _).cells6k hkp10 | with_reducible exact (Ext.trans (Ext.alloc _ _) (Ext.drew _)).cells6k HK1.out | with_reducible exact (Ext.trans (Ext.alloc _ _) (Ext.trans (Ext.alloc _ _) (Ext.drew _))).cells6k HK1.out | exact ring_c6s hkp10 (by omega) (by omega) (by omega)))
            clear hK K
            (try simp only [Act.put, List.setIfInBounds_toArray, List.set_cons_zero, List.set_cons_succ, List.getElem_toArray, List.getElem_cons_zero, List.getElem_cons_succ])
            refine wpAnyH_take (i := 12) (v := ?v47) rfl (by kernel_rfl) (by kernel_rfl) (by kernel_rfl) (fun _ _ _ h => h) (Or.inl ⟨by rfl, ?y47⟩) (by assumption) ?r47
            case y47 => intro w hSw; (try dsimp only at hSw); go_simp; (try with_reducible rfl)
            (try simp only [Act.put, List.setIfInBounds_toArray, List.set_cons_zero, List.set_cons_succ, List.getElem_toArray, List.getElem_cons_zero, List.getElem_cons_succ])
            refine wpAnyH_take (i := 13) (v := ?v48) rfl (by kernel_rfl) (by kernel_rfl) (by kernel_rfl) (fun _ _ _ h => h) (Or.inl ⟨by rfl, ?y48⟩) (by assumption) ?r48
            case y48 => intro w hSw; (try dsimp only at hSw); go_simp; (try with_reducible rfl)
            (try simp only [Act.put, List.setIfInBounds_toArray, List.set_cons_zero, List.set_cons_succ, List.getElem_toArray, List.getElem_cons_zero, List.getElem_cons_succ])
            refine wpAnyH_take (i := 14) (v := ?v49) rfl (by kernel_rfl) (by kernel_rfl) (by kernel_rfl) (fun _ _ _ h => h) (Or.inl ⟨by rfl, ?y49⟩) (by assumption) ?r49
            case y49 => intro w hSw; (try dsimp only at hSw); go_simp; (try with_reducible rfl)
            (try simp only [Act.put, List.setIfInBounds_toArray, List.set_cons_zero, List.set_cons_succ, List.getElem_toArray, List.getElem_cons_zero, List.getElem_cons_succ])
            refine wpAnyH_take (i := 15) (v := ?v50) rfl (by kernel_rfl) (by kernel_rfl) (by kernel_rfl) (fun _ _ _ h => h) (Or.inl ⟨by rfl, ?y50⟩) (by assumption) ?r50
            case y50 => intro w hSw; (try dsimp only at hSw); go_simp; (try with_reducible rfl)
            (try simp only [Act.put, List.setIfInBounds_toArray, List.set_cons_zero, List.set_cons_succ, List.getElem_toArray, List.getElem_cons_zero, List.getElem_cons_succ])
            refine wpAnyH_ready (rs := [17]) (by kernel_rfl) (by simp) ?_
            refine AllReadyH.cons rfl (fun K hK => ?_) AllReadyH.nil
            go_simp
            refine hK.out _ _ ?s51 (fun hHeld => ?k51)
            case s51 => ((try dsimp only); (first | with_reducible exact (Ext.drew _).cells6k HK1.out | with_reducible exact hkp10 | with_reducible exact (Ext.alloc _ _).cells6k hkp10 | with_reducible exact (Ext.trans (Ext.alloc _ _) (Ext.drew _)).cells6k HK1.out | with_reducible exact (Ext.trans (Ext.alloc _ _) (Ext.trans (Ext.alloc _ _) (Ext.drew _))).cells6k HK1.out | exact ring_c6s hkp10 (by omega) (by omega) (by omega)))
            clear hK K
            (try simp only [Act.put, List.setIfInBounds_toArray, List.set_cons_zero, List.set_cons_succ, List.getElem_toArray, List.getElem_cons_zero, List.getElem_cons_succ])
            refine wpAnyH_take (i := 18) (v := ?v52) rfl (by kernel_rfl) (by kernel_rfl) (by kernel_rfl) (fun _ _ _ h => h) (Or.inl ⟨by rfl, ?y52⟩) (by assumption) ?r52
            case y52 => intro w hSw; (try dsimp only at hSw); go_simp; (try with_reducible rfl)
            (try simp only [Act.put, List.setIfInBounds_toArray, List.set_cons_zero, List.set_cons_succ, List.getElem_toArray, List.getElem_cons_zero, List.getElem_cons_succ])
            refine wpAnyH_done (by kernel_rfl) ?_ _
            show wpList _ _ _ _ _ _
            first
              | (refine list_gen (fun W => CollEnd w9 W p g bm w10.heap.size wsc tn qc cc) (CollEnd.made hT9 hA10 hO10 (by simp)) fun W11 hE => ?_; generalize hb11 : w10.heap.size = b11 at hE ⊢)
              | (refine list_gen (fun W => CollEnd w9 W p g bm (w9.heap.size + 1) wsc tn qc cc) (CollEnd.fill hT9 hA10 hO10 (by omega) (by simp) (by omega) nb10) fun W11 hE => ?_; generalize hb11 : w9.heap.size + 1 = b11 at hE ⊢)
              | (refine list_gen (fun W => CollEnd w9 W p g bm w9.heap.size wsc tn qc cc) (CollEnd.fill hT9 hA10 hO10 (by omega) (by simp; omega) (by omega) nb10) fun W11 hE => ?_; generalize hb11 : w9.heap.size = b11 at hE ⊢)
            have HE := Lib.hid hE
            have HWc := Lib.hid hWc; have HAc := Lib.hid hAc
            clear hE hb11 hWc hAc hA10 hO10 hT10 hT9 hkp10 hHeld
            go_wp2
            refine NoPanic.normal ?_
            have K4 := Lib.hid (HB3.out.k.coll HE.out n1 (by have := HT0.out; omega))
            have RO := Lib.hid HE.out.ro
            have hro1 : t1 < w9.heap.size := n1
            have HRO1 := Lib.hid hro1
            clear HE HB3 HK1 n0 n1 n2 hs1 hs2 j9
            obtain ⟨x0, x1⟩ := cells2 K4.out.two
            obtain ⟨z0, z1, z2, z3⟩ := cells4 K4.out.hp
            have y0 : W11.cell? ⟨b11, 0, none⟩ = some (.int .i64 3) := z0
            have y1 : W11.cell? ⟨b11, 1, none⟩ = some (.int .i64 100) := z1
            have y2 : W11.cell? ⟨b11, 2, none⟩ = some (.int .i64 1) := z2
            have y3 : W11.cell? ⟨b11, 3, none⟩ = some (.int .i64 (tn : Int)) := z3
            clear z0 z1 z2 z3
            obtain ⟨gr, rfl, hgr, hcr, -⟩ := RO.out.cell (i := 0) (f := 0) (cs := wordC 200) (u := .int .u64 200) rfl rfl
            simp only [Nat.zero_mul, Nat.add_zero] at hcr
            have e1 : 3 * (j : Int) = (tn : Int) := by have := HTN.out; omega
            go_wp2_with fail
            clear e1 x0 x1 y0 y1 y2 y3 hcr
            go_loopw [23, 24] (fun wv iv wx => ∃ (a : Nat) (x : Int), a ≤ j ∧ x = ((2 * (100 + 3 * (a % j)) : Nat) : Int) ∧ iv = .int .i64 a ∧ wv = .int .u64 x ∧ Wk w1 wx p g bm t0 b11 q 210 wsc (rigR 200) (ringT tn) ∧ OwnP wx w9.heap.size 44 (.slice (some ⟨gr, 0, none⟩) 1 cc) 1 [wordC 200]) (fun _ v _ => j - (Go.RowKit.intOf v).toNat)
            case atStart => exact ⟨0, 200, by omega, by rw [Nat.zero_mod]; rfl, rfl, rfl, K4.out, RO.out⟩
            case round =>
              obtain ⟨a, x, ha, hx, rfl, rfl, hk5, hro5⟩ := hrel
              have K5 := Lib.hid hk5; have RO5 := Lib.hid hro5; have HX := Lib.hid hx
              clear hk5 hro5 hx K4 RO
              by_cases hlt : a < j
              · obtain ⟨r, hr⟩ : ∃ r, r = (s + a) % j := ⟨_, rfl⟩
                have hr1 : ((s : Int) + (a : Int)) % (j : Int) = (r : Int) := by rw [hr, Int.natCast_emod, Int.natCast_add]
                have hrj : r < j := by rw [hr]; exact Nat.mod_lt _ (by omega)
                have hs1 : more % (j : Int) = (s : Int) := HS.out
                have HGT := Lib.hid (ring_get_is K5.out HTN.out HWc.out HAc.out hlt hk2 (x := x) (by rw [HX.out, Nat.mod_eq_of_lt hlt]) hr)
                clear hr
                obtain ⟨x0, x1⟩ := cells2 K5.out.two
                obtain ⟨z0, z1, z2, z3⟩ := cells4 K5.out.hp
                have y0 : wr.cell? ⟨b11, 0, none⟩ = some (.int .i64 3) := z0
                have y1 : wr.cell? ⟨b11, 1, none⟩ = some (.int .i64 100) := z1
                have y2 : wr.cell? ⟨b11, 2, none⟩ = some (.int .i64 1) := z2
                have y3 : wr.cell? ⟨b11, 3, none⟩ = some (.int .i64 (tn : Int)) := z3
                clear z0 z1 z2 z3
                go_wp2_with fail
                refine HGT.out.mono ?_
                rintro e w12 ⟨qg, cg, f, rfl, hf, hog, hxg⟩
                have HF := Lib.hid hf; have HOG := Lib.hid hog
                have K6 := Lib.hid (K5.out.ext hxg); have RO6 := Lib.hid (RO5.out.ext hxg)
                clear hf hog hxg K5 RO5 HGT x0 x1 y0 y1 y2 y3
                go_upto_region 30 with fail
                refine wp_alloc1 fun W13 hE13 hS13 b13 => ?_
                have K7 := Lib.hid (K6.out.ext hE13); have RO7 := Lib.hid (RO6.out.ext hE13); have HOG7 := Lib.hid (HOG.out.ext hE13)
                obtain ⟨v0, v1, v2, v3⟩ := cells4 b13
                clear hE13 hS13 b13 K6 RO6 HOG
                obtain ⟨gg, rfl, -, hc0, -⟩ := HOG7.out.cell (i := 0) (f := 0) (cs := wordC f) (u := .int .u64 f) rfl rfl
                obtain ⟨gg', e9, -, hc1, -⟩ := HOG7.out.cell (i := 1) (f := 0) (cs := wordC (2 * (r : Int) + 1)) (u := .int .u64 (2 * (r : Int) + 1)) rfl rfl
                obtain rfl : gg' = gg := by
                  obtain ⟨rfl, _⟩ := Addr.mk.inj (Option.some.inj e9)
                  rfl
                clear e9
                simp only [Nat.zero_mul, Nat.add_zero, Nat.one_mul] at hc0 hc1
                go_wp2
                exact ⟨⟨a + 1, f, by omega, HF.out, by go_num, rfl, K7.out, RO7.out⟩, by simp [Go.RowKit.intOf]; omega⟩
              · obtain rfl : a = j := by omega
                have HX2 := HX.out
                rw [Nat.mod_self] at HX2
                obtain rfl : x = 200 := HX2
                clear hlt ha
                obtain ⟨x0, x1⟩ := cells2 K5.out.two
                obtain ⟨z0, z1, z2, z3⟩ := cells4 K5.out.hp
                have y0 : wr.cell? ⟨b11, 0, none⟩ = some (.int .i64 3) := z0
                have y1 : wr.cell? ⟨b11, 1, none⟩ = some (.int .i64 100) := z1
                have y2 : wr.cell? ⟨b11, 2, none⟩ = some (.int .i64 1) := z2
                have y3 : wr.cell? ⟨b11, 3, none⟩ = some (.int .i64 (tn : Int)) := z3
                clear z0 z1 z2 z3
                go_wp2_with fail
                refine (ring_coll0_is K5.out HTN.out HWc.out HAc.out).mono ?_
                rintro e w12 ⟨ws9, qn, cn, rfl, hA12, hT12⟩
                have K6 := Lib.hid (K5.out.put hA12 hT12); have RO6 := Lib.hid (ringlow RO5.out hT12 (by intro b hb; rw [List.mem_singleton.1 hb]; omega))
                clear hA12 hT12 K5 RO5 x0 x1 y0 y1 y2 y3
                go_upto_region 35 with fail
                refine wp_alloc1 fun W13 hE13 hS13 b13 => ?_
                have K7 := Lib.hid (K6.out.ext hE13); have RO7 := Lib.hid (RO6.out.ext hE13)
                obtain ⟨v0, v1, v2, v3⟩ := cells4 b13
                have hcr := RO7.out.cellw (l := [200]) (i := 0) rfl rfl
                clear hE13 hS13 b13 K6 RO6
                go_wp2_with fail
                refine (wakes4 _).mono ?_
                rintro e w14 ⟨rfl, hx14⟩
                have K8 := Lib.hid (K7.out.ext hx14)
                clear hx14 K7 RO7 v0 v1 v2 v3 hcr
                go_wp2
                go_ret
                exact ⟨rfl, K8.out.done HX1.out HGE.out (by have := K8.out.lt; have := HT0.out; omega)⟩
end Go.Proofs.Ytinakendlpomnaa
/- GcRings: the walk, as the row's reading hands it. -/
namespace Go.Proofs.Ytinakendlpomnaa
open Go Go.RowKit Go.Maps Arena
theorem rings_walk' {w : World} {n m : Int} (hn : (Lit.int .u8 n).wf = true) (hm : (Lit.int .u8 m).wf = true) : Calls Try.prog 5 #[.int .u8 n, .int .u8 m] w (TrueExt w) := by
  have h1 : IntKind.u8.min ≤ n ∧ n ≤ IntKind.u8.max := by simpa [Lit.wf] using hn
  have h2 : IntKind.u8.min ≤ m ∧ m ≤ IntKind.u8.max := by simpa [Lit.wf] using hm
  have e1 : IntKind.u8.min = 0 := by decide
  have e2 : IntKind.u8.max = 255 := by decide
  exact rings_walk (by omega) (by omega) (by omega) (by omega)
end Go.Proofs.Ytinakendlpomnaa
