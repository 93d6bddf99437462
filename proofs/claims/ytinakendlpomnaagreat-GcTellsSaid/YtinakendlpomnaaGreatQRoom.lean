/- Proved here: the contracts and laws of GcM, GcV, RowIn, ObjIn, GcN, Tail, GcWA, GcWB, GcWC, GcWD, GcWE, GcX, GcXB of this claim, each beneath its own remark; conditions: those that each theorem names. -/
import Derived.Test.YtinakendlpomnaaGreatM8
import Derived.Test.YtinakendlpomnaaGreatM5
import Derived.Test.YtinakendlpomnaaGreatM7
import Derived.Test.YtinakendlpomnaaGreatM3
import Derived.Test.YtinakendlpomnaaGreatM1
import Derived.Test.YtinakendlpomnaaGreatM9
import Derived.Test.YtinakendlpomnaaGreatM6
import Derived.Test.YtinakendlpomnaaGreatM2
import Derived.Deep.CutBlock
import Derived.BigRegion
import Derived.IntWalk
/- The reference's May. -/
namespace Go.Proofs.YtinakendlpomnaaGreat
open Go.RowKit Go.Maps Arena
set_option maxHeartbeats 4000000
set_option maxRecDepth 100000
theorem rmay_is {w : World} {q gq B n : Nat} {ws : List Int} {vR : Value} {R : List (Nat × Nat)} (H : RefAt w q gq B n ws vR R) (h : Hp) (hW : ∀ x ∈ ws, W64 x) {qr : Option Addr} {c : Nat} {roots : List Int} (hr : RowsP w (.slice qr roots.length c) 1 (roots.map wordC)) (hr64 : ∀ x ∈ roots, W64 x) (hrl : roots.length ≤ 100000) :
    Calls Tryz.prog 17 #[.pointer (some ⟨q, 0, none⟩), .agg #[.int .i64 h.base, .int .i64 h.half, .int .i64 h.space, .int .i64 h.top], .slice qr roots.length c] w fun e w' => e = .returned (.bool (mayH ws R h roots).isSome) ∧ Ext w w' := by
  have HA := Lib.hid (fun W (e : Ext w W) => rall_is (H.ext e) h hW)
  have hpl : ∀ L, allH ws R h = some L → L.length ≤ 100000 := by
    intro L hL
    obtain ⟨ht, _⟩ := allH_there hL
    have h1 := allH_ok H.good H.len hL
    have h2 := sizeF_ge L
    have h3 := h1.size
    obtain ⟨⟨a1, a2, _⟩, _⟩ := thereB_ok ht
    omega
  have HR := Lib.hid hr; have HR64 := Lib.hid hr64
  cases hall : allH ws R h with
  | none =>
    rw [hall] at HA
    have hm : (mayH ws R h roots).isSome = false := by unfold mayH; rw [hall]; rfl
    rw [hm]
    clear H hW hr hr64 hpl hall hm
    go_enter Tryz.func17, Tryz.ntmps17
    go_wp2_with fail
    refine at_alloc1 fun W hE hS b0 => ?_
    refine (HA.out W hE).mono ?_
    rintro e w1 ⟨rfl, hx1⟩
    have HX := Lib.hid (hE.trans hx1)
    clear hE hS b0 hx1
    unfold zeroPV
    go_upto_region 2 with fail
    refine wp_alloc1 fun W2 hE2 hS2 b2 => ?_
    have HX2 := Lib.hid (HX.out.trans hE2)
    obtain ⟨z0, z1⟩ := cells2 b2
    clear hE2 hS2
    generalize w1.heap.size = bp at *
    go_wp2_with fail
    go_loopw [8] (fun i wr => i = .int .i64 0 ∧ wr = W2) (fun _ _ => 0)
    case atStart => exact ⟨rfl, rfl⟩
    case round =>
      obtain ⟨rfl, rfl⟩ := hrel
      by_cases h0 : 0 < roots.length
      · have i1 : (0 : Int) < (roots.length : Int) := by omega
        go_wp2_with fail
        go_ret
        exact ⟨rfl, HX2.out⟩
      · have i1 : ¬ (0 : Int) < (roots.length : Int) := by omega
        go_wp2_with fail
        go_ret
        exact ⟨rfl, HX2.out⟩
  | some L =>
    rw [hall] at HA
    have hLl := hpl L hall
    have hm : (mayH ws R h roots).isSome = roots.all (fieldOK (L.map (·.1)) (firstN h)) := by
      unfold mayH
      rw [hall]
      simp only
      split <;> simp_all
    rw [hm]
    generalize firstN h = first at *
    clear H hW hr hr64 hpl hall hm
    go_enter Tryz.func17, Tryz.ntmps17
    go_wp2_with fail
    refine at_alloc1 fun W hE hS b0 => ?_
    refine (HA.out W hE).mono ?_
    rintro e w1 ⟨q2, c2, rfl, ho, hx1⟩
    have HX := Lib.hid (hE.trans hx1)
    have HO := Lib.hid ho.p
    clear hE hS b0 hx1 ho
    go_upto_region 2 with fail
    refine wp_alloc1 fun W2 hE2 hS2 b2 => ?_
    have HX2 := Lib.hid (HX.out.trans hE2)
    have HO2 := Lib.hid (HO.out.ext hE2)
    have HB2 := Lib.hid b2
    clear hE2 hS2 b2 HO HX
    generalize w1.heap.size = bp at *
    obtain ⟨z0, z1⟩ := cells2 HB2.out
    go_wp2_with fail
    go_loopw [8] (fun i wr => ∃ k : Nat, k ≤ roots.length ∧ i = .int .i64 k ∧ Hid ((roots.take k).all (fieldOK (L.map (·.1)) first) = true) ∧ Ext W2 wr) (fun i _ => roots.length - (Go.RowKit.intOf i).toNat)
    case atStart => exact ⟨0, Nat.zero_le _, rfl, Lib.hid rfl, by first | exact Ext.refl _ | exact Ext.drew _⟩
    case round =>
      obtain ⟨k, hk, rfl, HFA, hxk⟩ := hrel
      have HXK := Lib.hid hxk
      clear hxk z0 z1
      obtain ⟨z0, z1⟩ := cells2 ((Below.block HXK.out bp (Array.getElem?_eq_some_iff.1 HB2.out).1).trans HB2.out)
      by_cases hlt : k < roots.length
      · obtain ⟨x, hx⟩ : ∃ x, roots[k]? = some x := ⟨_, List.getElem?_eq_getElem hlt⟩
        have hx64 := HR64.out x (List.mem_of_getElem? hx)
        obtain ⟨q3, c3, hv3, _, _, hcell⟩ := ((HR.out.ext HX2.out).ext HXK.out).at
        rw [List.length_map] at hv3
        obtain ⟨rfl, -, rfl⟩ := Value.slice.inj hv3
        obtain ⟨bb, off, rfl, hcc⟩ := hcell k (wordC x) (by rw [List.getElem?_map, hx]; rfl)
        have hcx := hcc 0 _ rfl
        rw [Nat.add_zero, Nat.mul_one] at hcx
        have IS := Lib.hid (fun W (e : Ext W2 W) => ris_is (ok := true) hx64 W (HO2.out.ext e) hLl)
        have hnext : fieldOK (L.map (·.1)) first x = true → (roots.take (k + 1)).all (fieldOK (L.map (·.1)) first) = true := by
          intro hf
          obtain ⟨h1, rfl⟩ := List.getElem?_eq_some_iff.1 hx
          rw [List.take_succ_eq_append_getElem h1, List.all_append, HFA.out]
          simp [hf]
        have hbad : fieldOK (L.map (·.1)) first x = false → roots.all (fieldOK (L.map (·.1)) first) = false := by
          intro hf
          rw [List.all_eq_false]
          exact ⟨x, List.mem_of_getElem? hx, by rw [hf]; simp⟩
        obtain ⟨fo, hfo⟩ : ∃ fo, fo = fieldOK (L.map (·.1)) first x := ⟨_, rfl⟩
        rw [← hfo] at IS hnext hbad
        have HNX := Lib.hid hnext; have HBD := Lib.hid hbad
        clear hnext hbad hfo hx hcc hcell hv3 hx64
        go_upto_region 5 with fail
        refine wp_region_noPanic ?_
        refine wp_region_last 6 (S := (fun w' => w'.cell? ⟨bp, 0, none⟩ = some (.slice q2 L.length c2) ∧ w'.cell? ⟨bp, 1, none⟩ = some (.bool true) ∧ w'.cell? ⟨bb, off + k, none⟩ = some (.int .u64 x))) (by kernel_rfl) (by kernel_rfl) _ rfl ?_ (fun hHeld => ?_)
        · (first | with_reducible exact ⟨(Ext.drew _).cell z0, (Ext.drew _).cell z1, (Ext.drew _).cell hcx⟩ | with_reducible exact ⟨hx9'.cell z0, hx9'.cell z1, hx9'.cell hcx⟩)
        simp only [List.take_succ_cons, List.take_zero]
        refine wpAnyH_take (i := 0) (v := ?v1) rfl (by kernel_rfl) (by kernel_rfl) (by kernel_rfl) (fun _ _ _ h => h) (Or.inl ⟨by rfl, ?y1⟩) (by assumption) ?r1
        case y1 => intro w hSw; (try dsimp only at hSw); go_simp; (try with_reducible rfl)
        (try simp only [Act.put, List.setIfInBounds_toArray, List.set_cons_zero, List.set_cons_succ, List.getElem_toArray, List.getElem_cons_zero, List.getElem_cons_succ])
        refine wpAnyH_take (i := 1) (v := ?v2) rfl (by kernel_rfl) (by kernel_rfl) (by kernel_rfl) (fun _ _ _ h => h) (Or.inl ⟨by rfl, ?y2⟩) (by assumption) ?r2
        case y2 => intro w hSw; (try dsimp only at hSw); go_simp; (try with_reducible rfl)
        (try simp only [Act.put, List.setIfInBounds_toArray, List.set_cons_zero, List.set_cons_succ, List.getElem_toArray, List.getElem_cons_zero, List.getElem_cons_succ])
        refine wpAnyH_take (i := 2) (v := ?v3) rfl (by kernel_rfl) (by kernel_rfl) (by kernel_rfl) (fun _ _ _ h => h) (Or.inl ⟨by rfl, ?y3⟩) (by assumption) ?r3
        case y3 => intro w hSw; (try dsimp only at hSw); go_simp; (try with_reducible rfl)
        (try simp only [Act.put, List.setIfInBounds_toArray, List.set_cons_zero, List.set_cons_succ, List.getElem_toArray, List.getElem_cons_zero, List.getElem_cons_succ])
        refine wpAnyH_take (i := 3) (v := ?v4) rfl (by kernel_rfl) (by kernel_rfl) (by kernel_rfl) (fun _ _ _ h => h) (Or.inl ⟨by rfl, ?y4⟩) (by assumption) ?r4
        case y4 => intro w hSw; (try dsimp only at hSw); go_simp; (try with_reducible rfl)
        (try simp only [Act.put, List.setIfInBounds_toArray, List.set_cons_zero, List.set_cons_succ, List.getElem_toArray, List.getElem_cons_zero, List.getElem_cons_succ])
        refine wpAnyH_take (i := 4) (v := ?v5) rfl (by kernel_rfl) (by kernel_rfl) (by kernel_rfl) (fun _ _ _ h => h) (Or.inl ⟨by rfl, ?y5⟩) (by assumption) ?r5
        case y5 => intro w hSw; (try dsimp only at hSw); go_simp; (try with_reducible rfl)
        (try simp only [Act.put, List.setIfInBounds_toArray, List.set_cons_zero, List.set_cons_succ, List.getElem_toArray, List.getElem_cons_zero, List.getElem_cons_succ])
        refine wpAnyH_ready (rs := [5]) (by kernel_rfl) (by simp) ?_
        refine AllReadyH.cons rfl (fun K hK => ?_) AllReadyH.nil
        go_simp
        refine (IS.out _ (HXK.out.trans (Ext.drew _))).mono ?_
        rintro e w9 ⟨rfl, hx9⟩
        have hx9' : Ext wr w9 := (Ext.drew wr).trans hx9
        refine hK.out _ _ ?s6 (fun hHeld => ?k6)
        case s6 => ((try dsimp only); (first | with_reducible exact ⟨(Ext.drew _).cell z0, (Ext.drew _).cell z1, (Ext.drew _).cell hcx⟩ | with_reducible exact ⟨hx9'.cell z0, hx9'.cell z1, hx9'.cell hcx⟩))
        clear hK K
        (try simp only [Act.put, List.setIfInBounds_toArray, List.set_cons_zero, List.set_cons_succ, List.getElem_toArray, List.getElem_cons_zero, List.getElem_cons_succ])
        refine wpAnyH_done (by kernel_rfl) ?_ _
        show wpList _ _ _ _ _ _
        have HX9 := Lib.hid (HXK.out.trans hx9')
        clear hx9 hx9' hHeld
        cases fo with
        | true =>
          go_wp2
          refine NoPanic.normal ?_
          go_wp2
          exact ⟨⟨k + 1, by omega, by go_num, Lib.hid (HNX.out (by first | rfl | trivial)), HX9.out⟩, by simp [Go.RowKit.intOf]; omega⟩
        | false =>
          go_wp2
          refine NoPanic.normal ?_
          go_wp2
          go_ret
          rw [HBD.out (by first | rfl | trivial)]
          exact ⟨rfl, HX2.out.trans HX9.out⟩
      · obtain rfl : k = roots.length := by omega
        go_wp2_with fail
        go_ret
        have := HFA.out
        rw [List.take_length] at this
        rw [this]
        exact ⟨rfl, HX2.out.trans HXK.out⟩
end Go.Proofs.YtinakendlpomnaaGreat
/- Three collections are one; the live words, the roots. Plain. -/
namespace Go.Proofs.YtinakendlpomnaaGreat
open Go.RowKit Go.Maps Arena
set_option maxRecDepth 100000
theorem phi_sizes (f : Int → Int) (Fin : List (Nat × Ob)) (G : List (Nat × Ob)) : sizeF (G.map (phi f Fin)) = sizeF G := by
  induction G with
  | nil => rfl
  | cons y G ih =>
    simp only [List.map_cons, sizeF]
    rw [ih]
    unfold phi
    rw [mapO_words]
theorem newHs_size (o0 o1 : Nat) (F : List (Nat × Ob)) : sizeF (newHs o0 o1 F) = sizeF F := phi_sizes _ _ _
section
variable {o0 o1 H : Nat} {Hs F : List (Nat × Ob)}
/-- behind a collection a collection may be, and leans on the same -/
theorem Gc.next (g : Gc o0 o1 H Hs F) : Gc o1 o0 H (newHs o0 o1 F) (newHs o0 o1 F) := by
  have hpl : ∀ y ∈ F, offF F y.1 + wordsO y.2 ≤ sizeF F := fun y hy => by
    obtain ⟨i, hi, rfl⟩ := List.getElem_of_mem hy
    rw [offF_at g.fin (List.getElem?_eq_getElem hi)]
    have e5 : sizeF F = sizeF (F.take i) + sizeF (F.drop i) := by rw [← sizeF_app, List.take_append_drop]
    rw [List.drop_eq_getElem_cons hi] at e5
    simp only [sizeF] at e5
    omega
  have hap : (newHs o0 o1 F).Pairwise fun a b => a.1 + wordsO a.2 ≤ b.1 := by
    refine List.pairwise_iff_getElem.2 fun i j hi hj hij => ?_
    have e : ∀ i (hi : i < F.length) (hi' : i < (newHs o0 o1 F).length), (newHs o0 o1 F)[i] = phi (newW o0 o1 F) F F[i] := fun i hi hi' => List.getElem_map ..
    have hi2 := hi
    have hj2 := hj
    rw [newHs_len] at hi2 hj2
    rw [e i hi2, e j hj2]
    have hi := hi2
    have hj := hj2
    show offF F (F[i]).1 + wordsO (mapO _ (F[i]).2) ≤ offF F (F[j]).1
    rw [mapO_words, offF_at g.fin (List.getElem?_eq_getElem hi), offF_at g.fin (List.getElem?_eq_getElem hj)]
    have e5 : sizeF (F.take j) = sizeF (F.take (i + 1)) + sizeF ((F.take j).drop (i + 1)) := by
      rw [← sizeF_app]
      congr 1
      conv => lhs; rw [← List.take_append_drop (i + 1) (F.take j)]
      rw [List.take_take, Nat.min_eq_left (by omega)]
    rw [List.take_succ_eq_append_getElem hi, sizeF_app] at e5
    simp only [sizeF] at e5
    omega
  have hsz := g.size
  have hfix : ∀ y ∈ F, ∀ x ∈ y.2.fields, W64 x ∧ fieldOK (Hs.map (·.1)) o0 x = true ∧ ClosedAt o0 Hs F x := fun y hy x hx => ⟨(g.ok y (g.fin.sub y hy) x hx).1, (g.ok y (g.fin.sub y hy) x hx).2, g.cl y hy x hx⟩
  refine ⟨⟨hap, fun z hz => ?_, fun z hz => ?_, by rw [newHs_size]; exact hsz⟩, ⟨fun y hy => hy, hap.imp fun {a b} h => by have := wordsO_pos a.2; omega⟩, fun z hz v hv u hu => ?_, fun z hz v hv => ?_, g.small.2, g.small.1⟩
  · obtain ⟨y, hy, rfl⟩ := List.mem_map.1 hz
    have := hpl y hy
    unfold phi
    rw [mapO_words]
    dsimp only
    omega
  · obtain ⟨y, hy, rfl⟩ := List.mem_map.1 hz
    unfold phi
    rw [mapO_may]
    exact g.hs.may y (g.fin.sub y hy)
  · exact inF_true.2 ⟨u, (getL_some hu).1, rfl⟩
  · obtain ⟨y, hy, rfl⟩ := List.mem_map.1 hz
    obtain ⟨x, hx, rfl⟩ := List.mem_map.1 hv
    obtain ⟨h1, h2, h3⟩ := hfix y hy x hx
    refine ⟨(g.newInt h1 h2 h3).2, ?_⟩
    rcases ok_cases h2 h1 with hi | ⟨u, hu⟩
    · rw [newW_int hi]; unfold fieldOK; rw [hi]; rfl
    · have huF := g.mem hu h3
      obtain ⟨e1, e2, e3⟩ := g.new_of hu huF
      have e4 := offF_lt huF
      have := g.small
      unfold fieldOK
      rw [e1]
      simp only [Bool.or_eq_true, Bool.and_eq_true, decide_eq_true_eq, List.any_eq_true]
      exact .inr ⟨by omega, offF F u.1, List.mem_map.2 ⟨_, List.mem_map.2 ⟨u, huF, rfl⟩, rfl⟩, by omega⟩
/-- a good word, of what is moved -/
def Wd (o0 : Nat) (Hs F : List (Nat × Ob)) (x : Int) : Prop := W64 x ∧ fieldOK (Hs.map (·.1)) o0 x = true ∧ ClosedAt o0 Hs F x
theorem Gc.wd (g : Gc o0 o1 H Hs F) {x : Int} (h : Wd o0 Hs F x) : Wd o1 (newHs o0 o1 F) (newHs o0 o1 F) (newW o0 o1 F x) := by
  obtain ⟨h1, h2, h3⟩ := h
  refine ⟨(g.newInt h1 h2 h3).2, ?_, fun u hu => inF_true.2 ⟨u, (getL_some hu).1, rfl⟩⟩
  rcases ok_cases h2 h1 with hi | ⟨u, hu⟩
  · rw [newW_int hi]; unfold fieldOK; rw [hi]; rfl
  · have huF := g.mem hu h3
    obtain ⟨e1, e2, e3⟩ := g.new_of hu huF
    have e4 := offF_lt huF
    have := g.small
    have := g.size
    unfold fieldOK
    rw [e1]
    simp only [Bool.or_eq_true, Bool.and_eq_true, decide_eq_true_eq, List.any_eq_true]
    exact .inr ⟨by omega, offF F u.1, List.mem_map.2 ⟨_, List.mem_map.2 ⟨u, huF, rfl⟩, rfl⟩, by omega⟩
/-- where an object stands behind two collections, there it stands -/
theorem off_new (g : Gc o0 o1 H Hs F) {y : Nat × Ob} (hy : y ∈ F) : offF (newHs o0 o1 F) (offF F y.1) = offF F y.1 := by
  obtain ⟨i, hi, rfl⟩ := List.getElem_of_mem hy
  have h1 := offF_at g.next.fin (i := i) (y := phi (newW o0 o1 F) F F[i]) (by unfold newHs; rw [List.getElem?_map, List.getElem?_eq_getElem hi]; rfl)
  have h2 : (phi (newW o0 o1 F) F F[i]).1 = offF F (F[i]).1 := rfl
  rw [h2] at h1
  rw [h1, offF_at g.fin (List.getElem?_eq_getElem hi)]
  unfold newHs
  rw [← List.map_take, phi_sizes]
theorem Gc.twice (g : Gc o0 o1 H Hs F) {x : Int} (h : Wd o0 Hs F x) {y : Nat × Ob} (hg : getL o0 Hs x = some y) : newW o1 o0 (newHs o0 o1 F) (newW o0 o1 F x) = ((2 * (o0 + offF F y.1) : Nat) : Int) := by
  have hyF := g.mem hg h.2.2
  have h1 := newW_of (o1 := o0) (F := newHs o0 o1 F) (g.get_new hg hyF)
  rw [h1]
  have h2 : (phi (newW o0 o1 F) F y).1 = offF F y.1 := rfl
  rw [h2, off_new g hyF]
theorem Gc.thrice (g : Gc o0 o1 H Hs F) {x : Int} (h : Wd o0 Hs F x) : newW o0 o1 (newHs o1 o0 (newHs o0 o1 F)) (newW o1 o0 (newHs o0 o1 F) (newW o0 o1 F x)) = newW o0 o1 F x := by
  rcases ok_cases h.2.1 h.1 with hi | ⟨y, hy⟩
  · rw [newW_int hi, newW_int hi, newW_int hi]
  · have hyF := g.mem hy h.2.2
    have hw1 := g.wd h
    have hget := g.get_new hy hyF
    have h3 := g.next.twice hw1 hget
    have h4 := g.new_of hy hyF
    have h2 : (phi (newW o0 o1 F) F y).1 = offF F y.1 := rfl
    rw [h3, h2, off_new g hyF, h4.1]
/-- behind three collections the objects are what they were behind the first -/
theorem Gc.same (g : Gc o0 o1 H Hs F) : newHs o0 o1 (newHs o1 o0 (newHs o0 o1 F)) = newHs o0 o1 F := by
  have h1 : ∀ y ∈ F, phi (newW o0 o1 (newHs o1 o0 (newHs o0 o1 F))) (newHs o1 o0 (newHs o0 o1 F)) (phi (newW o1 o0 (newHs o0 o1 F)) (newHs o0 o1 F) (phi (newW o0 o1 F) F y)) = phi (newW o0 o1 F) F y := by
    intro y hy
    have hm : phi (newW o0 o1 F) F y ∈ newHs o0 o1 F := List.mem_map.2 ⟨y, hy, rfl⟩
    have e1 : offF (newHs o0 o1 F) (offF F y.1) = offF F y.1 := off_new g hy
    have e2 := off_new g.next hm
    have e3 : (phi (newW o0 o1 F) F y).1 = offF F y.1 := rfl
    rw [e3, e1] at e2
    have e4 : ∀ (a : Nat) (o : Ob) (f f' : Int → Int) (G G' : List (Nat × Ob)), phi f' G' (phi f G (a, o)) = (offF G' (offF G a), mapO f' (mapO f o)) := fun _ _ _ _ _ _ => rfl
    have e5 : phi (newW o0 o1 F) F y = (offF F y.1, mapO (newW o0 o1 F) y.2) := rfl
    rw [e5, e4, e1, e2]
    congr 1
    have hf : ∀ x ∈ y.2.fields, Wd o0 Hs F x := fun x hx => ⟨(g.ok y (g.fin.sub y hy) x hx).1, (g.ok y (g.fin.sub y hy) x hx).2, g.cl y hy x hx⟩
    unfold mapO
    congr 1
    dsimp only
    rw [List.map_map, List.map_map]
    exact List.map_congr_left fun x hx => g.thrice (hf x hx)
  conv => lhs; unfold newHs
  rw [List.map_map, show newHs o0 o1 F = F.map (phi (newW o0 o1 F) F) from rfl, List.map_map]
  exact List.map_congr_left fun y hy => h1 y hy
end
/-! ### a collection, of all -/
structure Gst where
  ws : List Int
  h : Hp
  roots : List Int
/-- a state, its objects, what is live -/
structure GOk (n : Nat) (R : List (Nat × Nat)) (s : Gst) (Hs : List (Nat × Ob)) : Prop where
  len : s.ws.length = n
  may : mayH s.ws R s.h s.roots = some Hs
  w64 : ∀ x ∈ s.ws, W64 x
  r64 : ∀ x ∈ s.roots, W64 x
def gF (s : Gst) (Hs : List (Nat × Ob)) : List (Nat × Ob) := liveF (firstN s.h) Hs s.roots
def gNext (s : Gst) (Hs : List (Nat × Ob)) : Gst := ⟨collWs s.ws s.h (gF s Hs), collH s.h (gF s Hs), s.roots.map (newW (firstN s.h) (otherN s.h) (gF s Hs))⟩
def gHs (s : Gst) (Hs : List (Nat × Ob)) : List (Nat × Ob) := newHs (firstN s.h) (otherN s.h) (gF s Hs)
section
variable {n : Nat} {R : List (Nat × Nat)} {s : Gst} {Hs : List (Nat × Ob)}
theorem GOk.all (k : GOk n R s Hs) : allH s.ws R s.h = some Hs := (mayH_some k.may).1
theorem GOk.nums (k : GOk n R s Hs) (hg : Arena.Good n R) : ∃ ba H sp, HpN s.h ba H sp n R := hpN_of hg (allH_there k.all).1
theorem GOk.gc (k : GOk n R s Hs) (hg : Arena.Good n R) {ba H sp : Nat} (N : HpN s.h ba H sp n R) : Gc (firstN s.h) (otherN s.h) H Hs (gF s Hs) := gc_of hg k.len k.w64 k.all N s.roots
theorem GOk.root (k : GOk n R s Hs) : ∀ x ∈ s.roots, Wd (firstN s.h) Hs (gF s Hs) x := fun x hx => ⟨k.r64 x hx, (mayH_some k.may).2 x hx, (live_closed _ _ _).1 x hx⟩
theorem gNext_first (s : Gst) (Hs : List (Nat × Ob)) : firstN (gNext s Hs).h = otherN s.h := rfl
theorem GOk.other (k : GOk n R s Hs) (hg : Arena.Good n R) : otherN (gNext s Hs).h = firstN s.h := by
  obtain ⟨ba, H, sp, N⟩ := k.nums hg
  unfold otherN firstN gNext collH
  dsimp only
  congr 1
  rw [show 1 - (1 - s.h.space) = s.h.space by omega]
theorem GOk.next (k : GOk n R s Hs) (hg : Arena.Good n R) : GOk n R (gNext s Hs) (gHs s Hs) := by
  obtain ⟨ba, H, sp, N⟩ := k.nums hg
  have g := k.gc hg N
  have hl := collWs_len (roots := s.roots) hg k.len k.w64 k.all
  have ha := coll_all (roots := s.roots) hg k.len k.w64 k.all
  refine ⟨hl.1, ?_, hl.2, fun x hx => ?_⟩
  · unfold mayH
    have : allH (gNext s Hs).ws R (gNext s Hs).h = some (gHs s Hs) := ha
    rw [this]
    simp only
    rw [if_pos]
    refine List.all_eq_true.2 fun x hx => ?_
    obtain ⟨v, hv, rfl⟩ := List.mem_map.1 hx
    exact (g.wd (k.root v hv)).2.1
  · obtain ⟨v, hv, rfl⟩ := List.mem_map.1 hx
    exact (g.wd (k.root v hv)).1
/-- behind a collection all is live -/
theorem GOk.live (k : GOk n R s Hs) (hg : Arena.Good n R) : gF (gNext s Hs) (gHs s Hs) = gHs s Hs := by
  obtain ⟨ba, H, sp, N⟩ := k.nums hg
  exact live_new (k.gc hg N) fun x hx => ⟨k.r64 x hx, (mayH_some k.may).2 x hx⟩
theorem GOk.top (k : GOk n R s Hs) (hg : Arena.Good n R) : sizeF (gF (gNext s Hs) (gHs s Hs)) = sizeF (gF s Hs) := by rw [k.live hg]; exact newHs_size _ _ _
theorem regW_regW {ws V V' : List Int} {ba : Nat} (h : ba + V.length ≤ ws.length) (h' : V'.length = V.length) : regW (regW ws ba V) ba V' = regW ws ba V' := by
  unfold regW
  rw [List.take_append_of_le_length (by rw [List.length_take]; omega), List.take_take, Nat.min_self, h']
  congr 2
  rw [← List.append_assoc, List.drop_append_of_le_length (by rw [List.length_append, List.length_take]; omega), List.drop_of_length_le (by rw [List.length_append, List.length_take]; omega), List.nil_append]
/-- three collections come to what one comes to -/
theorem GOk.three (k : GOk n R s Hs) (hg : Arena.Good n R) : gNext (gNext (gNext s Hs) (gHs s Hs)) (gHs (gNext s Hs) (gHs s Hs)) = gNext s Hs ∧ gHs (gNext (gNext s Hs) (gHs s Hs)) (gHs (gNext s Hs) (gHs s Hs)) = gHs s Hs := by
  obtain ⟨ba, H, sp, N⟩ := k.nums hg
  have g := k.gc hg N
  have k1 := k.next hg
  have k2 := k1.next hg
  have l1 := k.live hg
  have l2 := k1.live hg
  have o1 := k.other hg
  have o2 := k1.other hg
  have f1 := gNext_first s Hs
  have f2 := gNext_first (gNext s Hs) (gHs s Hs)
  have eH1 : gHs s Hs = newHs (firstN s.h) (otherN s.h) (gF s Hs) := rfl
  have eH2 : gHs (gNext s Hs) (gHs s Hs) = newHs (otherN s.h) (firstN s.h) (gHs s Hs) := by
    unfold gHs at l1 ⊢
    rw [f1, o1, l1]
  have e3 : gHs (gNext (gNext s Hs) (gHs s Hs)) (gHs (gNext s Hs) (gHs s Hs)) = gHs s Hs := by
    have : gHs (gNext (gNext s Hs) (gHs s Hs)) (gHs (gNext s Hs) (gHs s Hs)) = newHs (firstN s.h) (otherN s.h) (gHs (gNext s Hs) (gHs s Hs)) := by
      conv => lhs; unfold gHs
      rw [show newHs (firstN (gNext s Hs).h) (otherN (gNext s Hs).h) (gF (gNext s Hs) (newHs (firstN s.h) (otherN s.h) (gF s Hs))) = gHs (gNext s Hs) (gHs s Hs) from rfl]
      rw [show newHs (firstN s.h) (otherN s.h) (gF s Hs) = gHs s Hs from rfl]
      rw [f2, o2, f1, o1, l2]
    rw [this, eH2, eH1]
    exact g.same
  refine ⟨?_, e3⟩
  have hsz1 : sizeF (gHs s Hs) = sizeF (gF s Hs) := newHs_size _ _ _
  have hsz2 : sizeF (gHs (gNext s Hs) (gHs s Hs)) = sizeF (gF s Hs) := by rw [eH2, newHs_size, hsz1]
  -- the heaps
  have hh : (gNext (gNext (gNext s Hs) (gHs s Hs)) (gHs (gNext s Hs) (gHs s Hs))).h = (gNext s Hs).h := by
    show (⟨s.h.base, s.h.half, 1 - (1 - (1 - s.h.space)), ((sizeF (gF (gNext (gNext s Hs) (gHs s Hs)) (gHs (gNext s Hs) (gHs s Hs))) : Nat) : Int)⟩ : Hp) = ⟨s.h.base, s.h.half, 1 - s.h.space, ((sizeF (gF s Hs) : Nat) : Int)⟩
    rw [l2, hsz2, show 1 - (1 - (1 - s.h.space)) = 1 - s.h.space by omega]
  have hroots : (gNext (gNext (gNext s Hs) (gHs s Hs)) (gHs (gNext s Hs) (gHs s Hs))).roots = (gNext s Hs).roots := by
    show ((s.roots.map _).map _).map _ = s.roots.map _
    rw [l2, l1, f2, o2, f1, o1, List.map_map, List.map_map, eH2, eH1]
    exact List.map_congr_left fun x hx => g.thrice (k.root x hx)
  have hws : (gNext (gNext (gNext s Hs) (gHs s Hs)) (gHs (gNext s Hs) (gHs s Hs))).ws = (gNext s Hs).ws := by
    have hV : ∀ (s : Gst) (Hs : List (Nat × Ob)) (_ : GOk n R s Hs), (collV s.h (gF s Hs)).length = lenAt R s.h.base ∧ s.h.base.toNat + lenAt R s.h.base ≤ n := by
      intro s Hs k
      obtain ⟨ba, H, sp, N⟩ := k.nums hg
      have g := k.gc hg N
      have := gcB_len g (newW (sp * H) ((1 - sp) * H) (gF s Hs))
      rw [N.coll, mkV_len (H := H) (by simp) this, N.base, N.reg.l, Int.toNat_natCast]
      exact ⟨rfl, N.reg.fit⟩
    have v0 := hV s Hs k
    have v1 := hV _ _ k1
    have v2 := hV _ _ k2
    have b1 : (gNext s Hs).h.base = s.h.base := rfl
    have b2 : (gNext (gNext s Hs) (gHs s Hs)).h.base = s.h.base := rfl
    rw [b1] at v1
    rw [b2] at v2
    show regW (regW (regW s.ws s.h.base.toNat (collV s.h (gF s Hs))) s.h.base.toNat (collV (gNext s Hs).h (gF (gNext s Hs) (gHs s Hs)))) s.h.base.toNat (collV (gNext (gNext s Hs) (gHs s Hs)).h (gF (gNext (gNext s Hs) (gHs s Hs)) (gHs (gNext s Hs) (gHs s Hs)))) = regW s.ws s.h.base.toNat (collV s.h (gF s Hs))
    have kl := k.len
    rw [regW_regW (ws := s.ws) (by rw [v0.1]; omega) (by rw [v1.1, v0.1]), regW_regW (ws := s.ws) (by rw [v1.1]; omega) (by rw [v2.1, v1.1])]
    congr 1
    rw [l2]
    unfold collV
    rw [f2, o2, f1, o1]
    have es : (gNext (gNext s Hs) (gHs s Hs)).h.space = s.h.space := by
      show 1 - (1 - s.h.space) = s.h.space
      omega
    have eh : (gNext (gNext s Hs) (gHs s Hs)).h.half = s.h.half := rfl
    rw [es, eh]
    congr 1
    unfold gcB
    rw [hsz2]
    congr 2
    -- the objects
    have e4 := e3
    have : gHs (gNext (gNext s Hs) (gHs s Hs)) (gHs (gNext s Hs) (gHs s Hs)) = newHs (firstN s.h) (otherN s.h) (gHs (gNext s Hs) (gHs s Hs)) := by
      conv => lhs; unfold gHs
      rw [show newHs (firstN (gNext s Hs).h) (otherN (gNext s Hs).h) (gF (gNext s Hs) (newHs (firstN s.h) (otherN s.h) (gF s Hs))) = gHs (gNext s Hs) (gHs s Hs) from rfl]
      rw [show newHs (firstN s.h) (otherN s.h) (gF s Hs) = gHs s Hs from rfl]
      rw [f2, o2, f1, o1, l2]
    rw [this, eH1] at e4
    have e5 := congrArg (fun L : List (Nat × Ob) => L.map (·.2)) e4
    unfold newHs at e5
    simp only [List.map_map] at e5
    rw [eH1]
    unfold newHs
    exact e5
  cases hA : gNext (gNext (gNext s Hs) (gHs s Hs)) (gHs (gNext s Hs) (gHs s Hs)) with
  | mk a b c =>
    rw [hA] at hh hroots hws
    dsimp only at hh hroots hws
    rw [hh, hroots, hws]
end
end Go.Proofs.YtinakendlpomnaaGreat
/- A row of rows among the arguments: general. -/
namespace Go.Proofs.YtinakendlpomnaaGreat
open Go Go.ChangeShapes Go.WideShapes Go.ChangeAt Go.RowKit Go.Deep
set_option maxHeartbeats 4000000
set_option maxRecDepth 100000
theorem flat_inv {s : Nat} (hs : 1 ≤ s) : ∀ (l : List (List Value)), (∀ cs ∈ l, cs.length = s) → ∀ (j : Nat) (u : Value), l.flatten[j]? = some u → ∃ i f cs, j = i * s + f ∧ l[i]? = some cs ∧ cs[f]? = some u
  | [], _, j, u, h => by simp at h
  | c :: l, hl, j, u, h => by
    have hc := hl c (.head _)
    rw [List.flatten_cons] at h
    by_cases hj : j < s
    · rw [List.getElem?_append_left (by omega)] at h
      exact ⟨0, j, c, by omega, rfl, h⟩
    · rw [List.getElem?_append_right (by omega), hc] at h
      obtain ⟨i, f, cs, h1, h2, h3⟩ := flat_inv hs l (fun cs hm => hl cs (.tail _ hm)) (j - s) u h
      exact ⟨i + 1, f, cs, by rw [Nat.add_mul]; omega, h2, h3⟩
theorem rows_p {w : World} {v : Value} {s : Nat} {l : List (List Value)} (hs : 1 ≤ s) (h : RowsSl w v s l) (h1 : Rows1 s l) (hn : l ≠ []) : RowsP w v s l := by
  obtain ⟨q, c, rfl, h2, h3, h4⟩ := h
  refine ⟨h1, .inr ?_⟩
  obtain ⟨cs0, hcs0⟩ : ∃ cs, l[0]? = some cs := by cases l with | nil => exact absurd rfl hn | cons a l => exact ⟨a, rfl⟩
  obtain ⟨_, b, off, rfl, _⟩ := h4 0 cs0 hcs0
  refine ⟨b, off, c, rfl, h2, h3, fun j u hu => ?_⟩
  obtain ⟨i, f, cs, rfl, hi, hf⟩ := flat_inv hs l (fun cs hm => (h1 cs hm).1) j u hu
  obtain ⟨_, b', off', e, hc⟩ := h4 i cs hi
  obtain ⟨rfl, rfl, _⟩ := Addr.mk.inj (Option.some.inj e)
  rw [← Nat.add_assoc]
  exact hc f u hf
/-- one cell that reads as a slice -/
theorem rows_cell {H : Type} {enc : TypeId × Value → H} {P : Program} {w : World} {t e : TypeId} {s : Nat} {cs : List Value} (ht : P.underlying t = some (.slice e)) (hs : P.cellsOf e = s) (h1 : 1 ≤ s)
    (h : ReadsAs enc P w t cs) : ∃ v l, cs = [v] ∧ RowsSl w v s l ∧ (l = [] → EmptyV v) ∧ ∀ cs ∈ l, ReadsAs enc P w e cs := by
  obtain ⟨fuel, x, hf⟩ := h
  rcases open_slice ht hf with ⟨hcs, _⟩ | ⟨a, len, cap, m, n, D, Pl, hcs, _, hlc, hcm, hm, _, hel⟩
  · exact ⟨_, [], hcs, ⟨none, 0, rfl, Nat.le_refl _, Nat.zero_le _, fun i cs h => by simp at h⟩, fun _ => .inl rfl, fun cs h => by cases h⟩
  · simp only [if_true] at hm
    rw [hs] at hel
    rw [hm] at hel
    obtain ⟨V, hV⟩ := choose_lt (n := cap) (p := fun i cs => w.cells? 0 (a.add (i * s)) s = some cs ∧ DataW.trod enc P w 0 (fun _ => true) true n e cs = some (D i, Pl i)) (fun i hi => hel i hi)
    have hl : ((List.range len).map V).length = len := by simp
    refine ⟨_, (List.range len).map V, hcs, ⟨some a, cap, by rw [hl], by rw [hl]; exact hlc, hcm, fun i cs hi => ?_⟩, fun he => ?_, fun cs hcs => ?_⟩
    · have hil : i < len := by have := (List.getElem?_eq_some_iff.1 hi).1; simpa using this
      have hcs : V i = cs := by simpa [hil] using hi
      subst hcs
      obtain ⟨_, hlen, hcell⟩ := World.cells?_some (hV i (by omega)).1
      obtain ⟨_, hlen0, hcell0⟩ := World.cells?_some (hV 0 (by omega)).1
      have hc0 := hcell0 0 (by omega)
      rw [List.getElem?_eq_getElem (by omega : 0 < (V 0).length), Go.Deep.add_add] at hc0
      obtain ⟨b, off, spot⟩ := a
      have hspot : spot = none := by simpa [Addr.add] using World.cell?_spot hc0
      subst hspot
      refine ⟨hlen, b, off, rfl, fun f u hu => ?_⟩
      have hfl : f < s := by rw [← hlen]; exact (List.getElem?_eq_some_iff.1 hu).1
      have := hcell f hfl
      rw [Go.Deep.add_add, add_plain, hu] at this
      rw [Nat.add_assoc]
      exact this
    · have h0 : len = 0 := by have := congrArg List.length he; simpa using this
      subst h0
      exact .inr ⟨a, cap, rfl, hcm⟩
    · obtain ⟨i, hi, rfl⟩ := List.mem_map.1 hcs
      have hil := List.mem_range.1 hi
      exact ⟨n, _, (hV i (by omega)).2⟩
/-- rows whose cells are all of a form -/
theorem choose_form {α : Type} [Inhabited α] (f : α → List Value) : ∀ (l : List (List Value)), (∀ cs ∈ l, ∃ x, cs = f x) → ∃ M : List α, l = M.map f
  | [], _ => ⟨[], rfl⟩
  | c :: l, h => by
    obtain ⟨x, rfl⟩ := h c (.head _)
    obtain ⟨M, rfl⟩ := choose_form f l (fun cs hm => h cs (.tail _ hm))
    exact ⟨x :: M, rfl⟩
end Go.Proofs.YtinakendlpomnaaGreat
/- Objects, rows of words, heaps, steps among the arguments, as a walk wants them. -/
namespace Go.Proofs.YtinakendlpomnaaGreat
open Go Go.ChangeShapes Go.WideShapes Go.ChangeAt Go.RowKit Go.Deep Arena
set_option maxHeartbeats 4000000
set_option maxRecDepth 100000
theorem w64_of_wf {x : Int} (h : (Lit.int .u64 x).wf = true) : W64 x := by
  have h3 : IntKind.u64.min ≤ x ∧ x ≤ IntKind.u64.max := by simpa [Lit.wf] using h
  have e1 : IntKind.u64.min = 0 := by decide
  have e2 : IntKind.u64.max = 18446744073709551615 := by decide
  unfold W64
  omega
theorem word_reads {H : Type} {enc : TypeId × Value → H} {w : World} {cs : List Value} (h : ReadsAs enc Tryz.prog w 51 cs) : ∃ x : {x : Int // W64 x}, cs = wordC x.1 := by
  obtain ⟨n, y, h⟩ := h
  obtain ⟨a, rfl, _, hw⟩ := DataW.trod_int Tryz.underlying51 h
  exact ⟨⟨a, w64_of_wf hw⟩, rfl⟩
instance : Inhabited {x : Int // W64 x} := ⟨⟨0, w64_zero⟩⟩
/-- a slice of words that came in -/
def WdsP (w : World) (v : Value) (l : List Int) : Prop := RowsP w v 1 (l.map wordC) ∧ ∀ x ∈ l, W64 x
theorem WdsP.ext {w w' : World} {v : Value} {l : List Int} (h : WdsP w v l) (e : Ext w w') : WdsP w' v l := ⟨h.1.ext e, h.2⟩
theorem words_reads {H : Type} {enc : TypeId × Value → H} {w : World} {cs : List Value} (h : ReadsAs enc Tryz.prog w 22 cs) : ∃ v l, cs = [v] ∧ WdsP w v l := by
  obtain ⟨v, l, rfl, hr, he, hl⟩ := rows_cell Tryz.underlying22 (show Tryz.prog.cellsOf 51 = 1 by kernel_rfl) (by omega) h
  obtain ⟨M, rfl⟩ := choose_form (fun x : {x : Int // W64 x} => wordC x.1) l (fun cs hm => word_reads (hl cs hm))
  refine ⟨v, M.map (·.1), rfl, ?_, fun x hx => ?_⟩
  · rw [List.map_map]
    cases M with
    | nil => exact ⟨Rows1.nil 1, .inl ⟨he rfl, rfl⟩⟩
    | cons x M => exact rows_p (by omega) hr (fun cs hm => by obtain ⟨y, _, rfl⟩ := List.mem_map.1 hm; exact ⟨rfl, fun u hu => by rw [List.mem_singleton.1 hu]; rfl⟩) (by simp)
  · obtain ⟨y, _, rfl⟩ := List.mem_map.1 hx
    exact y.2
theorem open_words {H : Type} {enc : TypeId × Value → H} {W : World} {v : Value} {d : DataW H} {ps : List MemPlace} {base : Nat} (hval : Value.okWide Tryz.prog W .any base 22 v) (h : DataW.Trod enc Tryz.prog W 0 (fun _ => true) true 22 v d ps) : ∃ l, WdsP W v l := by
  obtain ⟨a0, len, cap, rfl⟩ := okWide_slice Tryz.underlying22 hval
  obtain ⟨fuel, hf⟩ := h
  obtain ⟨v', l, e, hp⟩ := words_reads ⟨fuel, _, hf⟩
  obtain rfl : v' = _ := (List.cons.inj e).1.symm
  exact ⟨l, hp⟩
/-- an object that came in -/
structure ObI where
  o : Ob
  v : Value
def obiC (x : ObI) : List Value := [.int .i64 x.o.kind, .int .i64 x.o.tag, x.v, .string x.o.text]
structure ObiP (w : World) (x : ObI) : Prop where
  p : WdsP w x.v x.o.fields
  text : x.o.text.size ≤ maxLen
  kind : (Lit.int .i64 x.o.kind).wf = true
  tag : (Lit.int .i64 x.o.tag).wf = true
theorem ObiP.ext {w w' : World} {x : ObI} (h : ObiP w x) (e : Ext w w') : ObiP w' x := ⟨h.p.ext e, h.text, h.kind, h.tag⟩
theorem obj_reads {H : Type} {enc : TypeId × Value → H} {w : World} {cs : List Value} (h : ReadsAs enc Tryz.prog w 55 cs) : ∃ x, cs = obiC x ∧ ObiP w x := by
  obtain ⟨n, y, h⟩ := h
  obtain ⟨xs, k, rfl, _, hlen, hxl, hf⟩ := DataW.trod_struct Tryz.underlying55 h
  have hc : Tryz.prog.cellsOf 55 = 4 := by kernel_rfl
  rw [hc] at hlen
  match cs, hlen, xs, hxl with
  | [v0, v1, v2, v3], _, [y0, y1, y2, y3], _ =>
    have g0 := hf 0 _ rfl
    have g1 := hf 1 _ rfl
    have g2 := hf 2 _ rfl
    have g3 := hf 3 _ rfl
    have ci : Tryz.prog.cellsOf 3 = 1 := by kernel_rfl
    have ci6 : Tryz.prog.cellsOf 22 = 1 := by kernel_rfl
    have cs1 : Tryz.prog.cellsOf 9 = 1 := by kernel_rfl
    simp [ci, ci6, cs1] at g0 g1 g2 g3
    obtain ⟨a0, e0, _, w0⟩ := DataW.trod_int Tryz.underlying3 g0
    obtain ⟨a1, e1, _, w1⟩ := DataW.trod_int Tryz.underlying3 g1
    obtain ⟨v, l, e2, hp⟩ := words_reads ⟨_, _, g2⟩
    obtain ⟨a3, e3, _, w3⟩ := DataW.trod_string Tryz.underlying9 g3
    simp at e0 e1 e2 e3
    subst e0; subst e1; subst e2; subst e3
    exact ⟨⟨⟨a0, a1, l, a3⟩, v2⟩, rfl, hp, by first | exact w3 | simpa [Lit.wf] using w3, w0, w1⟩
theorem open_obj {H : Type} {enc : TypeId × Value → H} {W : World} {v : Value} {d : DataW H} {ps : List MemPlace} {base : Nat} (hval : Value.okWide Tryz.prog W .any base 55 v) (h : DataW.Trod enc Tryz.prog W 0 (fun _ => true) true 55 v d ps) : ∃ x, v = .agg (obiC x).toArray ∧ ObiP W x := by
  obtain ⟨cs, rfl, _⟩ := okWide_struct Tryz.underlying55 hval
  obtain ⟨fuel, hf⟩ := h
  obtain ⟨x, e, hp⟩ := obj_reads ⟨fuel, _, hf⟩
  refine ⟨x, ?_, hp⟩
  rw [← e]
  rfl
/-- objects that came in, side by side -/
def ObsP (w : World) (v : Value) (L : List ObI) : Prop := RowsSl w v 4 (L.map obiC) ∧ ∀ x ∈ L, ObiP w x
theorem ObsP.ext {w w' : World} {v : Value} {L : List ObI} (h : ObsP w v L) (e : Ext w w') : ObsP w' v L := ⟨h.1.ext e, fun x hx => (h.2 x hx).ext e⟩
theorem choose_with {α : Type} (p : α → Prop) (f : α → List Value) : ∀ (l : List (List Value)), (∀ cs ∈ l, ∃ x, cs = f x ∧ p x) → ∃ M : List α, l = M.map f ∧ ∀ x ∈ M, p x
  | [], _ => ⟨[], rfl, fun x h => by cases h⟩
  | c :: l, h => by
    obtain ⟨x, rfl, hx⟩ := h c (.head _)
    obtain ⟨M, rfl, hM⟩ := choose_with p f l (fun cs hm => h cs (.tail _ hm))
    exact ⟨x :: M, rfl, fun y hy => by rcases List.mem_cons.1 hy with rfl | hy; exact hx; exact hM y hy⟩
theorem open_objs {H : Type} {enc : TypeId × Value → H} {W : World} {v : Value} {d : DataW H} {ps : List MemPlace} {base : Nat} (hval : Value.okWide Tryz.prog W .any base 74 v) (h : DataW.Trod enc Tryz.prog W 0 (fun _ => true) true 74 v d ps) : ∃ L, ObsP W v L := by
  obtain ⟨l, hr, hl⟩ := open_rows Tryz.underlying74 (show Tryz.prog.cellsOf 55 = 4 by kernel_rfl) (by omega) hval h
  obtain ⟨M, rfl, hM⟩ := choose_with (ObiP W) obiC l (fun cs hm => obj_reads (hl cs hm))
  exact ⟨M, hr, hM⟩
/-- a region's words and a heap that came in -/
structure RawI where
  v : Value
  l : List Int
  h : Hp
def rawC (x : RawI) : List Value := [x.v, .int .i64 x.h.base, .int .i64 x.h.half, .int .i64 x.h.space, .int .i64 x.h.top]
structure HpWf (h : Hp) : Prop where
  half : (Lit.int .i64 h.half).wf = true
  space : (Lit.int .i64 h.space).wf = true
  top : (Lit.int .i64 h.top).wf = true
structure RawP (w : World) (x : RawI) : Prop where
  p : WdsP w x.v x.l
  h : HpWf x.h
theorem open_raw {H : Type} {enc : TypeId × Value → H} {W : World} {v : Value} {d : DataW H} {ps : List MemPlace} {base : Nat} (hval : Value.okWide Tryz.prog W .any base 26 v) (h : DataW.Trod enc Tryz.prog W 0 (fun _ => true) true 26 v d ps) : ∃ x, v = .agg (rawC x).toArray ∧ RawP W x := by
  obtain ⟨cs, rfl, _⟩ := okWide_struct Tryz.underlying26 hval
  obtain ⟨fuel, hf⟩ := h
  obtain ⟨xs, k, _, _, hlen, hxl, hf⟩ := DataW.trod_struct Tryz.underlying26 hf
  have hc : Tryz.prog.cellsOf 26 = 5 := by kernel_rfl
  rw [hc] at hlen
  obtain ⟨cs⟩ := cs
  simp only [Value.cells] at hlen hf
  match cs, hlen, xs, hxl with
  | [v0, v1, v2, v3, v4], _, [y0, y1], _ =>
    have g0 := hf 0 _ rfl
    have g1 := hf 1 _ rfl
    have ci : Tryz.prog.cellsOf 22 = 1 := by kernel_rfl
    have ch : Tryz.prog.cellsOf 24 = 4 := by kernel_rfl
    simp [ci, ch] at g0 g1
    obtain ⟨v, l, e0, hp⟩ := words_reads ⟨_, _, g0⟩
    simp at e0
    subst e0
    obtain ⟨zs, m, _, _, _, hzl, hg⟩ := DataW.trod_struct Tryz.underlying24 g1
    match zs, hzl with
    | [z0, z1, z2, z3], _ =>
      have k0 := hg 0 _ rfl
      have k1 := hg 1 _ rfl
      have k2 := hg 2 _ rfl
      have k3 := hg 3 _ rfl
      have cn : Tryz.prog.cellsOf 3 = 1 := by kernel_rfl
      simp [cn] at k0 k1 k2 k3
      obtain ⟨a0, e0, _, w0⟩ := DataW.trod_int Tryz.underlying3 k0
      obtain ⟨a1, e1, _, w1⟩ := DataW.trod_int Tryz.underlying3 k1
      obtain ⟨a2, e2, _, w2⟩ := DataW.trod_int Tryz.underlying3 k2
      obtain ⟨a3, e3, _, w3⟩ := DataW.trod_int Tryz.underlying3 k3
      simp at e0 e1 e2 e3
      subst e0; subst e1; subst e2; subst e3
      exact ⟨⟨v0, l, ⟨a0, a1, a2, a3⟩⟩, rfl, hp, w1, w2, w3⟩
end Go.Proofs.YtinakendlpomnaaGreat
/- GcTwice: the walk. -/
namespace Go.Proofs.YtinakendlpomnaaGreat
open Go.RowKit Go.Maps Arena
set_option maxHeartbeats 8000000
set_option maxRecDepth 100000
/-- one collection of a state that may be -/
theorem coll_step {w : World} {p g bm n : Nat} {R : List (Nat × Nat)} {s : Gst} {Hs : List (Nat × Ob)} (k : GOk n R s Hs) (H : ArenaAt w p g bm n s.ws R) (hw : (Lit.int .i64 s.h.base).wf = true) {q : Option Addr} {c : Nat} (hr : RowStay w g (.slice q s.roots.length c) (s.roots.map wordC)) (hrl : s.roots.length ≤ 100000) :
    Calls Tryz.prog 12 #[.pointer (some ⟨p, 0, none⟩), .agg #[.int .i64 s.h.base, .int .i64 s.h.half, .int .i64 s.h.space, .int .i64 s.h.top], .slice q s.roots.length c] w fun e w' => ∃ q c, e = .returned (.tuple #[.agg #[.int .i64 s.h.base, .int .i64 s.h.half, .int .i64 (gNext s Hs).h.space, .int .i64 (gNext s Hs).h.top], .slice q s.roots.length c, .bool true]) ∧ ArenaAt w' p g bm n (gNext s Hs).ws R ∧
      OwnP w' w.heap.size 51 (.slice q s.roots.length c) 1 ((gNext s Hs).roots.map wordC) ∧ Turn [g] w w' := by
  refine (coll_is H s.h hw k.w64 hr k.r64 hrl).mono fun e w' he => ?_
  unfold CollSaid at he
  rw [k.may] at he
  exact he
/-- what one collection makes of a heap -/
def CStep (p g bm n : Nat) (R : List (Nat × Nat)) (half : Int) (m : Nat) (ws : List Int) (sp tp : Int) (r : List Int) (ws' : List Int) (sp' tp' : Int) (r' : List Int) : Prop :=
  ∀ W q c, ArenaAt W p g bm n ws R → RowStay W g (.slice q m c) (r.map wordC) → Calls Tryz.prog 12 #[.pointer (some ⟨p, 0, none⟩), .agg #[.int .i64 3, .int .i64 half, .int .i64 sp, .int .i64 tp], .slice q m c] W fun e w' =>
    ∃ q c, e = .returned (.tuple #[.agg #[.int .i64 3, .int .i64 half, .int .i64 sp', .int .i64 tp'], .slice q m c, .bool true]) ∧ ArenaAt w' p g bm n ws' R ∧ OwnP w' W.heap.size 51 (.slice q m c) 1 (r'.map wordC) ∧ Turn [g] W w'
theorem cstep_of {n : Nat} {R : List (Nat × Nat)} {s : Gst} {Hs : List (Nat × Ob)} (k : GOk n R s Hs) (p g bm : Nat) (h3 : s.h.base = 3) (hl : s.roots.length ≤ 20) : CStep p g bm n R s.h.half s.roots.length s.ws s.h.space s.h.top s.roots (gNext s Hs).ws (gNext s Hs).h.space (gNext s Hs).h.top (gNext s Hs).roots := by
  intro W q c H hr
  have := coll_step k H (by rw [h3]; decide) hr (by omega)
  rw [h3] at this
  exact this
theorem twice_facts {n : Nat} {R : List (Nat × Nat)} {ws roots : List Int} {half sp tp : Int} {Hs : List (Nat × Ob)} (k0 : GOk n R ⟨ws, ⟨3, half, sp, tp⟩, roots⟩ Hs) (hg : Arena.Good n R) (hl : roots.length ≤ 20) (p g bm : Nat) :
    ∃ ws1 ws2 r1 r2 sp1 tp1, r1.length = roots.length ∧ r2.length = roots.length ∧ CStep p g bm n R half roots.length ws sp tp roots ws1 sp1 tp1 r1 ∧ CStep p g bm n R half roots.length ws1 sp1 tp1 r1 ws2 sp tp1 r2 ∧ CStep p g bm n R half roots.length ws2 sp tp1 r2 ws1 sp1 tp1 r1 := by
  have k1 := k0.next hg
  have k2 := k1.next hg
  obtain ⟨hc1, hc2⟩ := k0.three hg
  have ht := k0.top hg
  have l1 : (gNext ⟨ws, ⟨3, half, sp, tp⟩, roots⟩ Hs).roots.length = roots.length := by unfold gNext; dsimp only; rw [List.length_map]
  have l2 : (gNext (gNext ⟨ws, ⟨3, half, sp, tp⟩, roots⟩ Hs) (gHs ⟨ws, ⟨3, half, sp, tp⟩, roots⟩ Hs)).roots.length = roots.length := by
    unfold gNext
    dsimp only
    rw [List.length_map, List.length_map]
  have c0 := cstep_of k0 p g bm rfl hl
  have c1 := cstep_of k1 p g bm rfl (by omega)
  have c2 := cstep_of k2 p g bm rfl (by omega)
  rw [l1] at c1
  rw [l2, hc1] at c2
  have e1 : (gNext (gNext ⟨ws, ⟨3, half, sp, tp⟩, roots⟩ Hs) (gHs ⟨ws, ⟨3, half, sp, tp⟩, roots⟩ Hs)).h.space = sp := by show 1 - (1 - sp) = sp; omega
  have e2 : (gNext (gNext ⟨ws, ⟨3, half, sp, tp⟩, roots⟩ Hs) (gHs ⟨ws, ⟨3, half, sp, tp⟩, roots⟩ Hs)).h.top = (gNext ⟨ws, ⟨3, half, sp, tp⟩, roots⟩ Hs).h.top := by
    show ((sizeF (gF (gNext ⟨ws, ⟨3, half, sp, tp⟩, roots⟩ Hs) (gHs ⟨ws, ⟨3, half, sp, tp⟩, roots⟩ Hs)) : Nat) : Int) = ((sizeF (gF ⟨ws, ⟨3, half, sp, tp⟩, roots⟩ Hs) : Nat) : Int)
    rw [ht]
  rw [e1, e2] at c1 c2
  exact ⟨_, _, _, _, _, _, l1, l2, c0, c1, c2⟩
theorem words_own {w : World} {p g bm n m : Nat} {ws : List Int} (H : ArenaAt w p g bm n ws (rigR m)) (_hm : 1 ≤ m) : Calls Tryz.prog 20 #[.pointer (some ⟨p, 0, none⟩), .int .i64 3] w fun e w' => ∃ q l c, e = .returned (.tuple #[.slice q l c, .bool true]) ∧ OwnP w' w.heap.size 51 (.slice q l c) 1 ((wordsAt ws (rigR m) 3).map wordC) ∧ Ext w w' := by
  refine (words_yes H (r := (3, m)) (by simp [rigR])).mono ?_
  rintro e w' ⟨v, rfl, ho, hx⟩
  have hl : (wordsAt ws (rigR m) 3).length = m := by rw [wordsAt_len H.good H.len, rig_len]
  have ho2 : OwnP w' w.heap.size 51 v 1 ((wordsAt ws (rigR m) 3).map wordC) := by
    refine ⟨fun cs hc => by obtain ⟨y, _, rfl⟩ := List.mem_map.1 hc; exact ⟨rfl, fun u hu => by rw [List.mem_singleton.1 hu]; rfl⟩, ?_⟩
    rw [flat_words, List.length_map, hl]
    have e1 : wordsAt ws (rigR m) 3 = (ws.drop 3).take m := by unfold wordsAt; rw [rig_len]; rfl
    rw [e1]
    exact ho
  obtain ⟨q, c, rfl, _, _⟩ := ho2.len
  exact ⟨q, _, c, rfl, ho2, hx⟩
theorem large_flat4 {w : World} {v : Value} {l : List Int} {a b c d : Int} (hv : WordSl w v l) : Calls Tryz.prog 5 #[.agg #[v, .int .i64 a, .int .i64 b, .int .i64 c, .int .i64 d]] w fun e w' => e = .returned (.bool (decide (400 < l.length))) ∧ Ext w w' := by
  obtain ⟨qv, cv, rfl, hd1, hd2, hcell⟩ := hv
  unfold maxLen at hd2
  clear hcell
  by_cases h : 400 < l.length
  · rw [decide_eq_true h]
    have i1 : (400 : Int) < (l.length : Int) := by omega
    clear h
    go_enter Tryz.func5, Tryz.ntmps5
    go_wp2_with fail
    go_ret
    exact ⟨rfl, Ext.alloc _ _⟩
  · rw [decide_eq_false h]
    have i1 : ¬ (400 : Int) < (l.length : Int) := by omega
    clear h
    go_enter Tryz.func5, Tryz.ntmps5
    go_wp2_with fail
    go_ret
    exact ⟨rfl, Ext.alloc _ _⟩
end Go.Proofs.YtinakendlpomnaaGreat
/- A region that draws its order: what can be taken at any time is taken at once; the others by 'wpAnyH' under a condition; the tail, which waits for all of them, as in a plain region. -/
namespace Go.Proofs.YtinakendlpomnaaGreat
open Go
section
variable {P : Program} {md : Region.Mode}
def takeOps (ops : Array Oper) (n : Nat) : Array Oper := (ops.toList.take n).toArray
theorem takeOps_get {ops : Array Oper} {n i : Nat} (h : i < n) : (takeOps ops n)[i]? = ops[i]? := by
  unfold takeOps
  rw [List.getElem?_toArray, List.getElem?_take_of_lt h, Array.getElem?_toList]
theorem takeOps_size {ops : Array Oper} {n : Nat} (h : n ≤ ops.size) : (takeOps ops n).size = n := by
  unfold takeOps
  rw [List.size_toArray, List.length_take, Array.length_toList]
  omega
theorem takeOps_all {ops : Array Oper} {n : Nat} (h : ops.size ≤ n) : takeOps ops n = ops := by
  unfold takeOps
  rw [List.take_of_length_le (by rw [Array.length_toList]; exact h)]
theorem takeOps_take {ops : Array Oper} {m n : Nat} (h : m ≤ n) : takeOps (takeOps ops n) m = takeOps ops m := by
  unfold takeOps
  simp only [List.take_take]
  rw [Nat.min_eq_left h]
theorem lastB_parts {ops : Array Oper} {n : Nat} (hB : lastB ops n = true) : ops.size = n + 1 ∧ Region.sinkB .any ops n = true ∧ Region.chainB .any ops n = true ∧
    (∀ (i : Nat) (o : Oper), ops[i]? = some o → ∀ e ∈ o.after, Region.binds .any e = true → e.on < i) ∧ (∀ (i : Nat) (o : Oper), ops[i]? = some o → ∀ g b, o.guard = some (g, b) → g < i) ∧ (∀ o, ops[n]? = some o → o.guard = none) := by
  unfold lastB at hB
  simp only [Bool.and_eq_true, decide_eq_true_eq] at hB
  obtain ⟨⟨⟨⟨hsz, hs⟩, hc⟩, hall⟩, hg⟩ := hB
  have hall' : ∀ (i : Nat) (o : Oper), ops[i]? = some o → (∀ e ∈ o.after, Region.binds .any e = true → e.on < i) ∧ ∀ g b, o.guard = some (g, b) → g < i := by
    intro i o ho
    have hlt : i < ops.size := (Array.getElem?_eq_some_iff.1 ho).1
    have := List.all_eq_true.1 hall i (List.mem_range.2 (by omega))
    rw [ho] at this
    simp only [Bool.and_eq_true] at this
    refine ⟨fun e he hb => ?_, fun g b hgb => ?_⟩
    · have h1 := Array.all_eq_true_iff_forall_mem.1 this.1 e he
      rw [hb] at h1
      simpa using h1
    · have h2 := this.2
      rw [hgb] at h2
      simpa using h2
  refine ⟨hsz, hs, hc, fun i o ho => (hall' i o ho).1, fun i o ho => (hall' i o ho).2, fun o ho => ?_⟩
  rw [ho] at hg
  simpa using hg
/-! ### more edges, to what has come up already -/
def addO (L : List Nat) (o : Oper) : Oper := { o with after := o.after ++ (L.map fun k => (⟨k, .data⟩ : Edge)).toArray }
def addE (L : List Nat) (n0 : Nat) (ops : Array Oper) : Array Oper := (ops.toList.mapIdx fun i o => if n0 ≤ i then addO L o else o).toArray
theorem addE_get (L : List Nat) (n0 : Nat) (ops : Array Oper) (i : Nat) : (addE L n0 ops)[i]? = (ops[i]?).map fun o => if n0 ≤ i then addO L o else o := by
  unfold addE
  rw [List.getElem?_toArray, List.getElem?_mapIdx, Array.getElem?_toList]
theorem addE_size (L : List Nat) (n0 : Nat) (ops : Array Oper) : (addE L n0 ops).size = ops.size := by unfold addE; simp
theorem addE_yielded (L : List Nat) (n0 : Nat) (ops : Array Oper) (t : Array Value) : yielded (addE L n0 ops) t = yielded ops t := by
  funext j
  unfold yielded
  rw [addE_get]
  cases ops[j]? with
  | none => rfl
  | some o =>
    simp only [Option.map_some, Option.bind_some]
    by_cases hn : n0 ≤ j
    · rw [if_pos hn]
      rfl
    · rw [if_neg hn]
theorem addE_ready {L : List Nat} {n0 : Nat} {ops : Array Oper} {l : Array Bool} (hL : ∀ k ∈ L, l.getD k false = true) (j : Nat) : j ∈ Region.ready md (addE L n0 ops) l ↔ j ∈ Region.ready md ops l := by
  rw [mem_ready, mem_ready, addE_get]
  constructor
  · rintro ⟨h0, o, ho, h⟩
    refine ⟨h0, ?_⟩
    obtain ⟨o', ho', rfl⟩ := Option.map_eq_some_iff.1 ho
    refine ⟨o', ho', fun e he hb => h e ?_ hb⟩
    split
    · exact Array.mem_append.2 (.inl he)
    · exact he
  · rintro ⟨h0, o, ho, h⟩
    refine ⟨h0, _, by rw [ho]; rfl, fun e he hb => ?_⟩
    split at he
    · rcases Array.mem_append.1 he with he | he
      · exact h e he hb
      · rw [List.mem_toArray] at he
        obtain ⟨k, hk, rfl⟩ := List.mem_map.1 he
        exact hL k hk
    · exact h e he hb
theorem addE_op {L : List Nat} {n0 : Nat} {ops : Array Oper} {Q : Exit → Act → World → Prop} {i : Nat} {K : Act → World → Prop} {a : Act} {w : World} (h : wpOp P (addE L n0 ops) Q i K a w) : wpOp P ops Q i K a w := by
  unfold wpOp at h ⊢
  rw [addE_get] at h
  cases ho : ops[i]? with
  | none => rw [ho] at h; exact h
  | some o =>
    rw [ho] at h
    simp only [Option.map_some] at h ⊢
    rw [addE_yielded] at h
    by_cases hn : n0 ≤ i
    · rw [if_pos hn] at h
      exact h
    · rw [if_neg hn] at h
      exact h
theorem wpAny_addE {L : List Nat} {n0 : Nat} {ops : Array Oper} {Q : Exit → Act → World → Prop} : ∀ (fuel : Nat) (l : Array Bool) (a : Act) (w : World), (∀ k ∈ L, l.getD k false = true) → wpAny P md (addE L n0 ops) Q fuel l a w → wpAny P md ops Q fuel l a w := by
  intro fuel
  have he : ∀ {l : Array Bool}, (∀ k ∈ L, l.getD k false = true) → Region.ready md ops l = [] → Region.ready md (addE L n0 ops) l = [] := fun hL h =>
    List.eq_nil_iff_forall_not_mem.2 fun j hj => by have := (addE_ready hL j).1 hj; rw [h] at this; cases this
  have he' : ∀ {l : Array Bool}, (∀ k ∈ L, l.getD k false = true) → Region.ready md (addE L n0 ops) l = [] → Region.ready md ops l = [] := fun hL h =>
    List.eq_nil_iff_forall_not_mem.2 fun j hj => by have := (addE_ready (n0 := n0) hL j).2 hj; rw [h] at this; cases this
  induction fuel with
  | zero =>
    intro l a w hL h
    exact ⟨he' hL h.1, h.2⟩
  | succ fuel ih =>
    intro l a w hL h
    refine ⟨fun h0 => h.1 (he hL h0), fun i hi => ?_⟩
    refine wpOp_mono (fun a' w' h2 => ih _ a' w' (fun k hk => ?_) h2) (addE_op (h.2 i ((addE_ready hL i).2 hi)))
    by_cases hik : i = k
    · subst hik
      have := hL i hk
      have hlt : i < l.size := by
        rcases Nat.lt_or_ge i l.size with h | h
        · exact h
        · simp [Array.getElem?_eq_none h] at this
      simp [Array.getD_eq_getD_getElem?, hlt]
    · rw [getD_set_ne false hik]; exact hL k hk
/-! ### without a condition -/
theorem held_of_any {ops : Array Oper} {Q : Exit → Act → World → Prop} : ∀ (fuel : Nat) (l : Array Bool) (a : Act) (w : World), wpAny P md ops Q fuel l a w → wpAnyH P md ops Q (fun _ => True) fuel l a w
  | 0, _, _, _, h => h
  | fuel + 1, _, _, _, h => ⟨h.1, fun i hi => wpOp_mono (fun a' w' h' => ⟨trivial, held_of_any fuel _ a' w' h'⟩) (h.2 i hi)⟩
/-! ### the tail -/
/-- the post of the head: what is left, as in a plain region -/
def listQ (P : Program) (ops : Array Oper) (rest : List Oper) (Q : Exit → Act → World → Prop) : Exit → Act → World → Prop
  | .normal, a, w => wpList P ops Q rest a w
  | e, a, w => Q e a w
theorem lets_list {ops : Array Oper} {rest : List Oper} {Q : Exit → Act → World → Prop} (h : LetsOut Q) : LetsOut (listQ P ops rest Q) := h
theorem listQ_nil {ops : Array Oper} {Q : Exit → Act → World → Prop} : listQ P ops [] Q = Q := by
  funext e a w
  cases e <;> rfl
theorem wpOp_monoQ {ops : Array Oper} {Q Q' : Exit → Act → World → Prop} {i : Nat} {K K' : Act → World → Prop} {a : Act} {w : World} (hK : ∀ a w, K a w → K' a w) (hp : ∀ c a w, Q (.panic c) a w → Q' (.panic c) a w) (hl : LetsOut Q → LetsOut Q')
    (h : wpOp P ops Q i K a w) : wpOp P ops Q' i K' a w := by
  unfold wpOp at h ⊢
  cases ho : ops[i]? with
  | none => rw [ho] at h; exact hK _ _ h
  | some o =>
    rw [ho] at h
    simp only at h ⊢
    split at h
    · rename_i hw
      rw [if_pos hw]
      rcases h with h | ⟨h1, h2⟩
      · exact .inl (Oper.wp_switch hK hp hl h)
      · exact .inr ⟨h1, hl h2⟩
    · rename_i hw
      rw [if_neg hw]
      exact hK _ _ h
theorem wpAny_monoQ {ops : Array Oper} {Q Q' : Exit → Act → World → Prop} (hn : ∀ a w, Q .normal a w → Q' .normal a w) (hp : ∀ c a w, Q (.panic c) a w → Q' (.panic c) a w) (hl : LetsOut Q → LetsOut Q') :
    ∀ (fuel : Nat) (l : Array Bool) (a : Act) (w : World), wpAny P md ops Q fuel l a w → wpAny P md ops Q' fuel l a w
  | 0, _, a, w, h => ⟨h.1, hn a w h.2⟩
  | fuel + 1, _, a, w, h => ⟨fun h0 => hn a w (h.1 h0), fun i hi => wpOp_monoQ (fun a' w' h' => wpAny_monoQ hn hp hl fuel _ a' w' h') hp hl (h.2 i hi)⟩
def tailB (ops : Array Oper) (n k : Nat) : Bool := (List.range k).all fun j => lastB (takeOps ops (n + j + 1)) (n + j)
def takeL (l : Array Bool) (n : Nat) : Array Bool := (l.toList.take n).toArray
theorem takeL_get {l : Array Bool} {n i : Nat} (h : i < n) (d : Bool) : (takeL l n).getD i d = l.getD i d := by
  unfold takeL
  rw [Array.getD_eq_getD_getElem?, Array.getD_eq_getD_getElem?, List.getElem?_toArray, List.getElem?_take_of_lt h, Array.getElem?_toList]
theorem takeL_size {l : Array Bool} {n : Nat} (h : n ≤ l.size) : (takeL l n).size = n := by
  unfold takeL
  rw [List.size_toArray, List.length_take, Array.length_toList]
  omega
theorem takeL_all {l : Array Bool} {n : Nat} (h : l.size ≤ n) : takeL l n = l := by
  unfold takeL
  rw [List.take_of_length_le (by rw [Array.length_toList]; exact h)]
/-- what has come up so far: it waits for nothing that has not -/
def headB (ops : Array Oper) (l : Array Bool) (n : Nat) : Bool :=
  decide (l.size = ops.size) && ((List.range ops.size).all fun j => (decide (j < n) || !(l.getD j true)) && (!(l.getD j false) || match ops[j]? with | some o => o.after.all fun e => !(Region.binds .any e) || l.getD e.on false | none => true))
theorem headB_inv {ops : Array Oper} {l : Array Bool} {n m : Nat} (h : headB ops l n = true) (hm : n ≤ m) (hmo : m ≤ ops.size) (hedge : ∀ (i : Nat) (o : Oper), ops[i]? = some o → ∀ e ∈ o.after, Region.binds .any e = true → e.on < i) : HeadInv .any (takeOps ops (m + 1)) m (takeL l (m + 1)) ∧ l.size = ops.size := by
  unfold headB at h
  simp only [Bool.and_eq_true, decide_eq_true_eq] at h
  obtain ⟨h0, h1⟩ := h
  have h2 : ∀ j, j < ops.size → (j < n ∨ l.getD j true = false) ∧ (l.getD j false = true → ∀ o, ops[j]? = some o → ∀ e ∈ o.after, Region.binds .any e = true → l.getD e.on false = true) := by
    intro j hj
    have := List.all_eq_true.1 h1 j (List.mem_range.2 hj)
    simp only [Bool.and_eq_true, Bool.or_eq_true, decide_eq_true_eq, Bool.not_eq_true'] at this
    refine ⟨this.1, fun hl o ho e he hb => ?_⟩
    rcases this.2 with h | h
    · rw [hl] at h; cases h
    · rw [ho] at h
      have h3 := Array.all_eq_true_iff_forall_mem.1 h e he
      rw [hb] at h3
      simpa using h3
  have hsz : (takeL l (m + 1)).size = (takeOps ops (m + 1)).size := by
    unfold takeL takeOps
    simp only [List.size_toArray, List.length_take, Array.length_toList, h0]
  refine ⟨⟨hsz, fun j oj hj hl e he hb => ?_, fun t ht htm => ?_⟩, h0⟩
  · have hjm : j < m + 1 := by
      have := (Array.getElem?_eq_some_iff.1 hj).1
      unfold takeOps at this
      rw [List.size_toArray, List.length_take] at this
      omega
    rw [takeOps_get hjm] at hj
    rw [takeL_get hjm] at hl
    have hjs := (Array.getElem?_eq_some_iff.1 hj).1
    have he2 := hedge j oj hj e he hb
    rw [takeL_get (by omega)]
    exact (h2 j hjs).2 hl oj hj e he hb
  · unfold takeOps at htm
    rw [List.size_toArray, List.length_take, Array.length_toList] at htm
    rw [takeL_get (by omega)]
    rcases (h2 t (by omega)).1 with h | h
    · omega
    · exact h
theorem tail_many {ops : Array Oper} {Q : Exit → Act → World → Prop} {l : Array Bool} {n0 : Nat} (hedge : ∀ (i : Nat) (o : Oper), ops[i]? = some o → ∀ e ∈ o.after, Region.binds .any e = true → e.on < i) (hh : headB ops l n0 = true) :
    ∀ (k n : Nat), n0 ≤ n → ops.size = n + k → tailB ops n k = true → ∀ (fuel : Nat) (a : Act) (w : World), wpAny P .any (takeOps ops n) (listQ P ops (ops.toList.drop n) Q) fuel (takeL l n) a w → wpAny P .any ops Q (fuel + k) l a w := by
  intro k
  induction k with
  | zero =>
    intro n hn hsz _ fuel a w h
    have hl := (headB_inv hh (m := n0) (Nat.le_refl _) (by omega) hedge).2
    rw [takeOps_all (by omega), takeL_all (by omega), List.drop_eq_nil_of_le (by rw [Array.length_toList]; omega), listQ_nil] at h
    exact h
  | succ k ih =>
    intro n hn hsz hB fuel a w h
    have hlt : n < ops.size := by omega
    obtain ⟨inv, hl⟩ := headB_inv hh (m := n) hn (by omega) hedge
    have hB0 : lastB (takeOps ops (n + 1)) n = true := by
      have := List.all_eq_true.1 hB 0 (List.mem_range.2 (by omega))
      simpa using this
    obtain ⟨h1, h2, h3, h4, h5, h6⟩ := lastB_parts hB0
    have hol : (takeOps ops (n + 1))[n]? = some ops[n] := by rw [takeOps_get (by omega)]; exact Array.getElem?_eq_getElem hlt
    have hdrop : ops.toList.drop n = ops[n] :: ops.toList.drop (n + 1) := by
      rw [List.drop_eq_getElem_cons (by rw [Array.length_toList]; exact hlt)]
      simp
    have hg := h6 _ hol
    have hB' : tailB ops (n + 1) k = true := List.all_eq_true.2 fun j hj => by
      have := List.all_eq_true.1 hB (j + 1) (List.mem_range.2 (by have := List.mem_range.1 hj; omega))
      rw [show n + (j + 1) + 1 = n + 1 + j + 1 by omega, show n + (j + 1) = n + 1 + j by omega] at this
      exact this
    have := ih (n + 1) (by omega) (by omega) hB' (fuel + 1) a w ?_
    · rw [show fuel + (k + 1) = fuel + 1 + k by omega]; exact this
    refine last_core (ops := takeOps ops (n + 1)) (init := takeOps ops n) (ol := ops[n]) h1 (takeOps_size (by omega)) (fun i hi => by rw [takeOps_get hi, takeOps_get (by omega)]) h2 h3 h4 h5 hol hg fuel (takeL l n) (takeL l (n + 1)) a w (takeL_size (by omega)) (fun i hi d => by rw [takeL_get hi, takeL_get (by omega)]) inv ?_
    rw [hdrop] at h
    refine wpAny_monoQ (Q := listQ P ops (ops[n] :: ops.toList.drop (n + 1)) Q) (Q' := lastQ P (takeOps ops (n + 1)) ops[n] (listQ P ops (ops.toList.drop (n + 1)) Q)) (fun a w hq => ?_) (fun _ _ _ hq => hq) (fun hq => hq) _ _ _ _ h
    have hq : wpList P ops Q (ops[n] :: ops.toList.drop (n + 1)) a w := hq
    show wpList P (takeOps ops (n + 1)) (listQ P ops (ops.toList.drop (n + 1)) Q) [ops[n]] a w
    have hwant : ∀ y, Region.wanted ops[n] y = true := fun y => by unfold Region.wanted; rw [hg]
    unfold wpList at hq ⊢
    rw [if_pos (hwant _)] at hq ⊢
    rcases hq with hq | ⟨hq1, hq2⟩
    · refine .inl (Oper.wp_switch (fun a w h => ?_) (fun _ _ _ h => h) (fun h => h) hq)
      show wpList P _ (listQ P ops (ops.toList.drop (n + 1)) Q) [] a w
      exact h
    · exact .inr ⟨hq1, hq2⟩
/-- THE LAW. What stands in L is taken at once (it waits for nothing and is apart from all); then the head under S; then the tail as in a plain region. -/
theorem wp_region_tail (_L : List Nat) (n k : Nat) {id : Nat} {ops : Array Oper} {Q : Exit → Act → World → Prop} {a : Act} {w : World} (hm : P.follows .mixedOrders = true) (_hsz : ops.size = n + k)
    (h : wpAnyH P .any ops Q (fun _ => True) ops.size (Array.replicate ops.size false) a w.drew) : (Code.region id ops true).wp P Q a w :=
  wp_region_any hm (wpAny_of_held _ _ _ _ h)
theorem addE_drop (L : List Nat) (n : Nat) (ops : Array Oper) : (addE L n ops).toList.drop n = (ops.toList.drop n).map (addO L) := by
  apply List.ext_getElem?
  intro i
  rw [List.getElem?_drop, Array.getElem?_toList, addE_get, List.getElem?_map, List.getElem?_drop, Array.getElem?_toList]
  cases ops[n + i]? with
  | none => rfl
  | some o => simp only [Option.map_some]; rw [if_pos (by omega)]
theorem list_addE {L : List Nat} {n : Nat} {ops : Array Oper} {Q : Exit → Act → World → Prop} : ∀ (rest : List Oper) (a : Act) (w : World), wpList P ops Q rest a w → wpList P (addE L n ops) Q (rest.map (addO L)) a w
  | [], _, _, h => h
  | o :: rest, a, w, h => by
    rw [List.map_cons]
    unfold wpList at h ⊢
    rw [addE_yielded]
    have e : ∀ y, Region.wanted (addO L o) y = Region.wanted o y := fun _ => rfl
    rw [e]
    split
    · rename_i hw
      rw [if_pos hw] at h
      rcases h with h | h
      · exact .inl (Oper.wp_mono (fun a w h => list_addE rest a w h) (show Oper.wp P (addO L o) a w (wpList P ops Q rest) Q from h))
      · exact .inr h
    · rename_i hw
      rw [if_neg hw] at h
      exact list_addE rest _ _ h
theorem held_intro {ops : Array Oper} {Q : Exit → Act → World → Prop} {S : World → Prop} {fuel : Nat} {l : Array Bool} {a : Act} {w : World} (hS : S w) (h : S w → wpAnyH P md ops Q S fuel l a w) : wpAnyH P md ops Q S fuel l a w := h hS
theorem tail_go (L : List Nat) (n k fuel : Nat) {ops : Array Oper} {Q : Exit → Act → World → Prop} {l : Array Bool} {a : Act} {w : World} (S : World → Prop) (hsz : ops.size = n + k) (hL : (L.all fun j => l.getD j false) = true)
    (hT : tailB (addE L n ops) n k = true) (hH : headB (addE L n ops) l n = true) (hE : ((List.range ops.size).all fun i => match (addE L n ops)[i]? with | some o => o.after.all fun e => !(Region.binds .any e) || decide (e.on < i) | none => true) = true)
    (h : wpAnyH P .any (ops.toList.take n).toArray (listQ P ops (ops.toList.drop n) Q) S fuel (takeL l n) a w) : wpAnyH P .any ops Q (fun _ => True) (fuel + k) l a w := by
  refine held_of_any _ _ _ _ (wpAny_addE (L := L) (n0 := n) _ _ _ _ (fun k hk => List.all_eq_true.1 hL k hk) ?_)
  refine tail_many (fun i o ho e he hb => ?_) hH k n (Nat.le_refl _) (by rw [addE_size]; exact hsz) hT fuel a w ?_
  · have hlt := (Array.getElem?_eq_some_iff.1 ho).1
    rw [addE_size] at hlt
    have := List.all_eq_true.1 hE i (List.mem_range.2 hlt)
    rw [ho] at this
    have h1 := Array.all_eq_true_iff_forall_mem.1 this e he
    rw [hb] at h1
    simpa using h1
  · have he : takeOps (addE L n ops) n = (ops.toList.take n).toArray := by
      unfold takeOps
      apply Array.ext_getElem?
      intro i
      rw [List.getElem?_toArray, List.getElem?_toArray]
      by_cases hi : i < n
      · rw [List.getElem?_take_of_lt hi, List.getElem?_take_of_lt hi, Array.getElem?_toList, addE_get, Array.getElem?_toList]
        cases ops[i]? with
        | none => rfl
        | some o => simp only [Option.map_some]; rw [if_neg (by omega)]
      · rw [List.getElem?_take, List.getElem?_take, if_neg hi, if_neg hi]
    rw [he]
    refine wpAny_monoQ (Q := listQ P ops (ops.toList.drop n) Q) (Q' := listQ P (addE L n ops) ((addE L n ops).toList.drop n) Q) (fun a w hq => ?_) (fun _ _ _ hq => hq) (fun hq => hq) _ _ _ _ (wpAny_of_held _ _ _ _ h)
    show wpList P (addE L n ops) Q ((addE L n ops).toList.drop n) a w
    rw [addE_drop]
    exact list_addE _ _ _ hq
end
end Go.Proofs.YtinakendlpomnaaGreat
/- The reference's mover: its rows, side by side. -/
namespace Go.Proofs.YtinakendlpomnaaGreat
open Go Go.RowKit Go.Maps Arena
set_option maxHeartbeats 4000000
set_option maxRecDepth 100000
theorem numC_rows (L : List Int) : Rows1 1 (L.map numC) := by
  intro cs hm
  obtain ⟨x, _, rfl⟩ := List.mem_map.1 hm
  exact ⟨rfl, fun u hu => by rw [List.mem_singleton.1 hu]; rfl⟩
/-- a row that is an object, its fields of the call's own, and not where the words lie -/
def RowF (W : World) (B : Nat) (vw : Value) (o : Ob) (r : List Value) : Prop := ∃ q c, r = [.int .i64 o.kind, .int .i64 o.tag, .slice q o.fields.length c, .string o.text] ∧ OwnP W B 51 (.slice q o.fields.length c) 1 (o.fields.map wordC) ∧ ∀ b, (Value.slice q o.fields.length c).ownBlock = some b → vw.ownBlock ≠ some b
def fldB3 (r : List Value) : Option Nat := (r.getD 2 undef).ownBlock
theorem RowF.ext {W W' : World} {B : Nat} {vw : Value} {o : Ob} {r : List Value} (h : RowF W B vw o r) (e : Ext W W') : RowF W' B vw o r := by
  obtain ⟨q, c, h1, h2, h3⟩ := h
  exact ⟨q, c, h1, h2.ext e, h3⟩
theorem RowF.lt {W : World} {B : Nat} {vw : Value} {o : Ob} {r : List Value} (h : RowF W B vw o r) {b : Nat} (hb : fldB3 r = some b) : B ≤ b ∧ b < W.heap.size := by
  obtain ⟨q, c, rfl, h2, _⟩ := h
  exact h2.own b hb
structure MvR (W : World) (B : Nat) (vf vt vo vw : Value) (LF LT : List Int) (Lo : List Ob) (V : List Int) (rows : List (List Value)) : Prop where
  f : OwnP W B 3 vf 1 (LF.map numC)
  t : OwnP W B 3 vt 1 (LT.map numC)
  o : OwnP W B 55 vo 4 rows
  w : OwnP W B 51 vw 1 (V.map wordC)
  ft : ∀ b, vf.ownBlock = some b → vt.ownBlock ≠ some b
  len : rows.length = Lo.length
  row : ∀ (i : Nat) (o : Ob) (r : List Value), Lo[i]? = some o → rows[i]? = some r → RowF W B vw o r
  dis : ∀ (i j : Nat) (r r' : List Value), rows[i]? = some r → rows[j]? = some r' → i ≠ j → ∀ b, fldB3 r = some b → fldB3 r' ≠ some b
section
variable {W W' : World} {B : Nat} {vf vt vo vw : Value} {LF LT : List Int} {Lo : List Ob} {V : List Int} {rows : List (List Value)}
theorem MvR.ext (h : MvR W B vf vt vo vw LF LT Lo V rows) (e : Ext W W') : MvR W' B vf vt vo vw LF LT Lo V rows :=
  ⟨h.f.ext e, h.t.ext e, h.o.ext e, h.w.ext e, h.ft, h.len, fun i o r ho hr => (h.row i o r ho hr).ext e, h.dis⟩
/-- blocks of another type turn -/
theorem MvR.turn (h : MvR W B vf vt vo vw LF LT Lo V rows) {bs : List Nat} (t : Turn bs W W') (h1 : ∀ b ∈ bs, ∃ cs T, W.heap[b]? = some (.cells cs T (0, 0)) ∧ T ≠ 3 ∧ T ≠ 55 ∧ T ≠ 51) : MvR W' B vf vt vo vw LF LT Lo V rows := by
  refine ⟨h.f.turn t fun b hb hm => ?_, h.t.turn t fun b hb hm => ?_, h.o.turn t fun b hb hm => ?_, h.w.turn t fun b hb hm => ?_, h.ft, h.len, fun i o r ho hr => ?_, h.dis⟩
  · obtain ⟨cs, T, hc, t1, t2, t3⟩ := h1 b hm; exact h.f.not_at hc (Ne.symm t1) hb
  · obtain ⟨cs, T, hc, t1, t2, t3⟩ := h1 b hm; exact h.t.not_at hc (Ne.symm t1) hb
  · obtain ⟨cs, T, hc, t1, t2, t3⟩ := h1 b hm; exact h.o.not_at hc (Ne.symm t2) hb
  · obtain ⟨cs, T, hc, t1, t2, t3⟩ := h1 b hm; exact h.w.not_at hc (Ne.symm t3) hb
  · obtain ⟨q, c, h2, h3, h4⟩ := h.row i o r ho hr
    exact ⟨q, c, h2, h3.turn t fun b hb hm => (by obtain ⟨cs, T, hc, t1, t2, t3⟩ := h1 b hm; exact h3.not_at hc (Ne.symm t3) hb), h4⟩
theorem MvR.addF (h : MvR W B vf vt vo vw LF LT Lo V rows) {vf' : Value} {x : Int} (hg : W.grownBy W' vf.ownBlock) (hf : OwnP W' B 3 vf' 1 (LF.map numC ++ [numC x])) (hb : vf'.ownBlock = vf.ownBlock ∨ vf'.ownBlock = some W.heap.size) : MvR W' B vf' vt vo vw (LF ++ [x]) LT Lo V rows := by
  refine ⟨by rw [List.map_append]; exact hf, h.t.grown hg fun b hb e => h.ft b e hb, h.o.grown hg fun b hb e => h.f.apart h.o (by decide) hb e, h.w.grown hg fun b hb e => h.f.apart h.w (by decide) hb e, fun b hb' e => ?_, h.len, fun i o r ho hr => ?_, h.dis⟩
  · rcases hb with hb | hb
    · rw [hb] at hb'; exact h.ft b hb' e
    · rw [hb] at hb'
      have := (h.t.own b e).2
      have := Option.some.inj hb'
      omega
  · obtain ⟨q, c, h2, h3, h4⟩ := h.row i o r ho hr
    exact ⟨q, c, h2, h3.grown hg fun b hb e => h.f.apart h3 (by decide) hb e, h4⟩
theorem MvR.addT (h : MvR W B vf vt vo vw LF LT Lo V rows) {vt' : Value} {x : Int} (hg : W.grownBy W' vt.ownBlock) (hf : OwnP W' B 3 vt' 1 (LT.map numC ++ [numC x])) (hb : vt'.ownBlock = vt.ownBlock ∨ vt'.ownBlock = some W.heap.size) : MvR W' B vf vt' vo vw LF (LT ++ [x]) Lo V rows := by
  refine ⟨h.f.grown hg fun b hb e => h.ft b hb e, by rw [List.map_append]; exact hf, h.o.grown hg fun b hb e => h.t.apart h.o (by decide) hb e, h.w.grown hg fun b hb e => h.t.apart h.w (by decide) hb e, fun b hb' e => ?_, h.len, fun i o r ho hr => ?_, h.dis⟩
  · rcases hb with hb | hb
    · rw [hb] at e; exact h.ft b hb' e
    · rw [hb] at e
      have := (h.f.own b hb').2
      have := Option.some.inj e
      omega
  · obtain ⟨q, c, h2, h3, h4⟩ := h.row i o r ho hr
    exact ⟨q, c, h2, h3.grown hg fun b hb e => h.t.apart h3 (by decide) hb e, h4⟩
theorem MvR.addO (h : MvR W B vf vt vo vw LF LT Lo V rows) {vo' : Value} {o : Ob} {r : List Value} (hg : W.grownBy W' vo.ownBlock) (hf : OwnP W' B 55 vo' 4 (rows ++ [r])) (hr : RowF W B vw o r) (hd : ∀ (i : Nat) (r' : List Value), rows[i]? = some r' → ∀ b, fldB3 r = some b → fldB3 r' ≠ some b) : MvR W' B vf vt vo' vw LF LT (Lo ++ [o]) V (rows ++ [r]) := by
  have hrow : ∀ (o : Ob) (r : List Value), RowF W B vw o r → RowF W' B vw o r := by
    rintro o r ⟨q, c, h2, h3, h4⟩
    exact ⟨q, c, h2, h3.grown hg fun b hb e => h.o.apart h3 (by decide) hb e, h4⟩
  refine ⟨h.f.grown hg fun b hb e => h.o.apart h.f (by decide) hb e, h.t.grown hg fun b hb e => h.o.apart h.t (by decide) hb e, hf, h.w.grown hg fun b hb e => h.o.apart h.w (by decide) hb e, h.ft, by simp [h.len], fun i o' r' ho' hr' => ?_, fun i j r1 r2 h1 h2 hij b hb e => ?_⟩
  · by_cases hi : i < Lo.length
    · rw [List.getElem?_append_left hi] at ho'
      rw [List.getElem?_append_left (by rw [h.len]; exact hi)] at hr'
      exact hrow _ _ (h.row i o' r' ho' hr')
    · have hi2 : i = Lo.length := by
        have := (List.getElem?_eq_some_iff.1 ho').1
        simp at this
        omega
      subst hi2
      rw [List.getElem?_append_right (Nat.le_refl _), Nat.sub_self] at ho'
      rw [← h.len, List.getElem?_append_right (Nat.le_refl _), Nat.sub_self] at hr'
      simp at ho' hr'
      subst ho' hr'
      exact hrow _ _ hr
  · have hk : ∀ (i : Nat) (r' : List Value), (rows ++ [r])[i]? = some r' → (i < rows.length ∧ rows[i]? = some r') ∨ (i = rows.length ∧ r' = r) := by
      intro i r' hh
      by_cases hi : i < rows.length
      · rw [List.getElem?_append_left hi] at hh; exact .inl ⟨hi, hh⟩
      · have hi2 : i = rows.length := by
          have := (List.getElem?_eq_some_iff.1 hh).1
          simp at this
          omega
        subst hi2
        rw [List.getElem?_append_right (Nat.le_refl _), Nat.sub_self] at hh
        simp at hh
        exact .inr ⟨rfl, hh.symm⟩
    rcases hk i r1 h1 with ⟨a1, a2⟩ | ⟨a1, a2⟩ <;> rcases hk j r2 h2 with ⟨b1, b2⟩ | ⟨b1, b2⟩
    · exact h.dis i j r1 r2 a2 b2 hij b hb e
    · subst b2
      exact hd i r1 a2 b e hb
    · subst a2
      exact hd j r2 b2 b hb e
    · omega
/-- a field of one of the objects is another one now -/
theorem MvR.field (h : MvR W B vf vt vo vw LF LT Lo V rows) {i : Nat} {o : Ob} {r : List Value} {gf n c k : Nat} {u : Int} (ho : Lo[i]? = some o) (hr : rows[i]? = some r) (hrf : r = [.int .i64 o.kind, .int .i64 o.tag, .slice (some ⟨gf, 0, none⟩) n c, .string o.text]) (hk : k < o.fields.length) :
    MvR (W.setCell ⟨gf, k, none⟩ (.int .u64 u)) B vf vt vo vw LF LT (Lo.set i { o with fields := o.fields.set k u }) V rows ∧ Turn [gf] W (W.setCell ⟨gf, k, none⟩ (.int .u64 u)) := by
  have t : Turn [gf] W (W.setCell ⟨gf, k, none⟩ (.int .u64 u)) := Turn.setCell (Turn.refl [gf] W) (a := ⟨gf, k, none⟩) (.inl (by simp)) _
  obtain ⟨q, c', h2, h3, h4⟩ := h.row i o r ho hr
  rw [hrf] at h2
  have he : Value.slice (some ⟨gf, 0, none⟩) n c = Value.slice q o.fields.length c' := by
    have := congrArg (fun l : List Value => l[2]?) h2
    exact Option.some.inj this
  obtain ⟨rfl, rfl, rfl⟩ := Value.slice.inj he
  have hB : fldB3 r = some gf := by rw [hrf]; rfl
  have hne : ∀ {T : TypeId} {v : Value} {s : Nat} {l : List (List Value)}, OwnP W B T v s l → T ≠ 51 → ∀ b, v.ownBlock = some b → b ∉ [gf] := fun hv hT b hb hm => by
    rw [List.mem_singleton.1 hm] at hb
    exact hv.apart h3 hT (b := gf) rfl hb
  have hst := h3.store (i := k) (f := 0) (cs := wordC (o.fields[k])) (u := .int .u64 u) (by rw [List.getElem?_map, List.getElem?_eq_getElem hk]; rfl) (by omega) rfl
  rw [show (wordC (o.fields[k])).set 0 (.int .u64 u) = wordC u from rfl, ← List.map_set, Nat.add_zero, Nat.mul_one] at hst
  refine ⟨⟨h.f.turn t (hne h.f (by decide)), h.t.turn t (hne h.t (by decide)), h.o.turn t (hne h.o (by decide)), h.w.turn t (fun b hb hm => ?_), h.ft, by rw [List.length_set]; exact h.len, fun j o' r' ho' hr' => ?_, h.dis⟩, t⟩
  · rw [List.mem_singleton.1 hm] at hb
    exact h4 gf rfl hb
  · by_cases hij : i = j
    · subst hij
      rw [hr] at hr'
      obtain rfl := Option.some.inj hr'
      rw [List.getElem?_set_self (List.getElem?_eq_some_iff.1 ho).1] at ho'
      obtain rfl := Option.some.inj ho'
      refine ⟨some ⟨gf, 0, none⟩, c, by dsimp only; rw [List.length_set]; exact hrf, by dsimp only; rw [List.length_set]; exact hst, by dsimp only; rw [List.length_set]; exact h4⟩
    · rw [List.getElem?_set_ne hij] at ho'
      obtain ⟨q', c2, g2, g3, g4⟩ := h.row j o' r' ho' hr'
      refine ⟨q', c2, g2, g3.turn t (fun b hb hm => ?_), g4⟩
      rw [List.mem_singleton.1 hm] at hb
      refine h.dis i j r r' hr hr' hij gf hB ?_
      rw [g2]
      exact hb
end
/-- a block of the call's own, apart from the rows -/
structure NbR (W : World) (n : Nat) (cs : Array Value) (T : TypeId) (vf vt vo : Value) : Prop where
  blk : W.heap[n]? = some (.cells cs T (0, 0))
  nf : vf.ownBlock ≠ some n
  nt : vt.ownBlock ≠ some n
  no : vo.ownBlock ≠ some n
section
variable {W W' : World} {B n : Nat} {cs : Array Value} {T : TypeId} {vf vt vo vw : Value} {LF LT : List Int} {Lo : List Ob} {V : List Int} {rows : List (List Value)}
theorem NbR.lt (h : NbR W n cs T vf vt vo) : n < W.heap.size := (Array.getElem?_eq_some_iff.1 h.blk).1
theorem NbR.ext (h : NbR W n cs T vf vt vo) (e : Ext W W') : NbR W' n cs T vf vt vo := ⟨(Below.block e _ h.lt).trans h.blk, h.nf, h.nt, h.no⟩
theorem NbR.new (m : MvR W B vf vt vo vw LF LT Lo V rows) (hb : W'.heap[W.heap.size]? = some (.cells cs T (0, 0))) : NbR W' W.heap.size cs T vf vt vo :=
  ⟨hb, fun e => by have := (m.f.own _ e).2; omega, fun e => by have := (m.t.own _ e).2; omega, fun e => by have := (m.o.own _ e).2; omega⟩
theorem NbR.addF (h : NbR W n cs T vf vt vo) {vf' : Value} (hg : W.grownBy W' vf.ownBlock) (hb : vf'.ownBlock = vf.ownBlock ∨ vf'.ownBlock = some W.heap.size) : NbR W' n cs T vf' vt vo :=
  ⟨(hg.block n h.lt (fun e => h.nf e.symm)).trans h.blk, fun e => by rcases hb with hb | hb <;> rw [hb] at e; exact h.nf e; have := h.lt; have := Option.some.inj e; omega, h.nt, h.no⟩
theorem NbR.addT (h : NbR W n cs T vf vt vo) {vt' : Value} (hg : W.grownBy W' vt.ownBlock) (hb : vt'.ownBlock = vt.ownBlock ∨ vt'.ownBlock = some W.heap.size) : NbR W' n cs T vf vt' vo :=
  ⟨(hg.block n h.lt (fun e => h.nt e.symm)).trans h.blk, h.nf, fun e => by rcases hb with hb | hb <;> rw [hb] at e; exact h.nt e; have := h.lt; have := Option.some.inj e; omega, h.no⟩
theorem NbR.addO (h : NbR W n cs T vf vt vo) {vo' : Value} (hg : W.grownBy W' vo.ownBlock) (hb : vo'.ownBlock = vo.ownBlock ∨ vo'.ownBlock = some W.heap.size) : NbR W' n cs T vf vt vo' :=
  ⟨(hg.block n h.lt (fun e => h.no e.symm)).trans h.blk, h.nf, h.nt, fun e => by rcases hb with hb | hb <;> rw [hb] at e; exact h.no e; have := h.lt; have := Option.some.inj e; omega⟩
end
/-- the mover -/
def mvCells (vf vt vo vw : Value) (top : Nat) (h : Hp) : Array Value := #[vf, vt, vo, .int .i64 (top : Int), vw, .int .i64 h.base, .int .i64 h.half, .int .i64 h.space, .int .i64 h.top]
structure Mr (W : World) (B mb : Nat) (vf vt vo vw : Value) (LF LT : List Int) (Lo : List Ob) (V : List Int) (rows : List (List Value)) (top : Nat) (h : Hp) : Prop where
  m : MvR W B vf vt vo vw LF LT Lo V rows
  blk : W.heap[mb]? = some (.cells #[vf, vt, vo, .int .i64 (top : Int), vw, .int .i64 h.base, .int .i64 h.half, .int .i64 h.space, .int .i64 h.top] 76 (0, 0))
  ge : B ≤ mb
theorem Mr.ext {W W' : World} {B mb : Nat} {vf vt vo vw : Value} {LF LT : List Int} {Lo : List Ob} {V : List Int} {rows : List (List Value)} {top : Nat} {h : Hp} (k : Mr W B mb vf vt vo vw LF LT Lo V rows top h) (e : Ext W W') : Mr W' B mb vf vt vo vw LF LT Lo V rows top h :=
  ⟨k.m.ext e, (Below.block e _ (Array.getElem?_eq_some_iff.1 k.blk).1).trans k.blk, k.ge⟩
/-- the blocks where rows lie -/
def bsOf (vs : List Value) : List Nat := vs.filterMap Value.ownBlock
theorem bsOf_mem {vs : List Value} {v : Value} {b : Nat} (hv : v ∈ vs) (hb : v.ownBlock = some b) : b ∈ bsOf vs := List.mem_filterMap.2 ⟨v, hv, hb⟩
/-- the state within the region of three appends -/
structure Ap (W0 W : World) (B mb ob : Nat) (c9 c4 : Array Value) (vf vt vo vw : Value) (LF LT : List Int) (Lo : List Ob) (V : List Int) (rows : List (List Value)) (b0 : List Nat) (on : Ob) (rn : List Value) : Prop where
  m : MvR W B vf vt vo vw LF LT Lo V rows
  k : W.heap[mb]? = some (.cells c9 76 (0, 0))
  o : NbR W ob c4 55 vf vt vo
  t : Turn b0 W0 W
  b : B ≤ W0.heap.size
  n : RowF W B vw on rn
section
variable {W0 W W' : World} {B mb ob : Nat} {c9 c4 : Array Value} {vf vt vo vw : Value} {LF LT : List Int} {Lo : List Ob} {V : List Int} {rows : List (List Value)} {b0 : List Nat} {on : Ob} {rn : List Value}
theorem Ap.base (h : Ap W0 W B mb ob c9 c4 vf vt vo vw LF LT Lo V rows b0 on rn) : B ≤ W.heap.size := Nat.le_trans h.b h.t.size
theorem Ap.ext (h : Ap W0 W B mb ob c9 c4 vf vt vo vw LF LT Lo V rows b0 on rn) (e : Ext W W') : Ap W0 W' B mb ob c9 c4 vf vt vo vw LF LT Lo V rows b0 on rn :=
  ⟨h.m.ext e, (Below.block e _ (Array.getElem?_eq_some_iff.1 h.k).1).trans h.k, h.o.ext e, h.t.trans (Turn.of_ext e), h.b, h.n.ext e⟩
theorem ap_turn {bs : List Nat} {row : Option Nat} (t : Turn bs W0 W) (hg : W.grownBy W' row) (hr : ∀ b, row = some b → b ∈ bs) : Turn bs W0 W' := t.trans (Turn.of_grown hg fun b e => .inl (hr b e))
theorem RowF.grown {T : TypeId} {v : Value} {s : Nat} {l : List (List Value)} (h : RowF W B vw on rn) (hv : OwnP W B T v s l) (hT : T ≠ 51) (hg : W.grownBy W' v.ownBlock) : RowF W' B vw on rn := by
  obtain ⟨q, c, h2, h3, h4⟩ := h
  exact ⟨q, c, h2, h3.grown hg fun b hb e => hv.apart h3 hT hb e, h4⟩
theorem Ap.addF (h : Ap W0 W B mb ob c9 c4 vf vt vo vw LF LT Lo V rows b0 on rn) {vf' : Value} {x : Int} (hg : W.grownBy W' vf.ownBlock) (hf : OwnP W' B 3 vf' 1 (LF.map numC ++ [numC x])) (hb : vf'.ownBlock = vf.ownBlock ∨ vf'.ownBlock = some W.heap.size) (hm : ∀ b, vf.ownBlock = some b → b ∈ b0) : Ap W0 W' B mb ob c9 c4 vf' vt vo vw (LF ++ [x]) LT Lo V rows b0 on rn :=
  ⟨h.m.addF hg hf hb, (hg.block mb (Array.getElem?_eq_some_iff.1 h.k).1 (fun e => h.m.f.not_at h.k (by decide) e.symm)).trans h.k, h.o.addF hg hb, ap_turn h.t hg hm, h.b, h.n.grown h.m.f (by decide) hg⟩
theorem Ap.addT (h : Ap W0 W B mb ob c9 c4 vf vt vo vw LF LT Lo V rows b0 on rn) {vt' : Value} {x : Int} (hg : W.grownBy W' vt.ownBlock) (hf : OwnP W' B 3 vt' 1 (LT.map numC ++ [numC x])) (hb : vt'.ownBlock = vt.ownBlock ∨ vt'.ownBlock = some W.heap.size) (hm : ∀ b, vt.ownBlock = some b → b ∈ b0) : Ap W0 W' B mb ob c9 c4 vf vt' vo vw LF (LT ++ [x]) Lo V rows b0 on rn :=
  ⟨h.m.addT hg hf hb, (hg.block mb (Array.getElem?_eq_some_iff.1 h.k).1 (fun e => h.m.t.not_at h.k (by decide) e.symm)).trans h.k, h.o.addT hg hb, ap_turn h.t hg hm, h.b, h.n.grown h.m.t (by decide) hg⟩
theorem Ap.addO (h : Ap W0 W B mb ob c9 c4 vf vt vo vw LF LT Lo V rows b0 on rn) {vo' : Value} (hg : W.grownBy W' vo.ownBlock) (hf : OwnP W' B 55 vo' 4 (rows ++ [rn])) (hb : vo'.ownBlock = vo.ownBlock ∨ vo'.ownBlock = some W.heap.size) (hm : ∀ b, vo.ownBlock = some b → b ∈ b0) (hd : ∀ (i : Nat) (r' : List Value), rows[i]? = some r' → ∀ b, fldB3 rn = some b → fldB3 r' ≠ some b) : Ap W0 W' B mb ob c9 c4 vf vt vo' vw LF LT (Lo ++ [on]) V (rows ++ [rn]) b0 on rn :=
  ⟨h.m.addO hg hf h.n hd, (hg.block mb (Array.getElem?_eq_some_iff.1 h.k).1 (fun e => h.m.o.not_at h.k (by decide) e.symm)).trans h.k, h.o.addO hg hb, ap_turn h.t hg hm, h.b, h.n.grown h.m.o (by decide) hg⟩
end
section
variable {W W' : World} {B : Nat}
/-- a row of another type than int and Object stays, behind appends -/
theorem OwnP.past {T : TypeId} {v : Value} {s : Nat} {l : List (List Value)} {vs : List Value} (h : OwnP W B T v s l) (t : Turn (bsOf vs) W W') (hn : ∀ u ∈ vs, ∀ b, u.ownBlock = some b → v.ownBlock ≠ some b) : OwnP W' B T v s l :=
  h.turn t fun b hb hm => by
    obtain ⟨u, hu, hub⟩ := List.mem_filterMap.1 hm
    exact hn u hu b hub hb
end
theorem EObjR : ElemT Tryz.prog 74 55 4 56 := ⟨Tryz.underlying74, ⟨.agg #[.int .i64 0, .int .i64 0, .slice none 0 0, .string ⟨#[]⟩], by kernel_rfl, rfl⟩, by decide⟩
theorem k_gen {K : World → Prop} {w : World} (F : World → Prop) (hF : F w) (h : ∀ W, F W → K W) : K w := h w hF
end Go.Proofs.YtinakendlpomnaaGreat
/- The reference's mover: move. -/
namespace Go.Proofs.YtinakendlpomnaaGreat
open Go Go.RowKit Go.Deep Go.Maps Arena
set_option maxHeartbeats 8000000
set_option maxRecDepth 100000
theorem rmove_int {mb : Nat} {x : Int} (hx : W64 x) (hi : isIntW x = true) (W : World) : Calls Tryz.prog 54 #[.pointer (some ⟨mb, 0, none⟩), .int .u64 x] W fun e w' => e = .returned (.int .u64 x) ∧ W = w' := by
  have HI := Lib.hid (fun W => refIsInt_is hx W)
  rw [hi] at HI
  clear hi hx
  go_enter Tryz.func54, Tryz.ntmps54
  go_wp2_with fail
  refine (HI.out _).mono ?_
  rintro e w1 ⟨rfl, rfl⟩
  go_wp2
  go_ret
  exact ⟨rfl, rfl⟩
theorem numcell {W : World} {B : Nat} {q : Option Addr} {n c : Nat} {L : List Int} (h : OwnP W B 3 (.slice q n c) 1 (L.map numC)) {i : Nat} {y : Int} (hi : L[i]? = some y) : ∃ g, q = some ⟨g, 0, none⟩ ∧ W.cell? ⟨g, i, none⟩ = some (.int .i64 y) := by
  obtain ⟨g, hq, _, hc, _⟩ := h.cell (i := i) (f := 0) (cs := numC y) (u := .int .i64 y) (by rw [List.getElem?_map, hi]; rfl) rfl
  rw [Nat.add_zero, Nat.mul_one] at hc
  exact ⟨g, hq, hc⟩
theorem rmove_seen {W : World} {B mb : Nat} {vf vt vo vw : Value} {LF LT : List Int} {Lo : List Ob} {V : List Int} {rows : List (List Value)} {top : Nat} {h : Hp} (k : Mr W B mb vf vt vo vw LF LT Lo V rows top h) {x : Int} (hx : W64 x) (hi : isIntW x = false) {at_ i tw : Nat} (hat : x / 2 = (at_ : Int)) (ha : at_ < 4294967296)
    (_hL : LF.length ≤ 4000) (hLT : LT.length = LF.length) (hf : LF[i]? = some (at_ : Int)) (hb : ∀ j y, j < i → LF[j]? = some y → y ≠ (at_ : Int)) (ht : LT[i]? = some (tw : Int)) (hto : tw ≤ 4294967295) :
    Calls Tryz.prog 54 #[.pointer (some ⟨mb, 0, none⟩), .int .u64 x] W fun e w' => e = .returned (.int .u64 ((2 * tw : Nat) : Int)) ∧ W = w' := by
  have HI := Lib.hid (fun W => refIsInt_is hx W)
  have HA := Lib.hid (fun W => refAt_is hx W)
  rw [hi] at HI HA
  rw [hat, if_neg (by simp; omega)] at HA
  have HP := Lib.hid (fun W => refPlace_is hto W)
  obtain ⟨y0, y1, -, -, -, -, -, -, -⟩ := cells9 k.blk
  obtain ⟨qf, cf, rfl, hf1, hf2⟩ := k.m.f.len
  obtain ⟨qt, ct, rfl, ht1, ht2⟩ := k.m.t.len
  rw [List.length_map] at hf1 y0 ht1 y1
  have HK := Lib.hid k
  have HLT := Lib.hid hLT
  have HB := Lib.hid hb; have HF := Lib.hid hf; have HT := Lib.hid ht
  have hil := (List.getElem?_eq_some_iff.1 hf).1
  clear hx hi hat k hb hf ht hLT
  unfold maxLen at hf2 ht2
  go_enter Tryz.func54, Tryz.ntmps54
  go_wp2_with fail
  refine (HI.out _).mono ?_
  rintro e w1 ⟨rfl, rfl⟩
  go_wp2_with fail
  refine (HA.out _).mono ?_
  rintro e w1 ⟨rfl, rfl⟩
  go_wp2_with fail
  go_loop [6] (fun v => ∃ a : Nat, a ≤ i ∧ v = .int .i64 a) (fun v => LF.length - (Go.RowKit.intOf v).toNat)
  case atStart => exact ⟨0, Nat.zero_le _, rfl⟩
  case round =>
    obtain ⟨a, hai, rfl⟩ := hrel
    have i1 : (a : Int) < (LF.length : Int) := by omega
    obtain ⟨ya, hya⟩ : ∃ ya, LF[a]? = some ya := ⟨_, List.getElem?_eq_getElem (by omega)⟩
    have hc0 := HK.out.m.f
    rw [List.length_map] at hc0
    obtain ⟨gf, rfl, hc⟩ := numcell hc0 hya
    clear hc0
    by_cases hlt : a < i
    · have hne := HB.out a ya hlt hya
      clear hya
      have hb1 : (ya == (at_ : Int)) = false := by simpa using hne
      clear hne
      go_wp2
      exact ⟨⟨a + 1, by omega, by go_num⟩, by simp [Go.RowKit.intOf]; omega⟩
    · obtain rfl : a = i := by omega
      rw [HF.out] at hya
      obtain rfl := Option.some.inj hya
      have hd0 := HK.out.m.t
      rw [List.length_map] at hd0
      have i2 : (a : Int) < (LT.length : Int) := by have := HLT.out; omega
      obtain ⟨gt, rfl, hd⟩ := numcell hd0 HT.out
      clear hya hd0 hlt
      go_wp2_with fail
      refine (HP.out _).mono ?_
      rintro e w1 ⟨rfl, rfl⟩
      go_wp2
      go_ret
      exact ⟨rfl, rfl⟩
theorem Ap.sees {W0 W : World} {B mb ob : Nat} {c9 c4 : Array Value} {vf vt vo vw : Value} {LF LT : List Int} {Lo : List Ob} {V : List Int} {rows : List (List Value)} {b0 : List Nat} {on : Ob} {rn : List Value} (h : Ap W0 W B mb ob c9 c4 vf vt vo vw LF LT Lo V rows b0 on rn)
    {x0 x1 x2 x3 x4 x5 x6 x7 x8 k0 k1 k2 k3 : Value} (h9 : c9 = #[x0, x1, x2, x3, x4, x5, x6, x7, x8]) (h4 : c4 = #[k0, k1, k2, k3]) :
    W.cell? ⟨mb, 0, none⟩ = some x0 ∧ W.cell? ⟨mb, 1, none⟩ = some x1 ∧ W.cell? ⟨mb, 2, none⟩ = some x2 ∧ W.cell? ⟨ob, 0, none⟩ = some k0 ∧ W.cell? ⟨ob, 1, none⟩ = some k1 ∧ W.cell? ⟨ob, 2, none⟩ = some k2 ∧ W.cell? ⟨ob, 3, none⟩ = some k3 := by
  subst h9 h4
  obtain ⟨y0, y1, y2, -⟩ := cells9 h.k
  obtain ⟨z0, z1, z2, z3⟩ := cells4 h.o.blk
  exact ⟨y0, y1, y2, z0, z1, z2, z3⟩
theorem OwnP.len3 {w : World} {base : Nat} {T : TypeId} {v : Value} {s : Nat} {l : List (List Value)} (h : OwnP w base T v s l) : ∃ q n c, v = .slice q n c := by
  obtain ⟨q, c, h1, _, _⟩ := h.len
  exact ⟨q, _, c, h1⟩
theorem Ext.cells5k {w w' : World} (e : Ext w w') {a0 a1 a2 a3 a4 : Addr} {v0 v1 v2 v3 v4 : Value} (h : w.cell? a0 = some v0 ∧ w.cell? a1 = some v1 ∧ w.cell? a2 = some v2 ∧ w.cell? a3 = some v3 ∧ w.cell? a4 = some v4) : w'.cell? a0 = some v0 ∧ w'.cell? a1 = some v1 ∧ w'.cell? a2 = some v2 ∧ w'.cell? a3 = some v3 ∧ w'.cell? a4 = some v4 :=
  ⟨e.cell h.1, e.cell h.2.1, e.cell h.2.2.1, e.cell h.2.2.2.1, e.cell h.2.2.2.2⟩
/-- behind the region of the three appends -/
def CutM (W0 W : World) (B mb ob : Nat) (vw : Value) (LF LT : List Int) (Lo : List Ob) (V : List Int) (top : Nat) (h : Hp) (o : Ob) (q9 : Option Addr) (c9 at_ tw : Nat) (bs : List Nat) (rows : List (List Value)) : Prop :=
  ∃ vf' vt' vo' rows', Mr W B mb vf' vt' vo' vw (LF ++ [(at_ : Int)]) (LT ++ [(tw : Int)]) (Lo ++ [o]) V rows' top h ∧ W.heap[ob]? = some (.cells #[.int .i64 o.kind, .int .i64 o.tag, .slice q9 o.fields.length c9, .string o.text] 55 (0, 0)) ∧ Turn bs W0 W ∧ ob ≠ mb ∧ ∃ rn, rows' = rows ++ [rn] ∧ ∀ b, fldB3 rn = some b → W0.heap.size ≤ b
theorem Ap.cut {W0 W : World} {B mb ob : Nat} {vf0 vt0 vo0 vf vt vo vw : Value} {LF LT : List Int} {Lo : List Ob} {V : List Int} {rows : List (List Value)} {b0 : List Nat} {on o : Ob} {rn : List Value} {top : Nat} {h : Hp} {q9 : Option Addr} {c9 at_ tw : Nat} (hB : B ≤ mb) (hrn : ∀ b, fldB3 rn = some b → W0.heap.size ≤ b)
    (k : Ap W0 W B mb ob #[vf0, vt0, vo0, .int .i64 (top : Int), vw, .int .i64 h.base, .int .i64 h.half, .int .i64 h.space, .int .i64 h.top] #[.int .i64 o.kind, .int .i64 o.tag, .slice q9 o.fields.length c9, .string o.text] vf vt vo vw (LF ++ [(at_ : Int)]) (LT ++ [(tw : Int)]) (Lo ++ [o]) V (rows ++ [rn]) b0 on rn) :
    CutM W0 (((W.setCell ⟨mb, 0, none⟩ vf).setCell ⟨mb, 1, none⟩ vt).setCell ⟨mb, 2, none⟩ vo) B mb ob vw LF LT Lo V top h o q9 c9 at_ tw (mb :: b0) rows := by
  have t : Turn [mb] W (((W.setCell ⟨mb, 0, none⟩ vf).setCell ⟨mb, 1, none⟩ vt).setCell ⟨mb, 2, none⟩ vo) := (((Turn.refl [mb] W).setCell (.inl (by simp)) vf).setCell (.inl (by simp)) vt).setCell (.inl (by simp)) vo
  have hne : ob ≠ mb := by
    rintro rfl
    have h1 := k.o.blk
    rw [k.k] at h1
    obtain ⟨_, h2, _⟩ := Obj.cells.inj (Option.some.inj h1)
    revert h2
    decide
  have hm : (((W.setCell ⟨mb, 0, none⟩ vf).setCell ⟨mb, 1, none⟩ vt).setCell ⟨mb, 2, none⟩ vo).heap[mb]? = some (.cells #[vf, vt, vo, .int .i64 (top : Int), vw, .int .i64 h.base, .int .i64 h.half, .int .i64 h.space, .int .i64 h.top] 76 (0, 0)) := by
    simp [World.setCell, Array.getElem?_modify, k.k]
  refine ⟨vf, vt, vo, _, ⟨k.m.turn t (fun b hb => ?_), hm, hB⟩, t.keep k.o.blk hne, (k.t.mono (by intro b hb; exact List.mem_cons_of_mem _ hb)).trans (t.mono (by simp)), hne, rn, rfl, hrn⟩
  rw [List.mem_singleton.1 hb]
  exact ⟨_, _, k.k, by decide, by decide, by decide⟩
theorem rmove_new {W : World} {B mb : Nat} {vf vt vo vw : Value} {LF LT : List Int} {Lo : List Ob} {V : List Int} {rows : List (List Value)} {top : Nat} {h : Hp} (k : Mr W B mb vf vt vo vw LF LT Lo V rows top h) {x : Int} (hx : W64 x) (hi : isIntW x = false) {at_ tw : Nat} (hat : x / 2 = (at_ : Int)) (ha : at_ < 4294967296)
    (hL : LF.length ≤ 4000) (hLT : LT.length ≤ 4000) (hLo : rows.length ≤ 4000) (hf : ∀ (j : Nat) (y : Int), LF[j]? = some y → y ≠ (at_ : Int)) {o : Ob} (ho : readS (V.drop at_) = some o) (hV : ∀ y ∈ V, W64 y) (hVl : V.length ≤ 100000) (htw : (1 - h.space) * h.half + (top : Int) = (tw : Int)) (hsp0 : 0 ≤ h.space) (hsp1 : h.space ≤ 1) (hhf0 : 0 ≤ h.half) (hhf : h.half ≤ 2000) (htop : top ≤ 4000) (hBW : B ≤ W.heap.size) :
    Calls Tryz.prog 54 #[.pointer (some ⟨mb, 0, none⟩), .int .u64 x] W fun e w' => e = .returned (.int .u64 ((2 * tw : Nat) : Int)) ∧ (∃ vf' vt' vo' rows', Mr w' B mb vf' vt' vo' vw (LF ++ [(at_ : Int)]) (LT ++ [(tw : Int)]) (Lo ++ [o]) V rows' (top + wordsO o) h ∧ ∃ rn, rows' = rows ++ [rn] ∧ ∀ b, fldB3 rn = some b → W.heap.size ≤ b) ∧ Turn (mb :: bsOf [vf, vt, vo]) W w' := by
  have HI := Lib.hid (fun W => refIsInt_is hx W)
  have HA := Lib.hid (fun W => refAt_is hx W)
  rw [hi] at HI HA
  rw [hat, if_neg (by simp; omega)] at HA
  have htwl : tw ≤ 8000 := by
    have : h.space = 0 ∨ h.space = 1 := by omega
    rcases this with e | e <;> rw [e] at htw <;> omega
  have HP := Lib.hid (fun W => refPlace_is (n := tw) (by omega) W)
  obtain ⟨qf, cf, rfl, hf1, hf2⟩ := k.m.f.len
  obtain ⟨qt, ct, rfl, ht1, ht2⟩ := k.m.t.len
  obtain ⟨qo, co, rfl, ho1, ho2⟩ := k.m.o.len
  obtain ⟨qw, cw, rfl, hw1, hw2⟩ := k.m.w.len
  rw [List.length_map] at hf1 ht1 hw1
  have hk := k
  rw [List.length_map, List.length_map, List.length_map] at hk
  rw [List.length_map, List.length_map, List.length_map]
  have HAT := Lib.hid (fun W' (e : Ext W W') => refat_is (S := V) at_ W' (hk.m.w.p.ext e) hV hVl)
  rw [ho] at HAT
  clear k
  obtain ⟨y0, y1, y2, y3, y4, y5, y6, y7, y8⟩ := cells9 hk.blk
  have HK := Lib.hid hk
  have HF := Lib.hid hf
  have HTW := Lib.hid htw
  have HO := Lib.hid ho
  clear hx hi hat hk hf htw ho hV
  unfold maxLen at hf2 ht2 ho2 hw2
  go_enter Tryz.func54, Tryz.ntmps54
  go_wp2_with fail
  refine (HI.out _).mono ?_
  rintro e w1 ⟨rfl, rfl⟩
  go_wp2_with fail
  refine (HA.out _).mono ?_
  rintro e w1 ⟨rfl, rfl⟩
  go_wp2_with fail
  go_loop [6] (fun v => ∃ a : Nat, a ≤ LF.length ∧ v = .int .i64 a) (fun v => LF.length - (Go.RowKit.intOf v).toNat)
  case atStart => exact ⟨0, Nat.zero_le _, rfl⟩
  case round =>
    obtain ⟨a, hai, rfl⟩ := hrel
    by_cases hlt : a < LF.length
    · have i1 : (a : Int) < (LF.length : Int) := by omega
      obtain ⟨ya, hya⟩ : ∃ ya, LF[a]? = some ya := ⟨_, List.getElem?_eq_getElem (by omega)⟩
      have hc0 := HK.out.m.f
      obtain ⟨gf, rfl, hc⟩ := numcell hc0 hya
      have hne := HF.out a ya hya
      clear hc0 hya
      have hb1 : (ya == (at_ : Int)) = false := by simpa using hne
      clear hne
      go_wp2
      exact ⟨⟨a + 1, by omega, by go_num⟩, by simp [Go.RowKit.intOf]; omega⟩
    · obtain rfl : a = LF.length := by omega
      clear hlt hai
      go_wp2_with fail
      refine (HAT.out _ (Ext.refl _)).mono ?_
      rintro e w1 ⟨q9, c9, rfl, ho9, hx1⟩
      have HX1 := Lib.hid hx1
      have HK1 := Lib.hid (HK.out.ext hx1)
      have HO9 := Lib.hid ho9
      clear hx1 ho9 HAT HA HI y0 y1 y2 y3 y4 y5 y6 y7 y8
      have hfl : ∀ (a b : Int) (q : Option Addr) (l c : Nat) (s : ByteArray) (t : Bool) (W : World), (Instr.field 122 (.agg #[.int .i64 a, .int .i64 b, .slice q l c, .string s, .bool t]) 0).run Tryz.prog W = .ok (.agg #[.int .i64 a, .int .i64 b, .slice q l c, .string s]) W := fun _ _ _ _ _ _ _ _ => by kernel_rfl
      go_upto_region 10 with fail
      clear hfl
      refine wp_alloc1 fun W2 hE2 hS2 b2 => ?_
      have hAp0 : Ap W W2 B mb w1.heap.size _ _ _ _ _ _ LF LT Lo V rows (bsOf [.slice qf LF.length cf, .slice qt LT.length ct, .slice qo rows.length co]) o _ := ⟨HK1.out.m.ext hE2, (HK1.out.ext hE2).blk, NbR.new HK1.out.m b2, Turn.of_ext (HX1.out.trans hE2), hBW, ⟨q9, c9, rfl, (HO9.out.ext hE2).mono hBW, fun b hb e => by
        have h1 := (HO9.out.own b hb).1
        have h2 := (HK.out.m.w.own b e).2
        omega⟩⟩
      have hnd : ∀ (i : Nat) (r' : List Value), rows[i]? = some r' → ∀ b, fldB3 [.int .i64 o.kind, .int .i64 o.tag, .slice q9 o.fields.length c9, .string o.text] = some b → fldB3 r' ≠ some b := by
        intro i r' hr' b hb e
        have h1 := (HO9.out.own b hb).1
        obtain ⟨o', ho'⟩ : ∃ o', Lo[i]? = some o' := ⟨_, List.getElem?_eq_getElem (by rw [← HK.out.m.len]; exact (List.getElem?_eq_some_iff.1 hr').1)⟩
        have h2 := (HK.out.m.row i o' r' ho' hr').lt e
        omega
      have HND := Lib.hid hnd
      have hrn : ∀ b, fldB3 [.int .i64 o.kind, .int .i64 o.tag, .slice q9 o.fields.length c9, .string o.text] = some b → W.heap.size ≤ b := fun b hb => (HO9.out.own b hb).1
      have HRN := Lib.hid hrn
      clear hrn
      have hge := HK.out.ge
      clear hE2 hS2 b2 HK1 HO9 HK hnd
      generalize w1.heap.size = ob at *
      obtain ⟨y0, y1, y2, y3, y4, y5, y6, y7, y8⟩ := cells9 hAp0.k
      have HAP0 := Lib.hid hAp0
      have HGE := Lib.hid hge
      clear hge
      clear hAp0
      have w1 : IntKind.i64.wrap (1 - h.space) = 1 - h.space := IntWalk.i64_in _ (by omega)
      have hm1 : 0 ≤ (1 - h.space) * h.half ∧ (1 - h.space) * h.half ≤ 2000 := by
        have : h.space = 0 ∨ h.space = 1 := by omega
        rcases this with e | e <;> rw [e] <;> omega
      have w2 : IntKind.i64.wrap ((1 - h.space) * h.half) = (1 - h.space) * h.half := IntWalk.i64_in _ (by omega)
      have w3 : IntKind.i64.wrap ((1 - h.space) * h.half + (top : Int)) = (tw : Int) := by rw [HTW.out]; exact IntWalk.i64_in _ (by omega)
      have r3 := fun d os => cell_regrown y3 d os
      have r6 := fun d os => cell_regrown y6 d os
      have r7 := fun d os => cell_regrown y7 d os
      refine wp_region_quiet_below (by kernel_rfl) (by kernel_rfl) ?_
      repeat (first | go_big_quiet_step (fail) | quiet_step (fail))
      refine wpQuiet_nil ?_
      intro _ hw'
      obtain ⟨⟨dq, osq⟩, hw''⟩ := hw'
      subst hw''
      have HAP1 := Lib.hid (HAP0.out.ext (Ext.regrown W2 dq osq))
      generalize Go.Sort.grow (redrawn W2 dq) osq = W3 at *
      clear r3 r6 r7 w1 w2 w3 HAP0 y0 y1 y2 y3 y4 y5 y6 y7 y8
      go_upto_region 11 with fail
      go_cut [] from 64 to 93 (fun wx => CutM W wx B mb ob (.slice qw V.length cw) LF LT Lo V top h o q9 c9 at_ tw (mb :: bsOf [.slice qf LF.length cf, .slice qt LT.length ct, .slice qo rows.length co]) rows)
      case first =>
       --<<F
       refine wp_region_noPanic ?_
       refine wp_region_tail [1, 2] 26 7 (by kernel_rfl) (by rfl) ?_
       have hAp := HAP1.out.ext (Ext.drew W3)
       generalize W3.drew = W at *
       refine wpAnyH_take (i := 1) (v := ?v1) rfl (by kernel_rfl) (by kernel_rfl) (by kernel_rfl) (fun _ _ _ h => h) (Or.inl ⟨by rfl, ?y1⟩) trivial ?r1
       case y1 => intro w _; go_simp; (try with_reducible rfl)
       (try simp only [Act.put, List.setIfInBounds_toArray, List.set_cons_zero, List.set_cons_succ, List.getElem_toArray, List.getElem_cons_zero, List.getElem_cons_succ])
       refine wpAnyH_take (i := 2) (v := ?v2) rfl (by kernel_rfl) (by kernel_rfl) (by kernel_rfl) (fun _ _ _ h => h) (Or.inl ⟨by rfl, ?y2⟩) trivial ?r2
       case y2 => intro w _; go_simp; (try with_reducible rfl)
       (try simp only [Act.put, List.setIfInBounds_toArray, List.set_cons_zero, List.set_cons_succ, List.getElem_toArray, List.getElem_cons_zero, List.getElem_cons_succ])
       refine tail_go [1, 2] 26 7 24 (fun w' => w'.cell? ⟨mb, 0, none⟩ = some (.slice qf LF.length cf) ∧ w'.cell? ⟨mb, 1, none⟩ = some (.slice qt LT.length ct) ∧ w'.cell? ⟨mb, 2, none⟩ = some (.slice qo rows.length co) ∧ w'.cell? ⟨ob, 0, none⟩ = some (.int .i64 o.kind) ∧ w'.cell? ⟨ob, 1, none⟩ = some (.int .i64 o.tag) ∧ w'.cell? ⟨ob, 2, none⟩ = some (.slice q9 o.fields.length c9) ∧ w'.cell? ⟨ob, 3, none⟩ = some (.string o.text)) (by rfl) (by kernel_rfl) (by kernel_rfl) (by kernel_rfl) (by kernel_rfl) ?_
       refine held_intro ?_ (fun hHeld => ?_)
       · (exact hAp.sees rfl rfl)
       simp only [List.take_succ_cons, List.take_zero, List.drop_succ_cons, List.drop_zero]
       refine wpAnyH_take (i := 0) (v := ?v3) rfl (by kernel_rfl) (by kernel_rfl) (by kernel_rfl) (fun _ _ _ h => h) (Or.inl ⟨by rfl, ?y3⟩) (by assumption) ?r3
       case y3 => intro w hSw; (try dsimp only at hSw); go_simp; (try with_reducible rfl)
       (try simp only [Act.put, List.setIfInBounds_toArray, List.set_cons_zero, List.set_cons_succ, List.getElem_toArray, List.getElem_cons_zero])
       refine wpAnyH_take (i := 3) (v := ?v4) rfl (by kernel_rfl) (by kernel_rfl) (by kernel_rfl) (fun _ _ _ h => h) (Or.inl ⟨by rfl, ?y4⟩) (by assumption) ?r4
       case y4 => intro w hSw; (try dsimp only at hSw); go_simp; (try with_reducible rfl)
       (try simp only [Act.put, List.setIfInBounds_toArray, List.set_cons_zero, List.set_cons_succ, List.getElem_toArray, List.getElem_cons_zero, List.getElem_cons_succ])
       refine wpAnyH_take (i := 4) (v := ?v5) rfl (by kernel_rfl) (by kernel_rfl) (by kernel_rfl) (fun _ _ _ h => h) (Or.inl ⟨by rfl, ?y5⟩) (by assumption) ?r5
       case y5 => intro w hSw; (try dsimp only at hSw); go_simp; (try with_reducible rfl)
       (try simp only [Act.put, List.setIfInBounds_toArray, List.set_cons_zero, List.set_cons_succ, List.getElem_toArray, List.getElem_cons_zero, List.getElem_cons_succ])
       refine wpAnyH_take (i := 5) (v := ?v6) rfl (by kernel_rfl) (by kernel_rfl) (by kernel_rfl) (fun _ _ _ h => h) (Or.inl ⟨by rfl, ?y6⟩) (by assumption) ?r6
       case y6 => intro w hSw; (try dsimp only at hSw); go_simp; (try with_reducible rfl)
       (try simp only [Act.put, List.setIfInBounds_toArray, List.set_cons_zero, List.set_cons_succ, List.getElem_toArray, List.getElem_cons_zero, List.getElem_cons_succ])
       refine wpAnyH_take (i := 6) (v := ?v7) rfl (by kernel_rfl) (by kernel_rfl) (by kernel_rfl) (fun _ _ _ h => h) (Or.inl ⟨by rfl, ?y7⟩) (by assumption) ?r7
       case y7 => intro w hSw; (try dsimp only at hSw); go_simp; (try with_reducible rfl)
       (try simp only [Act.put, List.setIfInBounds_toArray, List.set_cons_zero, List.set_cons_succ, List.getElem_toArray, List.getElem_cons_zero, List.getElem_cons_succ])
       refine wpAnyH_take (i := 7) (v := ?v8) rfl (by kernel_rfl) (by kernel_rfl) (by kernel_rfl) (fun _ _ _ h => h) (Or.inl ⟨by rfl, ?y8⟩) (by assumption) ?r8
       case y8 => intro w hSw; (try dsimp only at hSw); go_simp; (try with_reducible rfl)
       (try simp only [Act.put, List.setIfInBounds_toArray, List.set_cons_zero, List.set_cons_succ, List.getElem_toArray, List.getElem_cons_zero, List.getElem_cons_succ])
       refine wpAnyH_take (i := 10) (v := ?v9) rfl (by kernel_rfl) (by kernel_rfl) (by kernel_rfl) (fun _ _ _ h => h) (Or.inl ⟨by rfl, ?y9⟩) (by assumption) ?r9
       case y9 => intro w hSw; (try dsimp only at hSw); go_simp; (try with_reducible rfl)
       (try simp only [Act.put, List.setIfInBounds_toArray, List.set_cons_zero, List.set_cons_succ, List.getElem_toArray, List.getElem_cons_zero, List.getElem_cons_succ])
       refine wpAnyH_take (i := 11) (v := ?v10) rfl (by kernel_rfl) (by kernel_rfl) (by kernel_rfl) (fun _ _ _ h => h) (Or.inl ⟨by rfl, ?y10⟩) (by assumption) ?r10
       case y10 => intro w hSw; (try dsimp only at hSw); go_simp; (try with_reducible rfl)
       (try simp only [Act.put, List.setIfInBounds_toArray, List.set_cons_zero, List.set_cons_succ, List.getElem_toArray, List.getElem_cons_zero, List.getElem_cons_succ])
       refine wpAnyH_take (i := 12) (v := ?v11) rfl (by kernel_rfl) (by kernel_rfl) (by kernel_rfl) (fun _ _ _ h => h) (Or.inl ⟨by rfl, ?y11⟩) (by assumption) ?r11
       case y11 => intro w hSw; (try dsimp only at hSw); go_simp; (try with_reducible rfl)
       (try simp only [Act.put, List.setIfInBounds_toArray, List.set_cons_zero, List.set_cons_succ, List.getElem_toArray, List.getElem_cons_zero, List.getElem_cons_succ])
       refine wpAnyH_take (i := 13) (v := ?v12) rfl (by kernel_rfl) (by kernel_rfl) (by kernel_rfl) (fun _ _ _ h => h) (Or.inl ⟨by rfl, ?y12⟩) (by assumption) ?r12
       case y12 => intro w hSw; (try dsimp only at hSw); go_simp; (try with_reducible rfl)
       (try simp only [Act.put, List.setIfInBounds_toArray, List.set_cons_zero, List.set_cons_succ, List.getElem_toArray, List.getElem_cons_zero, List.getElem_cons_succ])
       refine wpAnyH_take (i := 14) (v := ?v13) rfl (by kernel_rfl) (by kernel_rfl) (by kernel_rfl) (fun _ _ _ h => h) (Or.inl ⟨by rfl, ?y13⟩) (by assumption) ?r13
       case y13 => intro w hSw; (try dsimp only at hSw); go_simp; (try with_reducible rfl)
       (try simp only [Act.put, List.setIfInBounds_toArray, List.set_cons_zero, List.set_cons_succ, List.getElem_toArray, List.getElem_cons_zero, List.getElem_cons_succ])
       refine wpAnyH_take (i := 17) (v := ?v14) rfl (by kernel_rfl) (by kernel_rfl) (by kernel_rfl) (fun _ _ _ h => h) (Or.inl ⟨by rfl, ?y14⟩) (by assumption) ?r14
       case y14 => intro w hSw; (try dsimp only at hSw); go_simp; (try with_reducible rfl)
       (try simp only [Act.put, List.setIfInBounds_toArray, List.set_cons_zero, List.set_cons_succ, List.getElem_toArray, List.getElem_cons_zero, List.getElem_cons_succ])
       refine wpAnyH_take (i := 18) (v := ?v15) rfl (by kernel_rfl) (by kernel_rfl) (by kernel_rfl) (fun _ _ _ h => h) (Or.inl ⟨by rfl, ?y15⟩) (by assumption) ?r15
       case y15 => intro w hSw; (try dsimp only at hSw); go_simp; (try with_reducible rfl)
       (try simp only [Act.put, List.setIfInBounds_toArray, List.set_cons_zero, List.set_cons_succ, List.getElem_toArray, List.getElem_cons_zero, List.getElem_cons_succ])
       refine wpAnyH_take (i := 19) (v := ?v16) rfl (by kernel_rfl) (by kernel_rfl) (by kernel_rfl) (fun _ _ _ h => h) (Or.inl ⟨by rfl, ?y16⟩) (by assumption) ?r16
       case y16 => intro w hSw; (try dsimp only at hSw); go_simp; (try with_reducible rfl)
       (try simp only [Act.put, List.setIfInBounds_toArray, List.set_cons_zero, List.set_cons_succ, List.getElem_toArray, List.getElem_cons_zero, List.getElem_cons_succ])
       refine wpAnyH_take (i := 20) (v := ?v17) rfl (by kernel_rfl) (by kernel_rfl) (by kernel_rfl) (fun _ _ _ h => h) (Or.inl ⟨by rfl, ?y17⟩) (by assumption) ?r17
       case y17 => intro w hSw; (try dsimp only at hSw); go_simp; (try with_reducible rfl)
       (try simp only [Act.put, List.setIfInBounds_toArray, List.set_cons_zero, List.set_cons_succ, List.getElem_toArray, List.getElem_cons_zero, List.getElem_cons_succ])
       refine wpAnyH_take (i := 21) (v := ?v18) rfl (by kernel_rfl) (by kernel_rfl) (by kernel_rfl) (fun _ _ _ h => h) (Or.inl ⟨by rfl, ?y18⟩) (by assumption) ?r18
       case y18 => intro w hSw; (try dsimp only at hSw); go_simp; (try with_reducible rfl)
       (try simp only [Act.put, List.setIfInBounds_toArray, List.set_cons_zero, List.set_cons_succ, List.getElem_toArray, List.getElem_cons_zero, List.getElem_cons_succ])
       refine wpAnyH_ready (rs := [8, 15, 22]) (by kernel_rfl) (by simp) ?_
       refine AllReadyH.cons rfl (fun K hK => ?_) (AllReadyH.cons rfl (fun K hK => ?_) (AllReadyH.cons rfl (fun K hK => ?_) (AllReadyH.nil)))
       · skip
         go_simp
         have e1 := Ext.alloc W (.cells #[.int .i64 (at_ : Int)] 3)
         have nb1 := NbR.new hAp.m (heap_alloc_new W (.cells #[.int .i64 (at_ : Int)] 3))
         (try replace nb2 := nb2.ext e1); (try replace nb3 := nb3.ext e1); replace hAp := hAp.ext e1
         clear e1
         generalize W.heap.size = n1 at *
         generalize W.alloc (.cells #[.int .i64 (at_ : Int)] 3) = W at *
         refine hK.out _ _ ?s19 (fun hHeld => ?k19)
         case s19 => ((try dsimp only); (exact hAp.sees rfl rfl))
         clear hK K
         (try simp only [Act.put, List.setIfInBounds_toArray, List.set_cons_zero, List.set_cons_succ, List.getElem_toArray, List.getElem_cons_zero, List.getElem_cons_succ])
         refine wpAnyH_ready (rs := [9, 15, 22]) (by kernel_rfl) (by simp) ?_
         refine AllReadyH.cons rfl (fun K hK => ?_) (AllReadyH.cons rfl (fun K hK => ?_) (AllReadyH.cons rfl (fun K hK => ?_) (AllReadyH.nil)))
         · skip
           refine step_append_rows EInt (by rfl) _ _ (by rfl) B (.slice qf LF.length cf) (.slice (some ⟨n1, 0, none⟩) 1 1) (LF.map numC) [numC (at_ : Int)] (by rfl) hAp.m.f (by rfl) (rows_of_block (cs := #[.int .i64 (at_ : Int)]) nb1.blk rfl (by intro u hu; simp at hu; first | (subst hu; rfl) | (rcases hu with rfl | rfl | rfl | rfl <;> rfl))) (by simp; unfold maxLen; omega) (by simp; omega) hAp.base ?_
           intro v1 W2 hf2 hg2 hb2 _
           (try replace nb1 := nb1.addF hg2 hb2); (try replace nb2 := nb2.addF hg2 hb2); (try replace nb3 := nb3.addF hg2 hb2); replace hAp := hAp.addF hg2 hf2 hb2 (fun b hb => bsOf_mem (by simp) hb)
           obtain ⟨q1, l1, c1, rfl⟩ := hAp.m.f.len3
           clear hf2 hg2 hb2
           generalize W2 = W at *
           refine hK.out _ _ ?s20 (fun hHeld => ?k20)
           case s20 => ((try dsimp only); (exact hAp.sees rfl rfl))
           clear hK K
           (try simp only [Act.put, List.setIfInBounds_toArray, List.set_cons_zero, List.set_cons_succ, List.getElem_toArray, List.getElem_cons_zero, List.getElem_cons_succ])
           refine wpAnyH_ready (rs := [15, 22]) (by kernel_rfl) (by simp) ?_
           refine AllReadyH.cons rfl (fun K hK => ?_) (AllReadyH.cons rfl (fun K hK => ?_) (AllReadyH.nil))
           · skip
             go_simp
             have e1 := Ext.alloc W (.cells #[.int .i64 (tw : Int)] 3)
             have nb2 := NbR.new hAp.m (heap_alloc_new W (.cells #[.int .i64 (tw : Int)] 3))
             (try replace nb1 := nb1.ext e1); (try replace nb3 := nb3.ext e1); replace hAp := hAp.ext e1
             clear e1
             generalize W.heap.size = n2 at *
             generalize W.alloc (.cells #[.int .i64 (tw : Int)] 3) = W at *
             refine hK.out _ _ ?s21 (fun hHeld => ?k21)
             case s21 => ((try dsimp only); (exact hAp.sees rfl rfl))
             clear hK K
             (try simp only [Act.put, List.setIfInBounds_toArray, List.set_cons_zero, List.set_cons_succ, List.getElem_toArray, List.getElem_cons_zero, List.getElem_cons_succ])
             refine wpAnyH_ready (rs := [16, 22]) (by kernel_rfl) (by simp) ?_
             refine AllReadyH.cons rfl (fun K hK => ?_) (AllReadyH.cons rfl (fun K hK => ?_) (AllReadyH.nil))
             · skip
               refine step_append_rows EInt (by rfl) _ _ (by rfl) B (.slice qt LT.length ct) (.slice (some ⟨n2, 0, none⟩) 1 1) (LT.map numC) [numC (tw : Int)] (by rfl) hAp.m.t (by rfl) (rows_of_block (cs := #[.int .i64 (tw : Int)]) nb2.blk rfl (by intro u hu; simp at hu; first | (subst hu; rfl) | (rcases hu with rfl | rfl | rfl | rfl <;> rfl))) (by simp; unfold maxLen; omega) (by simp; omega) hAp.base ?_
               intro v2 W2 hf2 hg2 hb2 _
               (try replace nb1 := nb1.addT hg2 hb2); (try replace nb2 := nb2.addT hg2 hb2); (try replace nb3 := nb3.addT hg2 hb2); replace hAp := hAp.addT hg2 hf2 hb2 (fun b hb => bsOf_mem (by simp) hb)
               obtain ⟨q2, l2, c2, rfl⟩ := hAp.m.t.len3
               clear hf2 hg2 hb2
               generalize W2 = W at *
               refine hK.out _ _ ?s22 (fun hHeld => ?k22)
               case s22 => ((try dsimp only); (exact hAp.sees rfl rfl))
               clear hK K
               (try simp only [Act.put, List.setIfInBounds_toArray, List.set_cons_zero, List.set_cons_succ, List.getElem_toArray, List.getElem_cons_zero, List.getElem_cons_succ])
               refine wpAnyH_ready (rs := [22]) (by kernel_rfl) (by simp) ?_
               refine AllReadyH.cons rfl (fun K hK => ?_) AllReadyH.nil
               go_simp
               have e1 := Ext.alloc W (.cells #[.int .i64 o.kind, .int .i64 o.tag, .slice q9 o.fields.length c9, .string o.text] 55)
               have nb3 := NbR.new hAp.m (heap_alloc_new W (.cells #[.int .i64 o.kind, .int .i64 o.tag, .slice q9 o.fields.length c9, .string o.text] 55))
               (try replace nb1 := nb1.ext e1); (try replace nb2 := nb2.ext e1); replace hAp := hAp.ext e1
               clear e1
               generalize W.heap.size = n3 at *
               generalize W.alloc (.cells #[.int .i64 o.kind, .int .i64 o.tag, .slice q9 o.fields.length c9, .string o.text] 55) = W at *
               refine hK.out _ _ ?s23 (fun hHeld => ?k23)
               case s23 => ((try dsimp only); (exact hAp.sees rfl rfl))
               clear hK K
               (try simp only [Act.put, List.setIfInBounds_toArray, List.set_cons_zero, List.set_cons_succ, List.getElem_toArray, List.getElem_cons_zero, List.getElem_cons_succ])
               refine wpAnyH_ready (rs := [23]) (by kernel_rfl) (by simp) ?_
               refine AllReadyH.cons rfl (fun K hK => ?_) AllReadyH.nil
               refine step_append_rows EObjR (by rfl) _ _ (by rfl) B (.slice qo rows.length co) (.slice (some ⟨n3, 0, none⟩) 1 1) (rows) [[.int .i64 o.kind, .int .i64 o.tag, .slice q9 o.fields.length c9, .string o.text]] (by rfl) hAp.m.o (by rfl) (rows_of_block (cs := #[.int .i64 o.kind, .int .i64 o.tag, .slice q9 o.fields.length c9, .string o.text]) nb3.blk rfl (by intro u hu; simp at hu; first | (subst hu; rfl) | (rcases hu with rfl | rfl | rfl | rfl <;> rfl))) (by simp; unfold maxLen; omega) (by simp; omega) hAp.base ?_
               intro v3 W2 hf2 hg2 hb2 _
               (try replace nb1 := nb1.addO hg2 hb2); (try replace nb2 := nb2.addO hg2 hb2); (try replace nb3 := nb3.addO hg2 hb2); replace hAp := hAp.addO hg2 hf2 hb2 (fun b hb => bsOf_mem (by simp) hb) HND.out
               obtain ⟨q3, l3, c3, rfl⟩ := hAp.m.o.len3
               clear hf2 hg2 hb2
               generalize W2 = W at *
               refine hK.out _ _ ?s24 (fun hHeld => ?k24)
               case s24 => ((try dsimp only); (exact hAp.sees rfl rfl))
               clear hK K
               (try simp only [Act.put, List.setIfInBounds_toArray, List.set_cons_zero, List.set_cons_succ, List.getElem_toArray, List.getElem_cons_zero, List.getElem_cons_succ])
               refine wpAnyH_take (i := 24) (v := ?v25) rfl (by kernel_rfl) (by kernel_rfl) (by kernel_rfl) (fun _ _ _ h => h) (Or.inl ⟨by rfl, ?y25⟩) (by assumption) ?r25
               case y25 => intro w hSw; (try dsimp only at hSw); go_simp; (try with_reducible rfl)
               (try simp only [Act.put, List.setIfInBounds_toArray, List.set_cons_zero, List.set_cons_succ, List.getElem_toArray, List.getElem_cons_zero, List.getElem_cons_succ])
               refine wpAnyH_take (i := 25) (v := ?v26) rfl (by kernel_rfl) (by kernel_rfl) (by kernel_rfl) (fun _ _ _ h => h) (Or.inl ⟨by rfl, ?y26⟩) (by assumption) ?r26
               case y26 => intro w hSw; (try dsimp only at hSw); go_simp; (try with_reducible rfl)
               (try simp only [Act.put, List.setIfInBounds_toArray, List.set_cons_zero, List.set_cons_succ, List.getElem_toArray, List.getElem_cons_zero, List.getElem_cons_succ])
               refine wpAnyH_done (by kernel_rfl) ?_ _
               show wpList _ _ _ _ _ _
               obtain ⟨y0, y1, y2, -⟩ := cells9 hAp.k
               have f0 := free_at hAp.k (i := 0)
               have f1 := free_at hAp.k (i := 1)
               have f2 := free_at hAp.k (i := 2)
               clear nb1 nb2 nb3
               go_wp2
               refine NoPanic.normal ?_
               go_wp2
               go_meet
               exact hAp.cut HGE.out HRN.out
             · skip
               go_simp
               have e1 := Ext.alloc W (.cells #[.int .i64 o.kind, .int .i64 o.tag, .slice q9 o.fields.length c9, .string o.text] 55)
               have nb3 := NbR.new hAp.m (heap_alloc_new W (.cells #[.int .i64 o.kind, .int .i64 o.tag, .slice q9 o.fields.length c9, .string o.text] 55))
               (try replace nb1 := nb1.ext e1); (try replace nb2 := nb2.ext e1); replace hAp := hAp.ext e1
               clear e1
               generalize W.heap.size = n3 at *
               generalize W.alloc (.cells #[.int .i64 o.kind, .int .i64 o.tag, .slice q9 o.fields.length c9, .string o.text] 55) = W at *
               refine hK.out _ _ ?s27 (fun hHeld => ?k27)
               case s27 => ((try dsimp only); (exact hAp.sees rfl rfl))
               clear hK K
               (try simp only [Act.put, List.setIfInBounds_toArray, List.set_cons_zero, List.set_cons_succ, List.getElem_toArray, List.getElem_cons_zero, List.getElem_cons_succ])
               refine wpAnyH_ready (rs := [16]) (by kernel_rfl) (by simp) ?_
               refine AllReadyH.cons rfl (fun K hK => ?_) AllReadyH.nil
               refine step_append_rows EInt (by rfl) _ _ (by rfl) B (.slice qt LT.length ct) (.slice (some ⟨n2, 0, none⟩) 1 1) (LT.map numC) [numC (tw : Int)] (by rfl) hAp.m.t (by rfl) (rows_of_block (cs := #[.int .i64 (tw : Int)]) nb2.blk rfl (by intro u hu; simp at hu; first | (subst hu; rfl) | (rcases hu with rfl | rfl | rfl | rfl <;> rfl))) (by simp; unfold maxLen; omega) (by simp; omega) hAp.base ?_
               intro v2 W2 hf2 hg2 hb2 _
               (try replace nb1 := nb1.addT hg2 hb2); (try replace nb2 := nb2.addT hg2 hb2); (try replace nb3 := nb3.addT hg2 hb2); replace hAp := hAp.addT hg2 hf2 hb2 (fun b hb => bsOf_mem (by simp) hb)
               obtain ⟨q2, l2, c2, rfl⟩ := hAp.m.t.len3
               clear hf2 hg2 hb2
               generalize W2 = W at *
               refine hK.out _ _ ?s28 (fun hHeld => ?k28)
               case s28 => ((try dsimp only); (exact hAp.sees rfl rfl))
               clear hK K
               (try simp only [Act.put, List.setIfInBounds_toArray, List.set_cons_zero, List.set_cons_succ, List.getElem_toArray, List.getElem_cons_zero, List.getElem_cons_succ])
               refine wpAnyH_ready (rs := [23]) (by kernel_rfl) (by simp) ?_
               refine AllReadyH.cons rfl (fun K hK => ?_) AllReadyH.nil
               refine step_append_rows EObjR (by rfl) _ _ (by rfl) B (.slice qo rows.length co) (.slice (some ⟨n3, 0, none⟩) 1 1) (rows) [[.int .i64 o.kind, .int .i64 o.tag, .slice q9 o.fields.length c9, .string o.text]] (by rfl) hAp.m.o (by rfl) (rows_of_block (cs := #[.int .i64 o.kind, .int .i64 o.tag, .slice q9 o.fields.length c9, .string o.text]) nb3.blk rfl (by intro u hu; simp at hu; first | (subst hu; rfl) | (rcases hu with rfl | rfl | rfl | rfl <;> rfl))) (by simp; unfold maxLen; omega) (by simp; omega) hAp.base ?_
               intro v3 W2 hf2 hg2 hb2 _
               (try replace nb1 := nb1.addO hg2 hb2); (try replace nb2 := nb2.addO hg2 hb2); (try replace nb3 := nb3.addO hg2 hb2); replace hAp := hAp.addO hg2 hf2 hb2 (fun b hb => bsOf_mem (by simp) hb) HND.out
               obtain ⟨q3, l3, c3, rfl⟩ := hAp.m.o.len3
               clear hf2 hg2 hb2
               generalize W2 = W at *
               refine hK.out _ _ ?s29 (fun hHeld => ?k29)
               case s29 => ((try dsimp only); (exact hAp.sees rfl rfl))
               clear hK K
               (try simp only [Act.put, List.setIfInBounds_toArray, List.set_cons_zero, List.set_cons_succ, List.getElem_toArray, List.getElem_cons_zero, List.getElem_cons_succ])
               refine wpAnyH_take (i := 24) (v := ?v30) rfl (by kernel_rfl) (by kernel_rfl) (by kernel_rfl) (fun _ _ _ h => h) (Or.inl ⟨by rfl, ?y30⟩) (by assumption) ?r30
               case y30 => intro w hSw; (try dsimp only at hSw); go_simp; (try with_reducible rfl)
               (try simp only [Act.put, List.setIfInBounds_toArray, List.set_cons_zero, List.set_cons_succ, List.getElem_toArray, List.getElem_cons_zero, List.getElem_cons_succ])
               refine wpAnyH_take (i := 25) (v := ?v31) rfl (by kernel_rfl) (by kernel_rfl) (by kernel_rfl) (fun _ _ _ h => h) (Or.inl ⟨by rfl, ?y31⟩) (by assumption) ?r31
               case y31 => intro w hSw; (try dsimp only at hSw); go_simp; (try with_reducible rfl)
               (try simp only [Act.put, List.setIfInBounds_toArray, List.set_cons_zero, List.set_cons_succ, List.getElem_toArray, List.getElem_cons_zero, List.getElem_cons_succ])
               refine wpAnyH_done (by kernel_rfl) ?_ _
               show wpList _ _ _ _ _ _
               obtain ⟨y0, y1, y2, -⟩ := cells9 hAp.k
               have f0 := free_at hAp.k (i := 0)
               have f1 := free_at hAp.k (i := 1)
               have f2 := free_at hAp.k (i := 2)
               clear nb1 nb2 nb3
               go_wp2
               refine NoPanic.normal ?_
               go_wp2
               go_meet
               exact hAp.cut HGE.out HRN.out
           · skip
             go_simp
             have e1 := Ext.alloc W (.cells #[.int .i64 o.kind, .int .i64 o.tag, .slice q9 o.fields.length c9, .string o.text] 55)
             have nb3 := NbR.new hAp.m (heap_alloc_new W (.cells #[.int .i64 o.kind, .int .i64 o.tag, .slice q9 o.fields.length c9, .string o.text] 55))
             (try replace nb1 := nb1.ext e1); (try replace nb2 := nb2.ext e1); replace hAp := hAp.ext e1
             clear e1
             generalize W.heap.size = n3 at *
             generalize W.alloc (.cells #[.int .i64 o.kind, .int .i64 o.tag, .slice q9 o.fields.length c9, .string o.text] 55) = W at *
             refine hK.out _ _ ?s32 (fun hHeld => ?k32)
             case s32 => ((try dsimp only); (exact hAp.sees rfl rfl))
             clear hK K
             (try simp only [Act.put, List.setIfInBounds_toArray, List.set_cons_zero, List.set_cons_succ, List.getElem_toArray, List.getElem_cons_zero, List.getElem_cons_succ])
             refine wpAnyH_ready (rs := [15]) (by kernel_rfl) (by simp) ?_
             refine AllReadyH.cons rfl (fun K hK => ?_) AllReadyH.nil
             go_simp
             have e1 := Ext.alloc W (.cells #[.int .i64 (tw : Int)] 3)
             have nb2 := NbR.new hAp.m (heap_alloc_new W (.cells #[.int .i64 (tw : Int)] 3))
             (try replace nb1 := nb1.ext e1); (try replace nb3 := nb3.ext e1); replace hAp := hAp.ext e1
             clear e1
             generalize W.heap.size = n2 at *
             generalize W.alloc (.cells #[.int .i64 (tw : Int)] 3) = W at *
             refine hK.out _ _ ?s33 (fun hHeld => ?k33)
             case s33 => ((try dsimp only); (exact hAp.sees rfl rfl))
             clear hK K
             (try simp only [Act.put, List.setIfInBounds_toArray, List.set_cons_zero, List.set_cons_succ, List.getElem_toArray, List.getElem_cons_zero, List.getElem_cons_succ])
             refine wpAnyH_ready (rs := [16]) (by kernel_rfl) (by simp) ?_
             refine AllReadyH.cons rfl (fun K hK => ?_) AllReadyH.nil
             refine step_append_rows EInt (by rfl) _ _ (by rfl) B (.slice qt LT.length ct) (.slice (some ⟨n2, 0, none⟩) 1 1) (LT.map numC) [numC (tw : Int)] (by rfl) hAp.m.t (by rfl) (rows_of_block (cs := #[.int .i64 (tw : Int)]) nb2.blk rfl (by intro u hu; simp at hu; first | (subst hu; rfl) | (rcases hu with rfl | rfl | rfl | rfl <;> rfl))) (by simp; unfold maxLen; omega) (by simp; omega) hAp.base ?_
             intro v2 W2 hf2 hg2 hb2 _
             (try replace nb1 := nb1.addT hg2 hb2); (try replace nb2 := nb2.addT hg2 hb2); (try replace nb3 := nb3.addT hg2 hb2); replace hAp := hAp.addT hg2 hf2 hb2 (fun b hb => bsOf_mem (by simp) hb)
             obtain ⟨q2, l2, c2, rfl⟩ := hAp.m.t.len3
             clear hf2 hg2 hb2
             generalize W2 = W at *
             refine hK.out _ _ ?s34 (fun hHeld => ?k34)
             case s34 => ((try dsimp only); (exact hAp.sees rfl rfl))
             clear hK K
             (try simp only [Act.put, List.setIfInBounds_toArray, List.set_cons_zero, List.set_cons_succ, List.getElem_toArray, List.getElem_cons_zero, List.getElem_cons_succ])
             refine wpAnyH_ready (rs := [23]) (by kernel_rfl) (by simp) ?_
             refine AllReadyH.cons rfl (fun K hK => ?_) AllReadyH.nil
             refine step_append_rows EObjR (by rfl) _ _ (by rfl) B (.slice qo rows.length co) (.slice (some ⟨n3, 0, none⟩) 1 1) (rows) [[.int .i64 o.kind, .int .i64 o.tag, .slice q9 o.fields.length c9, .string o.text]] (by rfl) hAp.m.o (by rfl) (rows_of_block (cs := #[.int .i64 o.kind, .int .i64 o.tag, .slice q9 o.fields.length c9, .string o.text]) nb3.blk rfl (by intro u hu; simp at hu; first | (subst hu; rfl) | (rcases hu with rfl | rfl | rfl | rfl <;> rfl))) (by simp; unfold maxLen; omega) (by simp; omega) hAp.base ?_
             intro v3 W2 hf2 hg2 hb2 _
             (try replace nb1 := nb1.addO hg2 hb2); (try replace nb2 := nb2.addO hg2 hb2); (try replace nb3 := nb3.addO hg2 hb2); replace hAp := hAp.addO hg2 hf2 hb2 (fun b hb => bsOf_mem (by simp) hb) HND.out
             obtain ⟨q3, l3, c3, rfl⟩ := hAp.m.o.len3
             clear hf2 hg2 hb2
             generalize W2 = W at *
             refine hK.out _ _ ?s35 (fun hHeld => ?k35)
             case s35 => ((try dsimp only); (exact hAp.sees rfl rfl))
             clear hK K
             (try simp only [Act.put, List.setIfInBounds_toArray, List.set_cons_zero, List.set_cons_succ, List.getElem_toArray, List.getElem_cons_zero, List.getElem_cons_succ])
             refine wpAnyH_take (i := 24) (v := ?v36) rfl (by kernel_rfl) (by kernel_rfl) (by kernel_rfl) (fun _ _ _ h => h) (Or.inl ⟨by rfl, ?y36⟩) (by assumption) ?r36
             case y36 => intro w hSw; (try dsimp only at hSw); go_simp; (try with_reducible rfl)
             (try simp only [Act.put, List.setIfInBounds_toArray, List.set_cons_zero, List.set_cons_succ, List.getElem_toArray, List.getElem_cons_zero, List.getElem_cons_succ])
             refine wpAnyH_take (i := 25) (v := ?v37) rfl (by kernel_rfl) (by kernel_rfl) (by kernel_rfl) (fun _ _ _ h => h) (Or.inl ⟨by rfl, ?y37⟩) (by assumption) ?r37
             case y37 => intro w hSw; (try dsimp only at hSw); go_simp; (try with_reducible rfl)
             (try simp only [Act.put, List.setIfInBounds_toArray, List.set_cons_zero, List.set_cons_succ, List.getElem_toArray, List.getElem_cons_zero, List.getElem_cons_succ])
             refine wpAnyH_done (by kernel_rfl) ?_ _
             show wpList _ _ _ _ _ _
             obtain ⟨y0, y1, y2, -⟩ := cells9 hAp.k
             have f0 := free_at hAp.k (i := 0)
             have f1 := free_at hAp.k (i := 1)
             have f2 := free_at hAp.k (i := 2)
             clear nb1 nb2 nb3
             go_wp2
             refine NoPanic.normal ?_
             go_wp2
             go_meet
             exact hAp.cut HGE.out HRN.out
         · skip
           go_simp
           have e1 := Ext.alloc W (.cells #[.int .i64 (tw : Int)] 3)
           have nb2 := NbR.new hAp.m (heap_alloc_new W (.cells #[.int .i64 (tw : Int)] 3))
           (try replace nb1 := nb1.ext e1); (try replace nb3 := nb3.ext e1); replace hAp := hAp.ext e1
           clear e1
           generalize W.heap.size = n2 at *
           generalize W.alloc (.cells #[.int .i64 (tw : Int)] 3) = W at *
           refine hK.out _ _ ?s38 (fun hHeld => ?k38)
           case s38 => ((try dsimp only); (exact hAp.sees rfl rfl))
           clear hK K
           (try simp only [Act.put, List.setIfInBounds_toArray, List.set_cons_zero, List.set_cons_succ, List.getElem_toArray, List.getElem_cons_zero, List.getElem_cons_succ])
           refine wpAnyH_ready (rs := [9, 22]) (by kernel_rfl) (by simp) ?_
           refine AllReadyH.cons rfl (fun K hK => ?_) (AllReadyH.cons rfl (fun K hK => ?_) (AllReadyH.nil))
           · skip
             refine step_append_rows EInt (by rfl) _ _ (by rfl) B (.slice qf LF.length cf) (.slice (some ⟨n1, 0, none⟩) 1 1) (LF.map numC) [numC (at_ : Int)] (by rfl) hAp.m.f (by rfl) (rows_of_block (cs := #[.int .i64 (at_ : Int)]) nb1.blk rfl (by intro u hu; simp at hu; first | (subst hu; rfl) | (rcases hu with rfl | rfl | rfl | rfl <;> rfl))) (by simp; unfold maxLen; omega) (by simp; omega) hAp.base ?_
             intro v1 W2 hf2 hg2 hb2 _
             (try replace nb1 := nb1.addF hg2 hb2); (try replace nb2 := nb2.addF hg2 hb2); (try replace nb3 := nb3.addF hg2 hb2); replace hAp := hAp.addF hg2 hf2 hb2 (fun b hb => bsOf_mem (by simp) hb)
             obtain ⟨q1, l1, c1, rfl⟩ := hAp.m.f.len3
             clear hf2 hg2 hb2
             generalize W2 = W at *
             refine hK.out _ _ ?s39 (fun hHeld => ?k39)
             case s39 => ((try dsimp only); (exact hAp.sees rfl rfl))
             clear hK K
             (try simp only [Act.put, List.setIfInBounds_toArray, List.set_cons_zero, List.set_cons_succ, List.getElem_toArray, List.getElem_cons_zero, List.getElem_cons_succ])
             refine wpAnyH_ready (rs := [16, 22]) (by kernel_rfl) (by simp) ?_
             refine AllReadyH.cons rfl (fun K hK => ?_) (AllReadyH.cons rfl (fun K hK => ?_) (AllReadyH.nil))
             · skip
               refine step_append_rows EInt (by rfl) _ _ (by rfl) B (.slice qt LT.length ct) (.slice (some ⟨n2, 0, none⟩) 1 1) (LT.map numC) [numC (tw : Int)] (by rfl) hAp.m.t (by rfl) (rows_of_block (cs := #[.int .i64 (tw : Int)]) nb2.blk rfl (by intro u hu; simp at hu; first | (subst hu; rfl) | (rcases hu with rfl | rfl | rfl | rfl <;> rfl))) (by simp; unfold maxLen; omega) (by simp; omega) hAp.base ?_
               intro v2 W2 hf2 hg2 hb2 _
               (try replace nb1 := nb1.addT hg2 hb2); (try replace nb2 := nb2.addT hg2 hb2); (try replace nb3 := nb3.addT hg2 hb2); replace hAp := hAp.addT hg2 hf2 hb2 (fun b hb => bsOf_mem (by simp) hb)
               obtain ⟨q2, l2, c2, rfl⟩ := hAp.m.t.len3
               clear hf2 hg2 hb2
               generalize W2 = W at *
               refine hK.out _ _ ?s40 (fun hHeld => ?k40)
               case s40 => ((try dsimp only); (exact hAp.sees rfl rfl))
               clear hK K
               (try simp only [Act.put, List.setIfInBounds_toArray, List.set_cons_zero, List.set_cons_succ, List.getElem_toArray, List.getElem_cons_zero, List.getElem_cons_succ])
               refine wpAnyH_ready (rs := [22]) (by kernel_rfl) (by simp) ?_
               refine AllReadyH.cons rfl (fun K hK => ?_) AllReadyH.nil
               go_simp
               have e1 := Ext.alloc W (.cells #[.int .i64 o.kind, .int .i64 o.tag, .slice q9 o.fields.length c9, .string o.text] 55)
               have nb3 := NbR.new hAp.m (heap_alloc_new W (.cells #[.int .i64 o.kind, .int .i64 o.tag, .slice q9 o.fields.length c9, .string o.text] 55))
               (try replace nb1 := nb1.ext e1); (try replace nb2 := nb2.ext e1); replace hAp := hAp.ext e1
               clear e1
               generalize W.heap.size = n3 at *
               generalize W.alloc (.cells #[.int .i64 o.kind, .int .i64 o.tag, .slice q9 o.fields.length c9, .string o.text] 55) = W at *
               refine hK.out _ _ ?s41 (fun hHeld => ?k41)
               case s41 => ((try dsimp only); (exact hAp.sees rfl rfl))
               clear hK K
               (try simp only [Act.put, List.setIfInBounds_toArray, List.set_cons_zero, List.set_cons_succ, List.getElem_toArray, List.getElem_cons_zero, List.getElem_cons_succ])
               refine wpAnyH_ready (rs := [23]) (by kernel_rfl) (by simp) ?_
               refine AllReadyH.cons rfl (fun K hK => ?_) AllReadyH.nil
               refine step_append_rows EObjR (by rfl) _ _ (by rfl) B (.slice qo rows.length co) (.slice (some ⟨n3, 0, none⟩) 1 1) (rows) [[.int .i64 o.kind, .int .i64 o.tag, .slice q9 o.fields.length c9, .string o.text]] (by rfl) hAp.m.o (by rfl) (rows_of_block (cs := #[.int .i64 o.kind, .int .i64 o.tag, .slice q9 o.fields.length c9, .string o.text]) nb3.blk rfl (by intro u hu; simp at hu; first | (subst hu; rfl) | (rcases hu with rfl | rfl | rfl | rfl <;> rfl))) (by simp; unfold maxLen; omega) (by simp; omega) hAp.base ?_
               intro v3 W2 hf2 hg2 hb2 _
               (try replace nb1 := nb1.addO hg2 hb2); (try replace nb2 := nb2.addO hg2 hb2); (try replace nb3 := nb3.addO hg2 hb2); replace hAp := hAp.addO hg2 hf2 hb2 (fun b hb => bsOf_mem (by simp) hb) HND.out
               obtain ⟨q3, l3, c3, rfl⟩ := hAp.m.o.len3
               clear hf2 hg2 hb2
               generalize W2 = W at *
               refine hK.out _ _ ?s42 (fun hHeld => ?k42)
               case s42 => ((try dsimp only); (exact hAp.sees rfl rfl))
               clear hK K
               (try simp only [Act.put, List.setIfInBounds_toArray, List.set_cons_zero, List.set_cons_succ, List.getElem_toArray, List.getElem_cons_zero, List.getElem_cons_succ])
               refine wpAnyH_take (i := 24) (v := ?v43) rfl (by kernel_rfl) (by kernel_rfl) (by kernel_rfl) (fun _ _ _ h => h) (Or.inl ⟨by rfl, ?y43⟩) (by assumption) ?r43
               case y43 => intro w hSw; (try dsimp only at hSw); go_simp; (try with_reducible rfl)
               (try simp only [Act.put, List.setIfInBounds_toArray, List.set_cons_zero, List.set_cons_succ, List.getElem_toArray, List.getElem_cons_zero, List.getElem_cons_succ])
               refine wpAnyH_take (i := 25) (v := ?v44) rfl (by kernel_rfl) (by kernel_rfl) (by kernel_rfl) (fun _ _ _ h => h) (Or.inl ⟨by rfl, ?y44⟩) (by assumption) ?r44
               case y44 => intro w hSw; (try dsimp only at hSw); go_simp; (try with_reducible rfl)
               (try simp only [Act.put, List.setIfInBounds_toArray, List.set_cons_zero, List.set_cons_succ, List.getElem_toArray, List.getElem_cons_zero, List.getElem_cons_succ])
               refine wpAnyH_done (by kernel_rfl) ?_ _
               show wpList _ _ _ _ _ _
               obtain ⟨y0, y1, y2, -⟩ := cells9 hAp.k
               have f0 := free_at hAp.k (i := 0)
               have f1 := free_at hAp.k (i := 1)
               have f2 := free_at hAp.k (i := 2)
               clear nb1 nb2 nb3
               go_wp2
               refine NoPanic.normal ?_
               go_wp2
               go_meet
               exact hAp.cut HGE.out HRN.out
             · skip
               go_simp
               have e1 := Ext.alloc W (.cells #[.int .i64 o.kind, .int .i64 o.tag, .slice q9 o.fields.length c9, .string o.text] 55)
               have nb3 := NbR.new hAp.m (heap_alloc_new W (.cells #[.int .i64 o.kind, .int .i64 o.tag, .slice q9 o.fields.length c9, .string o.text] 55))
               (try replace nb1 := nb1.ext e1); (try replace nb2 := nb2.ext e1); replace hAp := hAp.ext e1
               clear e1
               generalize W.heap.size = n3 at *
               generalize W.alloc (.cells #[.int .i64 o.kind, .int .i64 o.tag, .slice q9 o.fields.length c9, .string o.text] 55) = W at *
               refine hK.out _ _ ?s45 (fun hHeld => ?k45)
               case s45 => ((try dsimp only); (exact hAp.sees rfl rfl))
               clear hK K
               (try simp only [Act.put, List.setIfInBounds_toArray, List.set_cons_zero, List.set_cons_succ, List.getElem_toArray, List.getElem_cons_zero, List.getElem_cons_succ])
               refine wpAnyH_ready (rs := [16]) (by kernel_rfl) (by simp) ?_
               refine AllReadyH.cons rfl (fun K hK => ?_) AllReadyH.nil
               refine step_append_rows EInt (by rfl) _ _ (by rfl) B (.slice qt LT.length ct) (.slice (some ⟨n2, 0, none⟩) 1 1) (LT.map numC) [numC (tw : Int)] (by rfl) hAp.m.t (by rfl) (rows_of_block (cs := #[.int .i64 (tw : Int)]) nb2.blk rfl (by intro u hu; simp at hu; first | (subst hu; rfl) | (rcases hu with rfl | rfl | rfl | rfl <;> rfl))) (by simp; unfold maxLen; omega) (by simp; omega) hAp.base ?_
               intro v2 W2 hf2 hg2 hb2 _
               (try replace nb1 := nb1.addT hg2 hb2); (try replace nb2 := nb2.addT hg2 hb2); (try replace nb3 := nb3.addT hg2 hb2); replace hAp := hAp.addT hg2 hf2 hb2 (fun b hb => bsOf_mem (by simp) hb)
               obtain ⟨q2, l2, c2, rfl⟩ := hAp.m.t.len3
               clear hf2 hg2 hb2
               generalize W2 = W at *
               refine hK.out _ _ ?s46 (fun hHeld => ?k46)
               case s46 => ((try dsimp only); (exact hAp.sees rfl rfl))
               clear hK K
               (try simp only [Act.put, List.setIfInBounds_toArray, List.set_cons_zero, List.set_cons_succ, List.getElem_toArray, List.getElem_cons_zero, List.getElem_cons_succ])
               refine wpAnyH_ready (rs := [23]) (by kernel_rfl) (by simp) ?_
               refine AllReadyH.cons rfl (fun K hK => ?_) AllReadyH.nil
               refine step_append_rows EObjR (by rfl) _ _ (by rfl) B (.slice qo rows.length co) (.slice (some ⟨n3, 0, none⟩) 1 1) (rows) [[.int .i64 o.kind, .int .i64 o.tag, .slice q9 o.fields.length c9, .string o.text]] (by rfl) hAp.m.o (by rfl) (rows_of_block (cs := #[.int .i64 o.kind, .int .i64 o.tag, .slice q9 o.fields.length c9, .string o.text]) nb3.blk rfl (by intro u hu; simp at hu; first | (subst hu; rfl) | (rcases hu with rfl | rfl | rfl | rfl <;> rfl))) (by simp; unfold maxLen; omega) (by simp; omega) hAp.base ?_
               intro v3 W2 hf2 hg2 hb2 _
               (try replace nb1 := nb1.addO hg2 hb2); (try replace nb2 := nb2.addO hg2 hb2); (try replace nb3 := nb3.addO hg2 hb2); replace hAp := hAp.addO hg2 hf2 hb2 (fun b hb => bsOf_mem (by simp) hb) HND.out
               obtain ⟨q3, l3, c3, rfl⟩ := hAp.m.o.len3
               clear hf2 hg2 hb2
               generalize W2 = W at *
               refine hK.out _ _ ?s47 (fun hHeld => ?k47)
               case s47 => ((try dsimp only); (exact hAp.sees rfl rfl))
               clear hK K
               (try simp only [Act.put, List.setIfInBounds_toArray, List.set_cons_zero, List.set_cons_succ, List.getElem_toArray, List.getElem_cons_zero, List.getElem_cons_succ])
               refine wpAnyH_take (i := 24) (v := ?v48) rfl (by kernel_rfl) (by kernel_rfl) (by kernel_rfl) (fun _ _ _ h => h) (Or.inl ⟨by rfl, ?y48⟩) (by assumption) ?r48
               case y48 => intro w hSw; (try dsimp only at hSw); go_simp; (try with_reducible rfl)
               (try simp only [Act.put, List.setIfInBounds_toArray, List.set_cons_zero, List.set_cons_succ, List.getElem_toArray, List.getElem_cons_zero, List.getElem_cons_succ])
               refine wpAnyH_take (i := 25) (v := ?v49) rfl (by kernel_rfl) (by kernel_rfl) (by kernel_rfl) (fun _ _ _ h => h) (Or.inl ⟨by rfl, ?y49⟩) (by assumption) ?r49
               case y49 => intro w hSw; (try dsimp only at hSw); go_simp; (try with_reducible rfl)
               (try simp only [Act.put, List.setIfInBounds_toArray, List.set_cons_zero, List.set_cons_succ, List.getElem_toArray, List.getElem_cons_zero, List.getElem_cons_succ])
               refine wpAnyH_done (by kernel_rfl) ?_ _
               show wpList _ _ _ _ _ _
               obtain ⟨y0, y1, y2, -⟩ := cells9 hAp.k
               have f0 := free_at hAp.k (i := 0)
               have f1 := free_at hAp.k (i := 1)
               have f2 := free_at hAp.k (i := 2)
               clear nb1 nb2 nb3
               go_wp2
               refine NoPanic.normal ?_
               go_wp2
               go_meet
               exact hAp.cut HGE.out HRN.out
           · skip
             go_simp
             have e1 := Ext.alloc W (.cells #[.int .i64 o.kind, .int .i64 o.tag, .slice q9 o.fields.length c9, .string o.text] 55)
             have nb3 := NbR.new hAp.m (heap_alloc_new W (.cells #[.int .i64 o.kind, .int .i64 o.tag, .slice q9 o.fields.length c9, .string o.text] 55))
             (try replace nb1 := nb1.ext e1); (try replace nb2 := nb2.ext e1); replace hAp := hAp.ext e1
             clear e1
             generalize W.heap.size = n3 at *
             generalize W.alloc (.cells #[.int .i64 o.kind, .int .i64 o.tag, .slice q9 o.fields.length c9, .string o.text] 55) = W at *
             refine hK.out _ _ ?s50 (fun hHeld => ?k50)
             case s50 => ((try dsimp only); (exact hAp.sees rfl rfl))
             clear hK K
             (try simp only [Act.put, List.setIfInBounds_toArray, List.set_cons_zero, List.set_cons_succ, List.getElem_toArray, List.getElem_cons_zero, List.getElem_cons_succ])
             refine wpAnyH_ready (rs := [9]) (by kernel_rfl) (by simp) ?_
             refine AllReadyH.cons rfl (fun K hK => ?_) AllReadyH.nil
             refine step_append_rows EInt (by rfl) _ _ (by rfl) B (.slice qf LF.length cf) (.slice (some ⟨n1, 0, none⟩) 1 1) (LF.map numC) [numC (at_ : Int)] (by rfl) hAp.m.f (by rfl) (rows_of_block (cs := #[.int .i64 (at_ : Int)]) nb1.blk rfl (by intro u hu; simp at hu; first | (subst hu; rfl) | (rcases hu with rfl | rfl | rfl | rfl <;> rfl))) (by simp; unfold maxLen; omega) (by simp; omega) hAp.base ?_
             intro v1 W2 hf2 hg2 hb2 _
             (try replace nb1 := nb1.addF hg2 hb2); (try replace nb2 := nb2.addF hg2 hb2); (try replace nb3 := nb3.addF hg2 hb2); replace hAp := hAp.addF hg2 hf2 hb2 (fun b hb => bsOf_mem (by simp) hb)
             obtain ⟨q1, l1, c1, rfl⟩ := hAp.m.f.len3
             clear hf2 hg2 hb2
             generalize W2 = W at *
             refine hK.out _ _ ?s51 (fun hHeld => ?k51)
             case s51 => ((try dsimp only); (exact hAp.sees rfl rfl))
             clear hK K
             (try simp only [Act.put, List.setIfInBounds_toArray, List.set_cons_zero, List.set_cons_succ, List.getElem_toArray, List.getElem_cons_zero, List.getElem_cons_succ])
             refine wpAnyH_ready (rs := [16]) (by kernel_rfl) (by simp) ?_
             refine AllReadyH.cons rfl (fun K hK => ?_) AllReadyH.nil
             refine step_append_rows EInt (by rfl) _ _ (by rfl) B (.slice qt LT.length ct) (.slice (some ⟨n2, 0, none⟩) 1 1) (LT.map numC) [numC (tw : Int)] (by rfl) hAp.m.t (by rfl) (rows_of_block (cs := #[.int .i64 (tw : Int)]) nb2.blk rfl (by intro u hu; simp at hu; first | (subst hu; rfl) | (rcases hu with rfl | rfl | rfl | rfl <;> rfl))) (by simp; unfold maxLen; omega) (by simp; omega) hAp.base ?_
             intro v2 W2 hf2 hg2 hb2 _
             (try replace nb1 := nb1.addT hg2 hb2); (try replace nb2 := nb2.addT hg2 hb2); (try replace nb3 := nb3.addT hg2 hb2); replace hAp := hAp.addT hg2 hf2 hb2 (fun b hb => bsOf_mem (by simp) hb)
             obtain ⟨q2, l2, c2, rfl⟩ := hAp.m.t.len3
             clear hf2 hg2 hb2
             generalize W2 = W at *
             refine hK.out _ _ ?s52 (fun hHeld => ?k52)
             case s52 => ((try dsimp only); (exact hAp.sees rfl rfl))
             clear hK K
             (try simp only [Act.put, List.setIfInBounds_toArray, List.set_cons_zero, List.set_cons_succ, List.getElem_toArray, List.getElem_cons_zero, List.getElem_cons_succ])
             refine wpAnyH_ready (rs := [23]) (by kernel_rfl) (by simp) ?_
             refine AllReadyH.cons rfl (fun K hK => ?_) AllReadyH.nil
             refine step_append_rows EObjR (by rfl) _ _ (by rfl) B (.slice qo rows.length co) (.slice (some ⟨n3, 0, none⟩) 1 1) (rows) [[.int .i64 o.kind, .int .i64 o.tag, .slice q9 o.fields.length c9, .string o.text]] (by rfl) hAp.m.o (by rfl) (rows_of_block (cs := #[.int .i64 o.kind, .int .i64 o.tag, .slice q9 o.fields.length c9, .string o.text]) nb3.blk rfl (by intro u hu; simp at hu; first | (subst hu; rfl) | (rcases hu with rfl | rfl | rfl | rfl <;> rfl))) (by simp; unfold maxLen; omega) (by simp; omega) hAp.base ?_
             intro v3 W2 hf2 hg2 hb2 _
             (try replace nb1 := nb1.addO hg2 hb2); (try replace nb2 := nb2.addO hg2 hb2); (try replace nb3 := nb3.addO hg2 hb2); replace hAp := hAp.addO hg2 hf2 hb2 (fun b hb => bsOf_mem (by simp) hb) HND.out
             obtain ⟨q3, l3, c3, rfl⟩ := hAp.m.o.len3
             clear hf2 hg2 hb2
             generalize W2 = W at *
             refine hK.out _ _ ?s53 (fun hHeld => ?k53)
             case s53 => ((try dsimp only); (exact hAp.sees rfl rfl))
             clear hK K
             (try simp only [Act.put, List.setIfInBounds_toArray, List.set_cons_zero, List.set_cons_succ, List.getElem_toArray, List.getElem_cons_zero, List.getElem_cons_succ])
             refine wpAnyH_take (i := 24) (v := ?v54) rfl (by kernel_rfl) (by kernel_rfl) (by kernel_rfl) (fun _ _ _ h => h) (Or.inl ⟨by rfl, ?y54⟩) (by assumption) ?r54
             case y54 => intro w hSw; (try dsimp only at hSw); go_simp; (try with_reducible rfl)
             (try simp only [Act.put, List.setIfInBounds_toArray, List.set_cons_zero, List.set_cons_succ, List.getElem_toArray, List.getElem_cons_zero, List.getElem_cons_succ])
             refine wpAnyH_take (i := 25) (v := ?v55) rfl (by kernel_rfl) (by kernel_rfl) (by kernel_rfl) (fun _ _ _ h => h) (Or.inl ⟨by rfl, ?y55⟩) (by assumption) ?r55
             case y55 => intro w hSw; (try dsimp only at hSw); go_simp; (try with_reducible rfl)
             (try simp only [Act.put, List.setIfInBounds_toArray, List.set_cons_zero, List.set_cons_succ, List.getElem_toArray, List.getElem_cons_zero, List.getElem_cons_succ])
             refine wpAnyH_done (by kernel_rfl) ?_ _
             show wpList _ _ _ _ _ _
             obtain ⟨y0, y1, y2, -⟩ := cells9 hAp.k
             have f0 := free_at hAp.k (i := 0)
             have f1 := free_at hAp.k (i := 1)
             have f2 := free_at hAp.k (i := 2)
             clear nb1 nb2 nb3
             go_wp2
             refine NoPanic.normal ?_
             go_wp2
             go_meet
             exact hAp.cut HGE.out HRN.out
         · skip
           go_simp
           have e1 := Ext.alloc W (.cells #[.int .i64 o.kind, .int .i64 o.tag, .slice q9 o.fields.length c9, .string o.text] 55)
           have nb3 := NbR.new hAp.m (heap_alloc_new W (.cells #[.int .i64 o.kind, .int .i64 o.tag, .slice q9 o.fields.length c9, .string o.text] 55))
           (try replace nb1 := nb1.ext e1); (try replace nb2 := nb2.ext e1); replace hAp := hAp.ext e1
           clear e1
           generalize W.heap.size = n3 at *
           generalize W.alloc (.cells #[.int .i64 o.kind, .int .i64 o.tag, .slice q9 o.fields.length c9, .string o.text] 55) = W at *
           refine hK.out _ _ ?s56 (fun hHeld => ?k56)
           case s56 => ((try dsimp only); (exact hAp.sees rfl rfl))
           clear hK K
           (try simp only [Act.put, List.setIfInBounds_toArray, List.set_cons_zero, List.set_cons_succ, List.getElem_toArray, List.getElem_cons_zero, List.getElem_cons_succ])
           refine wpAnyH_ready (rs := [9, 15]) (by kernel_rfl) (by simp) ?_
           refine AllReadyH.cons rfl (fun K hK => ?_) (AllReadyH.cons rfl (fun K hK => ?_) (AllReadyH.nil))
           · skip
             refine step_append_rows EInt (by rfl) _ _ (by rfl) B (.slice qf LF.length cf) (.slice (some ⟨n1, 0, none⟩) 1 1) (LF.map numC) [numC (at_ : Int)] (by rfl) hAp.m.f (by rfl) (rows_of_block (cs := #[.int .i64 (at_ : Int)]) nb1.blk rfl (by intro u hu; simp at hu; first | (subst hu; rfl) | (rcases hu with rfl | rfl | rfl | rfl <;> rfl))) (by simp; unfold maxLen; omega) (by simp; omega) hAp.base ?_
             intro v1 W2 hf2 hg2 hb2 _
             (try replace nb1 := nb1.addF hg2 hb2); (try replace nb2 := nb2.addF hg2 hb2); (try replace nb3 := nb3.addF hg2 hb2); replace hAp := hAp.addF hg2 hf2 hb2 (fun b hb => bsOf_mem (by simp) hb)
             obtain ⟨q1, l1, c1, rfl⟩ := hAp.m.f.len3
             clear hf2 hg2 hb2
             generalize W2 = W at *
             refine hK.out _ _ ?s57 (fun hHeld => ?k57)
             case s57 => ((try dsimp only); (exact hAp.sees rfl rfl))
             clear hK K
             (try simp only [Act.put, List.setIfInBounds_toArray, List.set_cons_zero, List.set_cons_succ, List.getElem_toArray, List.getElem_cons_zero, List.getElem_cons_succ])
             refine wpAnyH_ready (rs := [15]) (by kernel_rfl) (by simp) ?_
             refine AllReadyH.cons rfl (fun K hK => ?_) AllReadyH.nil
             go_simp
             have e1 := Ext.alloc W (.cells #[.int .i64 (tw : Int)] 3)
             have nb2 := NbR.new hAp.m (heap_alloc_new W (.cells #[.int .i64 (tw : Int)] 3))
             (try replace nb1 := nb1.ext e1); (try replace nb3 := nb3.ext e1); replace hAp := hAp.ext e1
             clear e1
             generalize W.heap.size = n2 at *
             generalize W.alloc (.cells #[.int .i64 (tw : Int)] 3) = W at *
             refine hK.out _ _ ?s58 (fun hHeld => ?k58)
             case s58 => ((try dsimp only); (exact hAp.sees rfl rfl))
             clear hK K
             (try simp only [Act.put, List.setIfInBounds_toArray, List.set_cons_zero, List.set_cons_succ, List.getElem_toArray, List.getElem_cons_zero, List.getElem_cons_succ])
             refine wpAnyH_ready (rs := [16]) (by kernel_rfl) (by simp) ?_
             refine AllReadyH.cons rfl (fun K hK => ?_) AllReadyH.nil
             refine step_append_rows EInt (by rfl) _ _ (by rfl) B (.slice qt LT.length ct) (.slice (some ⟨n2, 0, none⟩) 1 1) (LT.map numC) [numC (tw : Int)] (by rfl) hAp.m.t (by rfl) (rows_of_block (cs := #[.int .i64 (tw : Int)]) nb2.blk rfl (by intro u hu; simp at hu; first | (subst hu; rfl) | (rcases hu with rfl | rfl | rfl | rfl <;> rfl))) (by simp; unfold maxLen; omega) (by simp; omega) hAp.base ?_
             intro v2 W2 hf2 hg2 hb2 _
             (try replace nb1 := nb1.addT hg2 hb2); (try replace nb2 := nb2.addT hg2 hb2); (try replace nb3 := nb3.addT hg2 hb2); replace hAp := hAp.addT hg2 hf2 hb2 (fun b hb => bsOf_mem (by simp) hb)
             obtain ⟨q2, l2, c2, rfl⟩ := hAp.m.t.len3
             clear hf2 hg2 hb2
             generalize W2 = W at *
             refine hK.out _ _ ?s59 (fun hHeld => ?k59)
             case s59 => ((try dsimp only); (exact hAp.sees rfl rfl))
             clear hK K
             (try simp only [Act.put, List.setIfInBounds_toArray, List.set_cons_zero, List.set_cons_succ, List.getElem_toArray, List.getElem_cons_zero, List.getElem_cons_succ])
             refine wpAnyH_ready (rs := [23]) (by kernel_rfl) (by simp) ?_
             refine AllReadyH.cons rfl (fun K hK => ?_) AllReadyH.nil
             refine step_append_rows EObjR (by rfl) _ _ (by rfl) B (.slice qo rows.length co) (.slice (some ⟨n3, 0, none⟩) 1 1) (rows) [[.int .i64 o.kind, .int .i64 o.tag, .slice q9 o.fields.length c9, .string o.text]] (by rfl) hAp.m.o (by rfl) (rows_of_block (cs := #[.int .i64 o.kind, .int .i64 o.tag, .slice q9 o.fields.length c9, .string o.text]) nb3.blk rfl (by intro u hu; simp at hu; first | (subst hu; rfl) | (rcases hu with rfl | rfl | rfl | rfl <;> rfl))) (by simp; unfold maxLen; omega) (by simp; omega) hAp.base ?_
             intro v3 W2 hf2 hg2 hb2 _
             (try replace nb1 := nb1.addO hg2 hb2); (try replace nb2 := nb2.addO hg2 hb2); (try replace nb3 := nb3.addO hg2 hb2); replace hAp := hAp.addO hg2 hf2 hb2 (fun b hb => bsOf_mem (by simp) hb) HND.out
             obtain ⟨q3, l3, c3, rfl⟩ := hAp.m.o.len3
             clear hf2 hg2 hb2
             generalize W2 = W at *
             refine hK.out _ _ ?s60 (fun hHeld => ?k60)
             case s60 => ((try dsimp only); (exact hAp.sees rfl rfl))
             clear hK K
             (try simp only [Act.put, List.setIfInBounds_toArray, List.set_cons_zero, List.set_cons_succ, List.getElem_toArray, List.getElem_cons_zero, List.getElem_cons_succ])
             refine wpAnyH_take (i := 24) (v := ?v61) rfl (by kernel_rfl) (by kernel_rfl) (by kernel_rfl) (fun _ _ _ h => h) (Or.inl ⟨by rfl, ?y61⟩) (by assumption) ?r61
             case y61 => intro w hSw; (try dsimp only at hSw); go_simp; (try with_reducible rfl)
             (try simp only [Act.put, List.setIfInBounds_toArray, List.set_cons_zero, List.set_cons_succ, List.getElem_toArray, List.getElem_cons_zero, List.getElem_cons_succ])
             refine wpAnyH_take (i := 25) (v := ?v62) rfl (by kernel_rfl) (by kernel_rfl) (by kernel_rfl) (fun _ _ _ h => h) (Or.inl ⟨by rfl, ?y62⟩) (by assumption) ?r62
             case y62 => intro w hSw; (try dsimp only at hSw); go_simp; (try with_reducible rfl)
             (try simp only [Act.put, List.setIfInBounds_toArray, List.set_cons_zero, List.set_cons_succ, List.getElem_toArray, List.getElem_cons_zero, List.getElem_cons_succ])
             refine wpAnyH_done (by kernel_rfl) ?_ _
             show wpList _ _ _ _ _ _
             obtain ⟨y0, y1, y2, -⟩ := cells9 hAp.k
             have f0 := free_at hAp.k (i := 0)
             have f1 := free_at hAp.k (i := 1)
             have f2 := free_at hAp.k (i := 2)
             clear nb1 nb2 nb3
             go_wp2
             refine NoPanic.normal ?_
             go_wp2
             go_meet
             exact hAp.cut HGE.out HRN.out
           · skip
             go_simp
             have e1 := Ext.alloc W (.cells #[.int .i64 (tw : Int)] 3)
             have nb2 := NbR.new hAp.m (heap_alloc_new W (.cells #[.int .i64 (tw : Int)] 3))
             (try replace nb1 := nb1.ext e1); (try replace nb3 := nb3.ext e1); replace hAp := hAp.ext e1
             clear e1
             generalize W.heap.size = n2 at *
             generalize W.alloc (.cells #[.int .i64 (tw : Int)] 3) = W at *
             refine hK.out _ _ ?s63 (fun hHeld => ?k63)
             case s63 => ((try dsimp only); (exact hAp.sees rfl rfl))
             clear hK K
             (try simp only [Act.put, List.setIfInBounds_toArray, List.set_cons_zero, List.set_cons_succ, List.getElem_toArray, List.getElem_cons_zero, List.getElem_cons_succ])
             refine wpAnyH_ready (rs := [9]) (by kernel_rfl) (by simp) ?_
             refine AllReadyH.cons rfl (fun K hK => ?_) AllReadyH.nil
             refine step_append_rows EInt (by rfl) _ _ (by rfl) B (.slice qf LF.length cf) (.slice (some ⟨n1, 0, none⟩) 1 1) (LF.map numC) [numC (at_ : Int)] (by rfl) hAp.m.f (by rfl) (rows_of_block (cs := #[.int .i64 (at_ : Int)]) nb1.blk rfl (by intro u hu; simp at hu; first | (subst hu; rfl) | (rcases hu with rfl | rfl | rfl | rfl <;> rfl))) (by simp; unfold maxLen; omega) (by simp; omega) hAp.base ?_
             intro v1 W2 hf2 hg2 hb2 _
             (try replace nb1 := nb1.addF hg2 hb2); (try replace nb2 := nb2.addF hg2 hb2); (try replace nb3 := nb3.addF hg2 hb2); replace hAp := hAp.addF hg2 hf2 hb2 (fun b hb => bsOf_mem (by simp) hb)
             obtain ⟨q1, l1, c1, rfl⟩ := hAp.m.f.len3
             clear hf2 hg2 hb2
             generalize W2 = W at *
             refine hK.out _ _ ?s64 (fun hHeld => ?k64)
             case s64 => ((try dsimp only); (exact hAp.sees rfl rfl))
             clear hK K
             (try simp only [Act.put, List.setIfInBounds_toArray, List.set_cons_zero, List.set_cons_succ, List.getElem_toArray, List.getElem_cons_zero, List.getElem_cons_succ])
             refine wpAnyH_ready (rs := [16]) (by kernel_rfl) (by simp) ?_
             refine AllReadyH.cons rfl (fun K hK => ?_) AllReadyH.nil
             refine step_append_rows EInt (by rfl) _ _ (by rfl) B (.slice qt LT.length ct) (.slice (some ⟨n2, 0, none⟩) 1 1) (LT.map numC) [numC (tw : Int)] (by rfl) hAp.m.t (by rfl) (rows_of_block (cs := #[.int .i64 (tw : Int)]) nb2.blk rfl (by intro u hu; simp at hu; first | (subst hu; rfl) | (rcases hu with rfl | rfl | rfl | rfl <;> rfl))) (by simp; unfold maxLen; omega) (by simp; omega) hAp.base ?_
             intro v2 W2 hf2 hg2 hb2 _
             (try replace nb1 := nb1.addT hg2 hb2); (try replace nb2 := nb2.addT hg2 hb2); (try replace nb3 := nb3.addT hg2 hb2); replace hAp := hAp.addT hg2 hf2 hb2 (fun b hb => bsOf_mem (by simp) hb)
             obtain ⟨q2, l2, c2, rfl⟩ := hAp.m.t.len3
             clear hf2 hg2 hb2
             generalize W2 = W at *
             refine hK.out _ _ ?s65 (fun hHeld => ?k65)
             case s65 => ((try dsimp only); (exact hAp.sees rfl rfl))
             clear hK K
             (try simp only [Act.put, List.setIfInBounds_toArray, List.set_cons_zero, List.set_cons_succ, List.getElem_toArray, List.getElem_cons_zero, List.getElem_cons_succ])
             refine wpAnyH_ready (rs := [23]) (by kernel_rfl) (by simp) ?_
             refine AllReadyH.cons rfl (fun K hK => ?_) AllReadyH.nil
             refine step_append_rows EObjR (by rfl) _ _ (by rfl) B (.slice qo rows.length co) (.slice (some ⟨n3, 0, none⟩) 1 1) (rows) [[.int .i64 o.kind, .int .i64 o.tag, .slice q9 o.fields.length c9, .string o.text]] (by rfl) hAp.m.o (by rfl) (rows_of_block (cs := #[.int .i64 o.kind, .int .i64 o.tag, .slice q9 o.fields.length c9, .string o.text]) nb3.blk rfl (by intro u hu; simp at hu; first | (subst hu; rfl) | (rcases hu with rfl | rfl | rfl | rfl <;> rfl))) (by simp; unfold maxLen; omega) (by simp; omega) hAp.base ?_
             intro v3 W2 hf2 hg2 hb2 _
             (try replace nb1 := nb1.addO hg2 hb2); (try replace nb2 := nb2.addO hg2 hb2); (try replace nb3 := nb3.addO hg2 hb2); replace hAp := hAp.addO hg2 hf2 hb2 (fun b hb => bsOf_mem (by simp) hb) HND.out
             obtain ⟨q3, l3, c3, rfl⟩ := hAp.m.o.len3
             clear hf2 hg2 hb2
             generalize W2 = W at *
             refine hK.out _ _ ?s66 (fun hHeld => ?k66)
             case s66 => ((try dsimp only); (exact hAp.sees rfl rfl))
             clear hK K
             (try simp only [Act.put, List.setIfInBounds_toArray, List.set_cons_zero, List.set_cons_succ, List.getElem_toArray, List.getElem_cons_zero, List.getElem_cons_succ])
             refine wpAnyH_take (i := 24) (v := ?v67) rfl (by kernel_rfl) (by kernel_rfl) (by kernel_rfl) (fun _ _ _ h => h) (Or.inl ⟨by rfl, ?y67⟩) (by assumption) ?r67
             case y67 => intro w hSw; (try dsimp only at hSw); go_simp; (try with_reducible rfl)
             (try simp only [Act.put, List.setIfInBounds_toArray, List.set_cons_zero, List.set_cons_succ, List.getElem_toArray, List.getElem_cons_zero, List.getElem_cons_succ])
             refine wpAnyH_take (i := 25) (v := ?v68) rfl (by kernel_rfl) (by kernel_rfl) (by kernel_rfl) (fun _ _ _ h => h) (Or.inl ⟨by rfl, ?y68⟩) (by assumption) ?r68
             case y68 => intro w hSw; (try dsimp only at hSw); go_simp; (try with_reducible rfl)
             (try simp only [Act.put, List.setIfInBounds_toArray, List.set_cons_zero, List.set_cons_succ, List.getElem_toArray, List.getElem_cons_zero, List.getElem_cons_succ])
             refine wpAnyH_done (by kernel_rfl) ?_ _
             show wpList _ _ _ _ _ _
             obtain ⟨y0, y1, y2, -⟩ := cells9 hAp.k
             have f0 := free_at hAp.k (i := 0)
             have f1 := free_at hAp.k (i := 1)
             have f2 := free_at hAp.k (i := 2)
             clear nb1 nb2 nb3
             go_wp2
             refine NoPanic.normal ?_
             go_wp2
             go_meet
             exact hAp.cut HGE.out HRN.out
       · skip
         go_simp
         have e1 := Ext.alloc W (.cells #[.int .i64 (tw : Int)] 3)
         have nb2 := NbR.new hAp.m (heap_alloc_new W (.cells #[.int .i64 (tw : Int)] 3))
         (try replace nb1 := nb1.ext e1); (try replace nb3 := nb3.ext e1); replace hAp := hAp.ext e1
         clear e1
         generalize W.heap.size = n2 at *
         generalize W.alloc (.cells #[.int .i64 (tw : Int)] 3) = W at *
         refine hK.out _ _ ?s69 (fun hHeld => ?k69)
         case s69 => ((try dsimp only); (exact hAp.sees rfl rfl))
         clear hK K
         (try simp only [Act.put, List.setIfInBounds_toArray, List.set_cons_zero, List.set_cons_succ, List.getElem_toArray, List.getElem_cons_zero, List.getElem_cons_succ])
         refine wpAnyH_ready (rs := [8, 22]) (by kernel_rfl) (by simp) ?_
         refine AllReadyH.cons rfl (fun K hK => ?_) (AllReadyH.cons rfl (fun K hK => ?_) (AllReadyH.nil))
         · skip
           go_simp
           have e1 := Ext.alloc W (.cells #[.int .i64 (at_ : Int)] 3)
           have nb1 := NbR.new hAp.m (heap_alloc_new W (.cells #[.int .i64 (at_ : Int)] 3))
           (try replace nb2 := nb2.ext e1); (try replace nb3 := nb3.ext e1); replace hAp := hAp.ext e1
           clear e1
           generalize W.heap.size = n1 at *
           generalize W.alloc (.cells #[.int .i64 (at_ : Int)] 3) = W at *
           refine hK.out _ _ ?s70 (fun hHeld => ?k70)
           case s70 => ((try dsimp only); (exact hAp.sees rfl rfl))
           clear hK K
           (try simp only [Act.put, List.setIfInBounds_toArray, List.set_cons_zero, List.set_cons_succ, List.getElem_toArray, List.getElem_cons_zero, List.getElem_cons_succ])
           refine wpAnyH_ready (rs := [9, 22]) (by kernel_rfl) (by simp) ?_
           refine AllReadyH.cons rfl (fun K hK => ?_) (AllReadyH.cons rfl (fun K hK => ?_) (AllReadyH.nil))
           · skip
             refine step_append_rows EInt (by rfl) _ _ (by rfl) B (.slice qf LF.length cf) (.slice (some ⟨n1, 0, none⟩) 1 1) (LF.map numC) [numC (at_ : Int)] (by rfl) hAp.m.f (by rfl) (rows_of_block (cs := #[.int .i64 (at_ : Int)]) nb1.blk rfl (by intro u hu; simp at hu; first | (subst hu; rfl) | (rcases hu with rfl | rfl | rfl | rfl <;> rfl))) (by simp; unfold maxLen; omega) (by simp; omega) hAp.base ?_
             intro v1 W2 hf2 hg2 hb2 _
             (try replace nb1 := nb1.addF hg2 hb2); (try replace nb2 := nb2.addF hg2 hb2); (try replace nb3 := nb3.addF hg2 hb2); replace hAp := hAp.addF hg2 hf2 hb2 (fun b hb => bsOf_mem (by simp) hb)
             obtain ⟨q1, l1, c1, rfl⟩ := hAp.m.f.len3
             clear hf2 hg2 hb2
             generalize W2 = W at *
             refine hK.out _ _ ?s71 (fun hHeld => ?k71)
             case s71 => ((try dsimp only); (exact hAp.sees rfl rfl))
             clear hK K
             (try simp only [Act.put, List.setIfInBounds_toArray, List.set_cons_zero, List.set_cons_succ, List.getElem_toArray, List.getElem_cons_zero, List.getElem_cons_succ])
             refine wpAnyH_ready (rs := [16, 22]) (by kernel_rfl) (by simp) ?_
             refine AllReadyH.cons rfl (fun K hK => ?_) (AllReadyH.cons rfl (fun K hK => ?_) (AllReadyH.nil))
             · skip
               refine step_append_rows EInt (by rfl) _ _ (by rfl) B (.slice qt LT.length ct) (.slice (some ⟨n2, 0, none⟩) 1 1) (LT.map numC) [numC (tw : Int)] (by rfl) hAp.m.t (by rfl) (rows_of_block (cs := #[.int .i64 (tw : Int)]) nb2.blk rfl (by intro u hu; simp at hu; first | (subst hu; rfl) | (rcases hu with rfl | rfl | rfl | rfl <;> rfl))) (by simp; unfold maxLen; omega) (by simp; omega) hAp.base ?_
               intro v2 W2 hf2 hg2 hb2 _
               (try replace nb1 := nb1.addT hg2 hb2); (try replace nb2 := nb2.addT hg2 hb2); (try replace nb3 := nb3.addT hg2 hb2); replace hAp := hAp.addT hg2 hf2 hb2 (fun b hb => bsOf_mem (by simp) hb)
               obtain ⟨q2, l2, c2, rfl⟩ := hAp.m.t.len3
               clear hf2 hg2 hb2
               generalize W2 = W at *
               refine hK.out _ _ ?s72 (fun hHeld => ?k72)
               case s72 => ((try dsimp only); (exact hAp.sees rfl rfl))
               clear hK K
               (try simp only [Act.put, List.setIfInBounds_toArray, List.set_cons_zero, List.set_cons_succ, List.getElem_toArray, List.getElem_cons_zero, List.getElem_cons_succ])
               refine wpAnyH_ready (rs := [22]) (by kernel_rfl) (by simp) ?_
               refine AllReadyH.cons rfl (fun K hK => ?_) AllReadyH.nil
               go_simp
               have e1 := Ext.alloc W (.cells #[.int .i64 o.kind, .int .i64 o.tag, .slice q9 o.fields.length c9, .string o.text] 55)
               have nb3 := NbR.new hAp.m (heap_alloc_new W (.cells #[.int .i64 o.kind, .int .i64 o.tag, .slice q9 o.fields.length c9, .string o.text] 55))
               (try replace nb1 := nb1.ext e1); (try replace nb2 := nb2.ext e1); replace hAp := hAp.ext e1
               clear e1
               generalize W.heap.size = n3 at *
               generalize W.alloc (.cells #[.int .i64 o.kind, .int .i64 o.tag, .slice q9 o.fields.length c9, .string o.text] 55) = W at *
               refine hK.out _ _ ?s73 (fun hHeld => ?k73)
               case s73 => ((try dsimp only); (exact hAp.sees rfl rfl))
               clear hK K
               (try simp only [Act.put, List.setIfInBounds_toArray, List.set_cons_zero, List.set_cons_succ, List.getElem_toArray, List.getElem_cons_zero, List.getElem_cons_succ])
               refine wpAnyH_ready (rs := [23]) (by kernel_rfl) (by simp) ?_
               refine AllReadyH.cons rfl (fun K hK => ?_) AllReadyH.nil
               refine step_append_rows EObjR (by rfl) _ _ (by rfl) B (.slice qo rows.length co) (.slice (some ⟨n3, 0, none⟩) 1 1) (rows) [[.int .i64 o.kind, .int .i64 o.tag, .slice q9 o.fields.length c9, .string o.text]] (by rfl) hAp.m.o (by rfl) (rows_of_block (cs := #[.int .i64 o.kind, .int .i64 o.tag, .slice q9 o.fields.length c9, .string o.text]) nb3.blk rfl (by intro u hu; simp at hu; first | (subst hu; rfl) | (rcases hu with rfl | rfl | rfl | rfl <;> rfl))) (by simp; unfold maxLen; omega) (by simp; omega) hAp.base ?_
               intro v3 W2 hf2 hg2 hb2 _
               (try replace nb1 := nb1.addO hg2 hb2); (try replace nb2 := nb2.addO hg2 hb2); (try replace nb3 := nb3.addO hg2 hb2); replace hAp := hAp.addO hg2 hf2 hb2 (fun b hb => bsOf_mem (by simp) hb) HND.out
               obtain ⟨q3, l3, c3, rfl⟩ := hAp.m.o.len3
               clear hf2 hg2 hb2
               generalize W2 = W at *
               refine hK.out _ _ ?s74 (fun hHeld => ?k74)
               case s74 => ((try dsimp only); (exact hAp.sees rfl rfl))
               clear hK K
               (try simp only [Act.put, List.setIfInBounds_toArray, List.set_cons_zero, List.set_cons_succ, List.getElem_toArray, List.getElem_cons_zero, List.getElem_cons_succ])
               refine wpAnyH_take (i := 24) (v := ?v75) rfl (by kernel_rfl) (by kernel_rfl) (by kernel_rfl) (fun _ _ _ h => h) (Or.inl ⟨by rfl, ?y75⟩) (by assumption) ?r75
               case y75 => intro w hSw; (try dsimp only at hSw); go_simp; (try with_reducible rfl)
               (try simp only [Act.put, List.setIfInBounds_toArray, List.set_cons_zero, List.set_cons_succ, List.getElem_toArray, List.getElem_cons_zero, List.getElem_cons_succ])
               refine wpAnyH_take (i := 25) (v := ?v76) rfl (by kernel_rfl) (by kernel_rfl) (by kernel_rfl) (fun _ _ _ h => h) (Or.inl ⟨by rfl, ?y76⟩) (by assumption) ?r76
               case y76 => intro w hSw; (try dsimp only at hSw); go_simp; (try with_reducible rfl)
               (try simp only [Act.put, List.setIfInBounds_toArray, List.set_cons_zero, List.set_cons_succ, List.getElem_toArray, List.getElem_cons_zero, List.getElem_cons_succ])
               refine wpAnyH_done (by kernel_rfl) ?_ _
               show wpList _ _ _ _ _ _
               obtain ⟨y0, y1, y2, -⟩ := cells9 hAp.k
               have f0 := free_at hAp.k (i := 0)
               have f1 := free_at hAp.k (i := 1)
               have f2 := free_at hAp.k (i := 2)
               clear nb1 nb2 nb3
               go_wp2
               refine NoPanic.normal ?_
               go_wp2
               go_meet
               exact hAp.cut HGE.out HRN.out
             · skip
               go_simp
               have e1 := Ext.alloc W (.cells #[.int .i64 o.kind, .int .i64 o.tag, .slice q9 o.fields.length c9, .string o.text] 55)
               have nb3 := NbR.new hAp.m (heap_alloc_new W (.cells #[.int .i64 o.kind, .int .i64 o.tag, .slice q9 o.fields.length c9, .string o.text] 55))
               (try replace nb1 := nb1.ext e1); (try replace nb2 := nb2.ext e1); replace hAp := hAp.ext e1
               clear e1
               generalize W.heap.size = n3 at *
               generalize W.alloc (.cells #[.int .i64 o.kind, .int .i64 o.tag, .slice q9 o.fields.length c9, .string o.text] 55) = W at *
               refine hK.out _ _ ?s77 (fun hHeld => ?k77)
               case s77 => ((try dsimp only); (exact hAp.sees rfl rfl))
               clear hK K
               (try simp only [Act.put, List.setIfInBounds_toArray, List.set_cons_zero, List.set_cons_succ, List.getElem_toArray, List.getElem_cons_zero, List.getElem_cons_succ])
               refine wpAnyH_ready (rs := [16]) (by kernel_rfl) (by simp) ?_
               refine AllReadyH.cons rfl (fun K hK => ?_) AllReadyH.nil
               refine step_append_rows EInt (by rfl) _ _ (by rfl) B (.slice qt LT.length ct) (.slice (some ⟨n2, 0, none⟩) 1 1) (LT.map numC) [numC (tw : Int)] (by rfl) hAp.m.t (by rfl) (rows_of_block (cs := #[.int .i64 (tw : Int)]) nb2.blk rfl (by intro u hu; simp at hu; first | (subst hu; rfl) | (rcases hu with rfl | rfl | rfl | rfl <;> rfl))) (by simp; unfold maxLen; omega) (by simp; omega) hAp.base ?_
               intro v2 W2 hf2 hg2 hb2 _
               (try replace nb1 := nb1.addT hg2 hb2); (try replace nb2 := nb2.addT hg2 hb2); (try replace nb3 := nb3.addT hg2 hb2); replace hAp := hAp.addT hg2 hf2 hb2 (fun b hb => bsOf_mem (by simp) hb)
               obtain ⟨q2, l2, c2, rfl⟩ := hAp.m.t.len3
               clear hf2 hg2 hb2
               generalize W2 = W at *
               refine hK.out _ _ ?s78 (fun hHeld => ?k78)
               case s78 => ((try dsimp only); (exact hAp.sees rfl rfl))
               clear hK K
               (try simp only [Act.put, List.setIfInBounds_toArray, List.set_cons_zero, List.set_cons_succ, List.getElem_toArray, List.getElem_cons_zero, List.getElem_cons_succ])
               refine wpAnyH_ready (rs := [23]) (by kernel_rfl) (by simp) ?_
               refine AllReadyH.cons rfl (fun K hK => ?_) AllReadyH.nil
               refine step_append_rows EObjR (by rfl) _ _ (by rfl) B (.slice qo rows.length co) (.slice (some ⟨n3, 0, none⟩) 1 1) (rows) [[.int .i64 o.kind, .int .i64 o.tag, .slice q9 o.fields.length c9, .string o.text]] (by rfl) hAp.m.o (by rfl) (rows_of_block (cs := #[.int .i64 o.kind, .int .i64 o.tag, .slice q9 o.fields.length c9, .string o.text]) nb3.blk rfl (by intro u hu; simp at hu; first | (subst hu; rfl) | (rcases hu with rfl | rfl | rfl | rfl <;> rfl))) (by simp; unfold maxLen; omega) (by simp; omega) hAp.base ?_
               intro v3 W2 hf2 hg2 hb2 _
               (try replace nb1 := nb1.addO hg2 hb2); (try replace nb2 := nb2.addO hg2 hb2); (try replace nb3 := nb3.addO hg2 hb2); replace hAp := hAp.addO hg2 hf2 hb2 (fun b hb => bsOf_mem (by simp) hb) HND.out
               obtain ⟨q3, l3, c3, rfl⟩ := hAp.m.o.len3
               clear hf2 hg2 hb2
               generalize W2 = W at *
               refine hK.out _ _ ?s79 (fun hHeld => ?k79)
               case s79 => ((try dsimp only); (exact hAp.sees rfl rfl))
               clear hK K
               (try simp only [Act.put, List.setIfInBounds_toArray, List.set_cons_zero, List.set_cons_succ, List.getElem_toArray, List.getElem_cons_zero, List.getElem_cons_succ])
               refine wpAnyH_take (i := 24) (v := ?v80) rfl (by kernel_rfl) (by kernel_rfl) (by kernel_rfl) (fun _ _ _ h => h) (Or.inl ⟨by rfl, ?y80⟩) (by assumption) ?r80
               case y80 => intro w hSw; (try dsimp only at hSw); go_simp; (try with_reducible rfl)
               (try simp only [Act.put, List.setIfInBounds_toArray, List.set_cons_zero, List.set_cons_succ, List.getElem_toArray, List.getElem_cons_zero, List.getElem_cons_succ])
               refine wpAnyH_take (i := 25) (v := ?v81) rfl (by kernel_rfl) (by kernel_rfl) (by kernel_rfl) (fun _ _ _ h => h) (Or.inl ⟨by rfl, ?y81⟩) (by assumption) ?r81
               case y81 => intro w hSw; (try dsimp only at hSw); go_simp; (try with_reducible rfl)
               (try simp only [Act.put, List.setIfInBounds_toArray, List.set_cons_zero, List.set_cons_succ, List.getElem_toArray, List.getElem_cons_zero, List.getElem_cons_succ])
               refine wpAnyH_done (by kernel_rfl) ?_ _
               show wpList _ _ _ _ _ _
               obtain ⟨y0, y1, y2, -⟩ := cells9 hAp.k
               have f0 := free_at hAp.k (i := 0)
               have f1 := free_at hAp.k (i := 1)
               have f2 := free_at hAp.k (i := 2)
               clear nb1 nb2 nb3
               go_wp2
               refine NoPanic.normal ?_
               go_wp2
               go_meet
               exact hAp.cut HGE.out HRN.out
           · skip
             go_simp
             have e1 := Ext.alloc W (.cells #[.int .i64 o.kind, .int .i64 o.tag, .slice q9 o.fields.length c9, .string o.text] 55)
             have nb3 := NbR.new hAp.m (heap_alloc_new W (.cells #[.int .i64 o.kind, .int .i64 o.tag, .slice q9 o.fields.length c9, .string o.text] 55))
             (try replace nb1 := nb1.ext e1); (try replace nb2 := nb2.ext e1); replace hAp := hAp.ext e1
             clear e1
             generalize W.heap.size = n3 at *
             generalize W.alloc (.cells #[.int .i64 o.kind, .int .i64 o.tag, .slice q9 o.fields.length c9, .string o.text] 55) = W at *
             refine hK.out _ _ ?s82 (fun hHeld => ?k82)
             case s82 => ((try dsimp only); (exact hAp.sees rfl rfl))
             clear hK K
             (try simp only [Act.put, List.setIfInBounds_toArray, List.set_cons_zero, List.set_cons_succ, List.getElem_toArray, List.getElem_cons_zero, List.getElem_cons_succ])
             refine wpAnyH_ready (rs := [9]) (by kernel_rfl) (by simp) ?_
             refine AllReadyH.cons rfl (fun K hK => ?_) AllReadyH.nil
             refine step_append_rows EInt (by rfl) _ _ (by rfl) B (.slice qf LF.length cf) (.slice (some ⟨n1, 0, none⟩) 1 1) (LF.map numC) [numC (at_ : Int)] (by rfl) hAp.m.f (by rfl) (rows_of_block (cs := #[.int .i64 (at_ : Int)]) nb1.blk rfl (by intro u hu; simp at hu; first | (subst hu; rfl) | (rcases hu with rfl | rfl | rfl | rfl <;> rfl))) (by simp; unfold maxLen; omega) (by simp; omega) hAp.base ?_
             intro v1 W2 hf2 hg2 hb2 _
             (try replace nb1 := nb1.addF hg2 hb2); (try replace nb2 := nb2.addF hg2 hb2); (try replace nb3 := nb3.addF hg2 hb2); replace hAp := hAp.addF hg2 hf2 hb2 (fun b hb => bsOf_mem (by simp) hb)
             obtain ⟨q1, l1, c1, rfl⟩ := hAp.m.f.len3
             clear hf2 hg2 hb2
             generalize W2 = W at *
             refine hK.out _ _ ?s83 (fun hHeld => ?k83)
             case s83 => ((try dsimp only); (exact hAp.sees rfl rfl))
             clear hK K
             (try simp only [Act.put, List.setIfInBounds_toArray, List.set_cons_zero, List.set_cons_succ, List.getElem_toArray, List.getElem_cons_zero, List.getElem_cons_succ])
             refine wpAnyH_ready (rs := [16]) (by kernel_rfl) (by simp) ?_
             refine AllReadyH.cons rfl (fun K hK => ?_) AllReadyH.nil
             refine step_append_rows EInt (by rfl) _ _ (by rfl) B (.slice qt LT.length ct) (.slice (some ⟨n2, 0, none⟩) 1 1) (LT.map numC) [numC (tw : Int)] (by rfl) hAp.m.t (by rfl) (rows_of_block (cs := #[.int .i64 (tw : Int)]) nb2.blk rfl (by intro u hu; simp at hu; first | (subst hu; rfl) | (rcases hu with rfl | rfl | rfl | rfl <;> rfl))) (by simp; unfold maxLen; omega) (by simp; omega) hAp.base ?_
             intro v2 W2 hf2 hg2 hb2 _
             (try replace nb1 := nb1.addT hg2 hb2); (try replace nb2 := nb2.addT hg2 hb2); (try replace nb3 := nb3.addT hg2 hb2); replace hAp := hAp.addT hg2 hf2 hb2 (fun b hb => bsOf_mem (by simp) hb)
             obtain ⟨q2, l2, c2, rfl⟩ := hAp.m.t.len3
             clear hf2 hg2 hb2
             generalize W2 = W at *
             refine hK.out _ _ ?s84 (fun hHeld => ?k84)
             case s84 => ((try dsimp only); (exact hAp.sees rfl rfl))
             clear hK K
             (try simp only [Act.put, List.setIfInBounds_toArray, List.set_cons_zero, List.set_cons_succ, List.getElem_toArray, List.getElem_cons_zero, List.getElem_cons_succ])
             refine wpAnyH_ready (rs := [23]) (by kernel_rfl) (by simp) ?_
             refine AllReadyH.cons rfl (fun K hK => ?_) AllReadyH.nil
             refine step_append_rows EObjR (by rfl) _ _ (by rfl) B (.slice qo rows.length co) (.slice (some ⟨n3, 0, none⟩) 1 1) (rows) [[.int .i64 o.kind, .int .i64 o.tag, .slice q9 o.fields.length c9, .string o.text]] (by rfl) hAp.m.o (by rfl) (rows_of_block (cs := #[.int .i64 o.kind, .int .i64 o.tag, .slice q9 o.fields.length c9, .string o.text]) nb3.blk rfl (by intro u hu; simp at hu; first | (subst hu; rfl) | (rcases hu with rfl | rfl | rfl | rfl <;> rfl))) (by simp; unfold maxLen; omega) (by simp; omega) hAp.base ?_
             intro v3 W2 hf2 hg2 hb2 _
             (try replace nb1 := nb1.addO hg2 hb2); (try replace nb2 := nb2.addO hg2 hb2); (try replace nb3 := nb3.addO hg2 hb2); replace hAp := hAp.addO hg2 hf2 hb2 (fun b hb => bsOf_mem (by simp) hb) HND.out
             obtain ⟨q3, l3, c3, rfl⟩ := hAp.m.o.len3
             clear hf2 hg2 hb2
             generalize W2 = W at *
             refine hK.out _ _ ?s85 (fun hHeld => ?k85)
             case s85 => ((try dsimp only); (exact hAp.sees rfl rfl))
             clear hK K
             (try simp only [Act.put, List.setIfInBounds_toArray, List.set_cons_zero, List.set_cons_succ, List.getElem_toArray, List.getElem_cons_zero, List.getElem_cons_succ])
             refine wpAnyH_take (i := 24) (v := ?v86) rfl (by kernel_rfl) (by kernel_rfl) (by kernel_rfl) (fun _ _ _ h => h) (Or.inl ⟨by rfl, ?y86⟩) (by assumption) ?r86
             case y86 => intro w hSw; (try dsimp only at hSw); go_simp; (try with_reducible rfl)
             (try simp only [Act.put, List.setIfInBounds_toArray, List.set_cons_zero, List.set_cons_succ, List.getElem_toArray, List.getElem_cons_zero, List.getElem_cons_succ])
             refine wpAnyH_take (i := 25) (v := ?v87) rfl (by kernel_rfl) (by kernel_rfl) (by kernel_rfl) (fun _ _ _ h => h) (Or.inl ⟨by rfl, ?y87⟩) (by assumption) ?r87
             case y87 => intro w hSw; (try dsimp only at hSw); go_simp; (try with_reducible rfl)
             (try simp only [Act.put, List.setIfInBounds_toArray, List.set_cons_zero, List.set_cons_succ, List.getElem_toArray, List.getElem_cons_zero, List.getElem_cons_succ])
             refine wpAnyH_done (by kernel_rfl) ?_ _
             show wpList _ _ _ _ _ _
             obtain ⟨y0, y1, y2, -⟩ := cells9 hAp.k
             have f0 := free_at hAp.k (i := 0)
             have f1 := free_at hAp.k (i := 1)
             have f2 := free_at hAp.k (i := 2)
             clear nb1 nb2 nb3
             go_wp2
             refine NoPanic.normal ?_
             go_wp2
             go_meet
             exact hAp.cut HGE.out HRN.out
         · skip
           go_simp
           have e1 := Ext.alloc W (.cells #[.int .i64 o.kind, .int .i64 o.tag, .slice q9 o.fields.length c9, .string o.text] 55)
           have nb3 := NbR.new hAp.m (heap_alloc_new W (.cells #[.int .i64 o.kind, .int .i64 o.tag, .slice q9 o.fields.length c9, .string o.text] 55))
           (try replace nb1 := nb1.ext e1); (try replace nb2 := nb2.ext e1); replace hAp := hAp.ext e1
           clear e1
           generalize W.heap.size = n3 at *
           generalize W.alloc (.cells #[.int .i64 o.kind, .int .i64 o.tag, .slice q9 o.fields.length c9, .string o.text] 55) = W at *
           refine hK.out _ _ ?s88 (fun hHeld => ?k88)
           case s88 => ((try dsimp only); (exact hAp.sees rfl rfl))
           clear hK K
           (try simp only [Act.put, List.setIfInBounds_toArray, List.set_cons_zero, List.set_cons_succ, List.getElem_toArray, List.getElem_cons_zero, List.getElem_cons_succ])
           refine wpAnyH_ready (rs := [8]) (by kernel_rfl) (by simp) ?_
           refine AllReadyH.cons rfl (fun K hK => ?_) AllReadyH.nil
           go_simp
           have e1 := Ext.alloc W (.cells #[.int .i64 (at_ : Int)] 3)
           have nb1 := NbR.new hAp.m (heap_alloc_new W (.cells #[.int .i64 (at_ : Int)] 3))
           (try replace nb2 := nb2.ext e1); (try replace nb3 := nb3.ext e1); replace hAp := hAp.ext e1
           clear e1
           generalize W.heap.size = n1 at *
           generalize W.alloc (.cells #[.int .i64 (at_ : Int)] 3) = W at *
           refine hK.out _ _ ?s89 (fun hHeld => ?k89)
           case s89 => ((try dsimp only); (exact hAp.sees rfl rfl))
           clear hK K
           (try simp only [Act.put, List.setIfInBounds_toArray, List.set_cons_zero, List.set_cons_succ, List.getElem_toArray, List.getElem_cons_zero, List.getElem_cons_succ])
           refine wpAnyH_ready (rs := [9]) (by kernel_rfl) (by simp) ?_
           refine AllReadyH.cons rfl (fun K hK => ?_) AllReadyH.nil
           refine step_append_rows EInt (by rfl) _ _ (by rfl) B (.slice qf LF.length cf) (.slice (some ⟨n1, 0, none⟩) 1 1) (LF.map numC) [numC (at_ : Int)] (by rfl) hAp.m.f (by rfl) (rows_of_block (cs := #[.int .i64 (at_ : Int)]) nb1.blk rfl (by intro u hu; simp at hu; first | (subst hu; rfl) | (rcases hu with rfl | rfl | rfl | rfl <;> rfl))) (by simp; unfold maxLen; omega) (by simp; omega) hAp.base ?_
           intro v1 W2 hf2 hg2 hb2 _
           (try replace nb1 := nb1.addF hg2 hb2); (try replace nb2 := nb2.addF hg2 hb2); (try replace nb3 := nb3.addF hg2 hb2); replace hAp := hAp.addF hg2 hf2 hb2 (fun b hb => bsOf_mem (by simp) hb)
           obtain ⟨q1, l1, c1, rfl⟩ := hAp.m.f.len3
           clear hf2 hg2 hb2
           generalize W2 = W at *
           refine hK.out _ _ ?s90 (fun hHeld => ?k90)
           case s90 => ((try dsimp only); (exact hAp.sees rfl rfl))
           clear hK K
           (try simp only [Act.put, List.setIfInBounds_toArray, List.set_cons_zero, List.set_cons_succ, List.getElem_toArray, List.getElem_cons_zero, List.getElem_cons_succ])
           refine wpAnyH_ready (rs := [16]) (by kernel_rfl) (by simp) ?_
           refine AllReadyH.cons rfl (fun K hK => ?_) AllReadyH.nil
           refine step_append_rows EInt (by rfl) _ _ (by rfl) B (.slice qt LT.length ct) (.slice (some ⟨n2, 0, none⟩) 1 1) (LT.map numC) [numC (tw : Int)] (by rfl) hAp.m.t (by rfl) (rows_of_block (cs := #[.int .i64 (tw : Int)]) nb2.blk rfl (by intro u hu; simp at hu; first | (subst hu; rfl) | (rcases hu with rfl | rfl | rfl | rfl <;> rfl))) (by simp; unfold maxLen; omega) (by simp; omega) hAp.base ?_
           intro v2 W2 hf2 hg2 hb2 _
           (try replace nb1 := nb1.addT hg2 hb2); (try replace nb2 := nb2.addT hg2 hb2); (try replace nb3 := nb3.addT hg2 hb2); replace hAp := hAp.addT hg2 hf2 hb2 (fun b hb => bsOf_mem (by simp) hb)
           obtain ⟨q2, l2, c2, rfl⟩ := hAp.m.t.len3
           clear hf2 hg2 hb2
           generalize W2 = W at *
           refine hK.out _ _ ?s91 (fun hHeld => ?k91)
           case s91 => ((try dsimp only); (exact hAp.sees rfl rfl))
           clear hK K
           (try simp only [Act.put, List.setIfInBounds_toArray, List.set_cons_zero, List.set_cons_succ, List.getElem_toArray, List.getElem_cons_zero, List.getElem_cons_succ])
           refine wpAnyH_ready (rs := [23]) (by kernel_rfl) (by simp) ?_
           refine AllReadyH.cons rfl (fun K hK => ?_) AllReadyH.nil
           refine step_append_rows EObjR (by rfl) _ _ (by rfl) B (.slice qo rows.length co) (.slice (some ⟨n3, 0, none⟩) 1 1) (rows) [[.int .i64 o.kind, .int .i64 o.tag, .slice q9 o.fields.length c9, .string o.text]] (by rfl) hAp.m.o (by rfl) (rows_of_block (cs := #[.int .i64 o.kind, .int .i64 o.tag, .slice q9 o.fields.length c9, .string o.text]) nb3.blk rfl (by intro u hu; simp at hu; first | (subst hu; rfl) | (rcases hu with rfl | rfl | rfl | rfl <;> rfl))) (by simp; unfold maxLen; omega) (by simp; omega) hAp.base ?_
           intro v3 W2 hf2 hg2 hb2 _
           (try replace nb1 := nb1.addO hg2 hb2); (try replace nb2 := nb2.addO hg2 hb2); (try replace nb3 := nb3.addO hg2 hb2); replace hAp := hAp.addO hg2 hf2 hb2 (fun b hb => bsOf_mem (by simp) hb) HND.out
           obtain ⟨q3, l3, c3, rfl⟩ := hAp.m.o.len3
           clear hf2 hg2 hb2
           generalize W2 = W at *
           refine hK.out _ _ ?s92 (fun hHeld => ?k92)
           case s92 => ((try dsimp only); (exact hAp.sees rfl rfl))
           clear hK K
           (try simp only [Act.put, List.setIfInBounds_toArray, List.set_cons_zero, List.set_cons_succ, List.getElem_toArray, List.getElem_cons_zero, List.getElem_cons_succ])
           refine wpAnyH_take (i := 24) (v := ?v93) rfl (by kernel_rfl) (by kernel_rfl) (by kernel_rfl) (fun _ _ _ h => h) (Or.inl ⟨by rfl, ?y93⟩) (by assumption) ?r93
           case y93 => intro w hSw; (try dsimp only at hSw); go_simp; (try with_reducible rfl)
           (try simp only [Act.put, List.setIfInBounds_toArray, List.set_cons_zero, List.set_cons_succ, List.getElem_toArray, List.getElem_cons_zero, List.getElem_cons_succ])
           refine wpAnyH_take (i := 25) (v := ?v94) rfl (by kernel_rfl) (by kernel_rfl) (by kernel_rfl) (fun _ _ _ h => h) (Or.inl ⟨by rfl, ?y94⟩) (by assumption) ?r94
           case y94 => intro w hSw; (try dsimp only at hSw); go_simp; (try with_reducible rfl)
           (try simp only [Act.put, List.setIfInBounds_toArray, List.set_cons_zero, List.set_cons_succ, List.getElem_toArray, List.getElem_cons_zero, List.getElem_cons_succ])
           refine wpAnyH_done (by kernel_rfl) ?_ _
           show wpList _ _ _ _ _ _
           obtain ⟨y0, y1, y2, -⟩ := cells9 hAp.k
           have f0 := free_at hAp.k (i := 0)
           have f1 := free_at hAp.k (i := 1)
           have f2 := free_at hAp.k (i := 2)
           clear nb1 nb2 nb3
           go_wp2
           refine NoPanic.normal ?_
           go_wp2
           go_meet
           exact hAp.cut HGE.out HRN.out
       · skip
         go_simp
         have e1 := Ext.alloc W (.cells #[.int .i64 o.kind, .int .i64 o.tag, .slice q9 o.fields.length c9, .string o.text] 55)
         have nb3 := NbR.new hAp.m (heap_alloc_new W (.cells #[.int .i64 o.kind, .int .i64 o.tag, .slice q9 o.fields.length c9, .string o.text] 55))
         (try replace nb1 := nb1.ext e1); (try replace nb2 := nb2.ext e1); replace hAp := hAp.ext e1
         clear e1
         generalize W.heap.size = n3 at *
         generalize W.alloc (.cells #[.int .i64 o.kind, .int .i64 o.tag, .slice q9 o.fields.length c9, .string o.text] 55) = W at *
         refine hK.out _ _ ?s95 (fun hHeld => ?k95)
         case s95 => ((try dsimp only); (exact hAp.sees rfl rfl))
         clear hK K
         (try simp only [Act.put, List.setIfInBounds_toArray, List.set_cons_zero, List.set_cons_succ, List.getElem_toArray, List.getElem_cons_zero, List.getElem_cons_succ])
         refine wpAnyH_ready (rs := [8, 15]) (by kernel_rfl) (by simp) ?_
         refine AllReadyH.cons rfl (fun K hK => ?_) (AllReadyH.cons rfl (fun K hK => ?_) (AllReadyH.nil))
         · skip
           go_simp
           have e1 := Ext.alloc W (.cells #[.int .i64 (at_ : Int)] 3)
           have nb1 := NbR.new hAp.m (heap_alloc_new W (.cells #[.int .i64 (at_ : Int)] 3))
           (try replace nb2 := nb2.ext e1); (try replace nb3 := nb3.ext e1); replace hAp := hAp.ext e1
           clear e1
           generalize W.heap.size = n1 at *
           generalize W.alloc (.cells #[.int .i64 (at_ : Int)] 3) = W at *
           refine hK.out _ _ ?s96 (fun hHeld => ?k96)
           case s96 => ((try dsimp only); (exact hAp.sees rfl rfl))
           clear hK K
           (try simp only [Act.put, List.setIfInBounds_toArray, List.set_cons_zero, List.set_cons_succ, List.getElem_toArray, List.getElem_cons_zero, List.getElem_cons_succ])
           refine wpAnyH_ready (rs := [9, 15]) (by kernel_rfl) (by simp) ?_
           refine AllReadyH.cons rfl (fun K hK => ?_) (AllReadyH.cons rfl (fun K hK => ?_) (AllReadyH.nil))
           · skip
             refine step_append_rows EInt (by rfl) _ _ (by rfl) B (.slice qf LF.length cf) (.slice (some ⟨n1, 0, none⟩) 1 1) (LF.map numC) [numC (at_ : Int)] (by rfl) hAp.m.f (by rfl) (rows_of_block (cs := #[.int .i64 (at_ : Int)]) nb1.blk rfl (by intro u hu; simp at hu; first | (subst hu; rfl) | (rcases hu with rfl | rfl | rfl | rfl <;> rfl))) (by simp; unfold maxLen; omega) (by simp; omega) hAp.base ?_
             intro v1 W2 hf2 hg2 hb2 _
             (try replace nb1 := nb1.addF hg2 hb2); (try replace nb2 := nb2.addF hg2 hb2); (try replace nb3 := nb3.addF hg2 hb2); replace hAp := hAp.addF hg2 hf2 hb2 (fun b hb => bsOf_mem (by simp) hb)
             obtain ⟨q1, l1, c1, rfl⟩ := hAp.m.f.len3
             clear hf2 hg2 hb2
             generalize W2 = W at *
             refine hK.out _ _ ?s97 (fun hHeld => ?k97)
             case s97 => ((try dsimp only); (exact hAp.sees rfl rfl))
             clear hK K
             (try simp only [Act.put, List.setIfInBounds_toArray, List.set_cons_zero, List.set_cons_succ, List.getElem_toArray, List.getElem_cons_zero, List.getElem_cons_succ])
             refine wpAnyH_ready (rs := [15]) (by kernel_rfl) (by simp) ?_
             refine AllReadyH.cons rfl (fun K hK => ?_) AllReadyH.nil
             go_simp
             have e1 := Ext.alloc W (.cells #[.int .i64 (tw : Int)] 3)
             have nb2 := NbR.new hAp.m (heap_alloc_new W (.cells #[.int .i64 (tw : Int)] 3))
             (try replace nb1 := nb1.ext e1); (try replace nb3 := nb3.ext e1); replace hAp := hAp.ext e1
             clear e1
             generalize W.heap.size = n2 at *
             generalize W.alloc (.cells #[.int .i64 (tw : Int)] 3) = W at *
             refine hK.out _ _ ?s98 (fun hHeld => ?k98)
             case s98 => ((try dsimp only); (exact hAp.sees rfl rfl))
             clear hK K
             (try simp only [Act.put, List.setIfInBounds_toArray, List.set_cons_zero, List.set_cons_succ, List.getElem_toArray, List.getElem_cons_zero, List.getElem_cons_succ])
             refine wpAnyH_ready (rs := [16]) (by kernel_rfl) (by simp) ?_
             refine AllReadyH.cons rfl (fun K hK => ?_) AllReadyH.nil
             refine step_append_rows EInt (by rfl) _ _ (by rfl) B (.slice qt LT.length ct) (.slice (some ⟨n2, 0, none⟩) 1 1) (LT.map numC) [numC (tw : Int)] (by rfl) hAp.m.t (by rfl) (rows_of_block (cs := #[.int .i64 (tw : Int)]) nb2.blk rfl (by intro u hu; simp at hu; first | (subst hu; rfl) | (rcases hu with rfl | rfl | rfl | rfl <;> rfl))) (by simp; unfold maxLen; omega) (by simp; omega) hAp.base ?_
             intro v2 W2 hf2 hg2 hb2 _
             (try replace nb1 := nb1.addT hg2 hb2); (try replace nb2 := nb2.addT hg2 hb2); (try replace nb3 := nb3.addT hg2 hb2); replace hAp := hAp.addT hg2 hf2 hb2 (fun b hb => bsOf_mem (by simp) hb)
             obtain ⟨q2, l2, c2, rfl⟩ := hAp.m.t.len3
             clear hf2 hg2 hb2
             generalize W2 = W at *
             refine hK.out _ _ ?s99 (fun hHeld => ?k99)
             case s99 => ((try dsimp only); (exact hAp.sees rfl rfl))
             clear hK K
             (try simp only [Act.put, List.setIfInBounds_toArray, List.set_cons_zero, List.set_cons_succ, List.getElem_toArray, List.getElem_cons_zero, List.getElem_cons_succ])
             refine wpAnyH_ready (rs := [23]) (by kernel_rfl) (by simp) ?_
             refine AllReadyH.cons rfl (fun K hK => ?_) AllReadyH.nil
             refine step_append_rows EObjR (by rfl) _ _ (by rfl) B (.slice qo rows.length co) (.slice (some ⟨n3, 0, none⟩) 1 1) (rows) [[.int .i64 o.kind, .int .i64 o.tag, .slice q9 o.fields.length c9, .string o.text]] (by rfl) hAp.m.o (by rfl) (rows_of_block (cs := #[.int .i64 o.kind, .int .i64 o.tag, .slice q9 o.fields.length c9, .string o.text]) nb3.blk rfl (by intro u hu; simp at hu; first | (subst hu; rfl) | (rcases hu with rfl | rfl | rfl | rfl <;> rfl))) (by simp; unfold maxLen; omega) (by simp; omega) hAp.base ?_
             intro v3 W2 hf2 hg2 hb2 _
             (try replace nb1 := nb1.addO hg2 hb2); (try replace nb2 := nb2.addO hg2 hb2); (try replace nb3 := nb3.addO hg2 hb2); replace hAp := hAp.addO hg2 hf2 hb2 (fun b hb => bsOf_mem (by simp) hb) HND.out
             obtain ⟨q3, l3, c3, rfl⟩ := hAp.m.o.len3
             clear hf2 hg2 hb2
             generalize W2 = W at *
             refine hK.out _ _ ?s100 (fun hHeld => ?k100)
             case s100 => ((try dsimp only); (exact hAp.sees rfl rfl))
             clear hK K
             (try simp only [Act.put, List.setIfInBounds_toArray, List.set_cons_zero, List.set_cons_succ, List.getElem_toArray, List.getElem_cons_zero, List.getElem_cons_succ])
             refine wpAnyH_take (i := 24) (v := ?v101) rfl (by kernel_rfl) (by kernel_rfl) (by kernel_rfl) (fun _ _ _ h => h) (Or.inl ⟨by rfl, ?y101⟩) (by assumption) ?r101
             case y101 => intro w hSw; (try dsimp only at hSw); go_simp; (try with_reducible rfl)
             (try simp only [Act.put, List.setIfInBounds_toArray, List.set_cons_zero, List.set_cons_succ, List.getElem_toArray, List.getElem_cons_zero, List.getElem_cons_succ])
             refine wpAnyH_take (i := 25) (v := ?v102) rfl (by kernel_rfl) (by kernel_rfl) (by kernel_rfl) (fun _ _ _ h => h) (Or.inl ⟨by rfl, ?y102⟩) (by assumption) ?r102
             case y102 => intro w hSw; (try dsimp only at hSw); go_simp; (try with_reducible rfl)
             (try simp only [Act.put, List.setIfInBounds_toArray, List.set_cons_zero, List.set_cons_succ, List.getElem_toArray, List.getElem_cons_zero, List.getElem_cons_succ])
             refine wpAnyH_done (by kernel_rfl) ?_ _
             show wpList _ _ _ _ _ _
             obtain ⟨y0, y1, y2, -⟩ := cells9 hAp.k
             have f0 := free_at hAp.k (i := 0)
             have f1 := free_at hAp.k (i := 1)
             have f2 := free_at hAp.k (i := 2)
             clear nb1 nb2 nb3
             go_wp2
             refine NoPanic.normal ?_
             go_wp2
             go_meet
             exact hAp.cut HGE.out HRN.out
           · skip
             go_simp
             have e1 := Ext.alloc W (.cells #[.int .i64 (tw : Int)] 3)
             have nb2 := NbR.new hAp.m (heap_alloc_new W (.cells #[.int .i64 (tw : Int)] 3))
             (try replace nb1 := nb1.ext e1); (try replace nb3 := nb3.ext e1); replace hAp := hAp.ext e1
             clear e1
             generalize W.heap.size = n2 at *
             generalize W.alloc (.cells #[.int .i64 (tw : Int)] 3) = W at *
             refine hK.out _ _ ?s103 (fun hHeld => ?k103)
             case s103 => ((try dsimp only); (exact hAp.sees rfl rfl))
             clear hK K
             (try simp only [Act.put, List.setIfInBounds_toArray, List.set_cons_zero, List.set_cons_succ, List.getElem_toArray, List.getElem_cons_zero, List.getElem_cons_succ])
             refine wpAnyH_ready (rs := [9]) (by kernel_rfl) (by simp) ?_
             refine AllReadyH.cons rfl (fun K hK => ?_) AllReadyH.nil
             refine step_append_rows EInt (by rfl) _ _ (by rfl) B (.slice qf LF.length cf) (.slice (some ⟨n1, 0, none⟩) 1 1) (LF.map numC) [numC (at_ : Int)] (by rfl) hAp.m.f (by rfl) (rows_of_block (cs := #[.int .i64 (at_ : Int)]) nb1.blk rfl (by intro u hu; simp at hu; first | (subst hu; rfl) | (rcases hu with rfl | rfl | rfl | rfl <;> rfl))) (by simp; unfold maxLen; omega) (by simp; omega) hAp.base ?_
             intro v1 W2 hf2 hg2 hb2 _
             (try replace nb1 := nb1.addF hg2 hb2); (try replace nb2 := nb2.addF hg2 hb2); (try replace nb3 := nb3.addF hg2 hb2); replace hAp := hAp.addF hg2 hf2 hb2 (fun b hb => bsOf_mem (by simp) hb)
             obtain ⟨q1, l1, c1, rfl⟩ := hAp.m.f.len3
             clear hf2 hg2 hb2
             generalize W2 = W at *
             refine hK.out _ _ ?s104 (fun hHeld => ?k104)
             case s104 => ((try dsimp only); (exact hAp.sees rfl rfl))
             clear hK K
             (try simp only [Act.put, List.setIfInBounds_toArray, List.set_cons_zero, List.set_cons_succ, List.getElem_toArray, List.getElem_cons_zero, List.getElem_cons_succ])
             refine wpAnyH_ready (rs := [16]) (by kernel_rfl) (by simp) ?_
             refine AllReadyH.cons rfl (fun K hK => ?_) AllReadyH.nil
             refine step_append_rows EInt (by rfl) _ _ (by rfl) B (.slice qt LT.length ct) (.slice (some ⟨n2, 0, none⟩) 1 1) (LT.map numC) [numC (tw : Int)] (by rfl) hAp.m.t (by rfl) (rows_of_block (cs := #[.int .i64 (tw : Int)]) nb2.blk rfl (by intro u hu; simp at hu; first | (subst hu; rfl) | (rcases hu with rfl | rfl | rfl | rfl <;> rfl))) (by simp; unfold maxLen; omega) (by simp; omega) hAp.base ?_
             intro v2 W2 hf2 hg2 hb2 _
             (try replace nb1 := nb1.addT hg2 hb2); (try replace nb2 := nb2.addT hg2 hb2); (try replace nb3 := nb3.addT hg2 hb2); replace hAp := hAp.addT hg2 hf2 hb2 (fun b hb => bsOf_mem (by simp) hb)
             obtain ⟨q2, l2, c2, rfl⟩ := hAp.m.t.len3
             clear hf2 hg2 hb2
             generalize W2 = W at *
             refine hK.out _ _ ?s105 (fun hHeld => ?k105)
             case s105 => ((try dsimp only); (exact hAp.sees rfl rfl))
             clear hK K
             (try simp only [Act.put, List.setIfInBounds_toArray, List.set_cons_zero, List.set_cons_succ, List.getElem_toArray, List.getElem_cons_zero, List.getElem_cons_succ])
             refine wpAnyH_ready (rs := [23]) (by kernel_rfl) (by simp) ?_
             refine AllReadyH.cons rfl (fun K hK => ?_) AllReadyH.nil
             refine step_append_rows EObjR (by rfl) _ _ (by rfl) B (.slice qo rows.length co) (.slice (some ⟨n3, 0, none⟩) 1 1) (rows) [[.int .i64 o.kind, .int .i64 o.tag, .slice q9 o.fields.length c9, .string o.text]] (by rfl) hAp.m.o (by rfl) (rows_of_block (cs := #[.int .i64 o.kind, .int .i64 o.tag, .slice q9 o.fields.length c9, .string o.text]) nb3.blk rfl (by intro u hu; simp at hu; first | (subst hu; rfl) | (rcases hu with rfl | rfl | rfl | rfl <;> rfl))) (by simp; unfold maxLen; omega) (by simp; omega) hAp.base ?_
             intro v3 W2 hf2 hg2 hb2 _
             (try replace nb1 := nb1.addO hg2 hb2); (try replace nb2 := nb2.addO hg2 hb2); (try replace nb3 := nb3.addO hg2 hb2); replace hAp := hAp.addO hg2 hf2 hb2 (fun b hb => bsOf_mem (by simp) hb) HND.out
             obtain ⟨q3, l3, c3, rfl⟩ := hAp.m.o.len3
             clear hf2 hg2 hb2
             generalize W2 = W at *
             refine hK.out _ _ ?s106 (fun hHeld => ?k106)
             case s106 => ((try dsimp only); (exact hAp.sees rfl rfl))
             clear hK K
             (try simp only [Act.put, List.setIfInBounds_toArray, List.set_cons_zero, List.set_cons_succ, List.getElem_toArray, List.getElem_cons_zero, List.getElem_cons_succ])
             refine wpAnyH_take (i := 24) (v := ?v107) rfl (by kernel_rfl) (by kernel_rfl) (by kernel_rfl) (fun _ _ _ h => h) (Or.inl ⟨by rfl, ?y107⟩) (by assumption) ?r107
             case y107 => intro w hSw; (try dsimp only at hSw); go_simp; (try with_reducible rfl)
             (try simp only [Act.put, List.setIfInBounds_toArray, List.set_cons_zero, List.set_cons_succ, List.getElem_toArray, List.getElem_cons_zero, List.getElem_cons_succ])
             refine wpAnyH_take (i := 25) (v := ?v108) rfl (by kernel_rfl) (by kernel_rfl) (by kernel_rfl) (fun _ _ _ h => h) (Or.inl ⟨by rfl, ?y108⟩) (by assumption) ?r108
             case y108 => intro w hSw; (try dsimp only at hSw); go_simp; (try with_reducible rfl)
             (try simp only [Act.put, List.setIfInBounds_toArray, List.set_cons_zero, List.set_cons_succ, List.getElem_toArray, List.getElem_cons_zero, List.getElem_cons_succ])
             refine wpAnyH_done (by kernel_rfl) ?_ _
             show wpList _ _ _ _ _ _
             obtain ⟨y0, y1, y2, -⟩ := cells9 hAp.k
             have f0 := free_at hAp.k (i := 0)
             have f1 := free_at hAp.k (i := 1)
             have f2 := free_at hAp.k (i := 2)
             clear nb1 nb2 nb3
             go_wp2
             refine NoPanic.normal ?_
             go_wp2
             go_meet
             exact hAp.cut HGE.out HRN.out
         · skip
           go_simp
           have e1 := Ext.alloc W (.cells #[.int .i64 (tw : Int)] 3)
           have nb2 := NbR.new hAp.m (heap_alloc_new W (.cells #[.int .i64 (tw : Int)] 3))
           (try replace nb1 := nb1.ext e1); (try replace nb3 := nb3.ext e1); replace hAp := hAp.ext e1
           clear e1
           generalize W.heap.size = n2 at *
           generalize W.alloc (.cells #[.int .i64 (tw : Int)] 3) = W at *
           refine hK.out _ _ ?s109 (fun hHeld => ?k109)
           case s109 => ((try dsimp only); (exact hAp.sees rfl rfl))
           clear hK K
           (try simp only [Act.put, List.setIfInBounds_toArray, List.set_cons_zero, List.set_cons_succ, List.getElem_toArray, List.getElem_cons_zero, List.getElem_cons_succ])
           refine wpAnyH_ready (rs := [8]) (by kernel_rfl) (by simp) ?_
           refine AllReadyH.cons rfl (fun K hK => ?_) AllReadyH.nil
           go_simp
           have e1 := Ext.alloc W (.cells #[.int .i64 (at_ : Int)] 3)
           have nb1 := NbR.new hAp.m (heap_alloc_new W (.cells #[.int .i64 (at_ : Int)] 3))
           (try replace nb2 := nb2.ext e1); (try replace nb3 := nb3.ext e1); replace hAp := hAp.ext e1
           clear e1
           generalize W.heap.size = n1 at *
           generalize W.alloc (.cells #[.int .i64 (at_ : Int)] 3) = W at *
           refine hK.out _ _ ?s110 (fun hHeld => ?k110)
           case s110 => ((try dsimp only); (exact hAp.sees rfl rfl))
           clear hK K
           (try simp only [Act.put, List.setIfInBounds_toArray, List.set_cons_zero, List.set_cons_succ, List.getElem_toArray, List.getElem_cons_zero, List.getElem_cons_succ])
           refine wpAnyH_ready (rs := [9]) (by kernel_rfl) (by simp) ?_
           refine AllReadyH.cons rfl (fun K hK => ?_) AllReadyH.nil
           refine step_append_rows EInt (by rfl) _ _ (by rfl) B (.slice qf LF.length cf) (.slice (some ⟨n1, 0, none⟩) 1 1) (LF.map numC) [numC (at_ : Int)] (by rfl) hAp.m.f (by rfl) (rows_of_block (cs := #[.int .i64 (at_ : Int)]) nb1.blk rfl (by intro u hu; simp at hu; first | (subst hu; rfl) | (rcases hu with rfl | rfl | rfl | rfl <;> rfl))) (by simp; unfold maxLen; omega) (by simp; omega) hAp.base ?_
           intro v1 W2 hf2 hg2 hb2 _
           (try replace nb1 := nb1.addF hg2 hb2); (try replace nb2 := nb2.addF hg2 hb2); (try replace nb3 := nb3.addF hg2 hb2); replace hAp := hAp.addF hg2 hf2 hb2 (fun b hb => bsOf_mem (by simp) hb)
           obtain ⟨q1, l1, c1, rfl⟩ := hAp.m.f.len3
           clear hf2 hg2 hb2
           generalize W2 = W at *
           refine hK.out _ _ ?s111 (fun hHeld => ?k111)
           case s111 => ((try dsimp only); (exact hAp.sees rfl rfl))
           clear hK K
           (try simp only [Act.put, List.setIfInBounds_toArray, List.set_cons_zero, List.set_cons_succ, List.getElem_toArray, List.getElem_cons_zero, List.getElem_cons_succ])
           refine wpAnyH_ready (rs := [16]) (by kernel_rfl) (by simp) ?_
           refine AllReadyH.cons rfl (fun K hK => ?_) AllReadyH.nil
           refine step_append_rows EInt (by rfl) _ _ (by rfl) B (.slice qt LT.length ct) (.slice (some ⟨n2, 0, none⟩) 1 1) (LT.map numC) [numC (tw : Int)] (by rfl) hAp.m.t (by rfl) (rows_of_block (cs := #[.int .i64 (tw : Int)]) nb2.blk rfl (by intro u hu; simp at hu; first | (subst hu; rfl) | (rcases hu with rfl | rfl | rfl | rfl <;> rfl))) (by simp; unfold maxLen; omega) (by simp; omega) hAp.base ?_
           intro v2 W2 hf2 hg2 hb2 _
           (try replace nb1 := nb1.addT hg2 hb2); (try replace nb2 := nb2.addT hg2 hb2); (try replace nb3 := nb3.addT hg2 hb2); replace hAp := hAp.addT hg2 hf2 hb2 (fun b hb => bsOf_mem (by simp) hb)
           obtain ⟨q2, l2, c2, rfl⟩ := hAp.m.t.len3
           clear hf2 hg2 hb2
           generalize W2 = W at *
           refine hK.out _ _ ?s112 (fun hHeld => ?k112)
           case s112 => ((try dsimp only); (exact hAp.sees rfl rfl))
           clear hK K
           (try simp only [Act.put, List.setIfInBounds_toArray, List.set_cons_zero, List.set_cons_succ, List.getElem_toArray, List.getElem_cons_zero, List.getElem_cons_succ])
           refine wpAnyH_ready (rs := [23]) (by kernel_rfl) (by simp) ?_
           refine AllReadyH.cons rfl (fun K hK => ?_) AllReadyH.nil
           refine step_append_rows EObjR (by rfl) _ _ (by rfl) B (.slice qo rows.length co) (.slice (some ⟨n3, 0, none⟩) 1 1) (rows) [[.int .i64 o.kind, .int .i64 o.tag, .slice q9 o.fields.length c9, .string o.text]] (by rfl) hAp.m.o (by rfl) (rows_of_block (cs := #[.int .i64 o.kind, .int .i64 o.tag, .slice q9 o.fields.length c9, .string o.text]) nb3.blk rfl (by intro u hu; simp at hu; first | (subst hu; rfl) | (rcases hu with rfl | rfl | rfl | rfl <;> rfl))) (by simp; unfold maxLen; omega) (by simp; omega) hAp.base ?_
           intro v3 W2 hf2 hg2 hb2 _
           (try replace nb1 := nb1.addO hg2 hb2); (try replace nb2 := nb2.addO hg2 hb2); (try replace nb3 := nb3.addO hg2 hb2); replace hAp := hAp.addO hg2 hf2 hb2 (fun b hb => bsOf_mem (by simp) hb) HND.out
           obtain ⟨q3, l3, c3, rfl⟩ := hAp.m.o.len3
           clear hf2 hg2 hb2
           generalize W2 = W at *
           refine hK.out _ _ ?s113 (fun hHeld => ?k113)
           case s113 => ((try dsimp only); (exact hAp.sees rfl rfl))
           clear hK K
           (try simp only [Act.put, List.setIfInBounds_toArray, List.set_cons_zero, List.set_cons_succ, List.getElem_toArray, List.getElem_cons_zero, List.getElem_cons_succ])
           refine wpAnyH_take (i := 24) (v := ?v114) rfl (by kernel_rfl) (by kernel_rfl) (by kernel_rfl) (fun _ _ _ h => h) (Or.inl ⟨by rfl, ?y114⟩) (by assumption) ?r114
           case y114 => intro w hSw; (try dsimp only at hSw); go_simp; (try with_reducible rfl)
           (try simp only [Act.put, List.setIfInBounds_toArray, List.set_cons_zero, List.set_cons_succ, List.getElem_toArray, List.getElem_cons_zero, List.getElem_cons_succ])
           refine wpAnyH_take (i := 25) (v := ?v115) rfl (by kernel_rfl) (by kernel_rfl) (by kernel_rfl) (fun _ _ _ h => h) (Or.inl ⟨by rfl, ?y115⟩) (by assumption) ?r115
           case y115 => intro w hSw; (try dsimp only at hSw); go_simp; (try with_reducible rfl)
           (try simp only [Act.put, List.setIfInBounds_toArray, List.set_cons_zero, List.set_cons_succ, List.getElem_toArray, List.getElem_cons_zero, List.getElem_cons_succ])
           refine wpAnyH_done (by kernel_rfl) ?_ _
           show wpList _ _ _ _ _ _
           obtain ⟨y0, y1, y2, -⟩ := cells9 hAp.k
           have f0 := free_at hAp.k (i := 0)
           have f1 := free_at hAp.k (i := 1)
           have f2 := free_at hAp.k (i := 2)
           clear nb1 nb2 nb3
           go_wp2
           refine NoPanic.normal ?_
           go_wp2
           go_meet
           exact hAp.cut HGE.out HRN.out
       -->>F
      case rest =>
        obtain ⟨vf', vt', vo', rows', hmr, hob, htn, hne, hrow⟩ := hcut
        have HROW := Lib.hid hrow
        have hmay := (readS_words HO.out).2.2
        have HMR := Lib.hid hmr; have HTN := Lib.hid htn
        have hwl : wordsO o ≤ 401 := by
          have := (mayK_bounds (show mayK o.kind o.tag o.fields.length o.text.size = true from hmay)).2.2.2.2.2.2.2
          unfold wordsO
          omega
        obtain ⟨y0, y1, y2, y3, -⟩ := cells9 hmr.blk
        obtain ⟨z0, z1, z2, z3⟩ := cells4 hob
        have f3 := free_at hmr.blk (i := 3)
        have HB := Lib.hid hmr.blk
        have HW := Lib.hid (fun W' => rwords_yes o.kind o.tag o.fields.length c9 q9 o.text W' hmay)
        rw [show 1 + bodyK o.kind o.fields.length o.text.size = wordsO o from rfl] at HW
        obtain ⟨wo, hwo⟩ : ∃ wo, wo = wordsO o := ⟨_, rfl⟩
        have HWO := Lib.hid hwo
        rw [← hwo] at hwl HW
        have w4 : IntKind.i64.wrap ((top : Int) + (wo : Int)) = ((top + wo : Nat) : Int) := by rw [IntWalk.i64_in _ (by omega)]; omega
        clear hmr hob htn hwo hrow
        go_upto_region 12 with fail
        have HK0 := Lib.hid (show wc.cell? ⟨mb, 3, none⟩ = some (.int .i64 (top : Int)) ∧ wc.cell? ⟨ob, 0, none⟩ = some (.int .i64 o.kind) ∧ wc.cell? ⟨ob, 1, none⟩ = some (.int .i64 o.tag) ∧ wc.cell? ⟨ob, 2, none⟩ = some (.slice q9 o.fields.length c9) ∧ wc.cell? ⟨ob, 3, none⟩ = some (.string o.text) from ⟨y3, z0, z1, z2, z3⟩)
        clear y0 y1 y2 y3 z0 z1 z2 z3 f3
        refine wp_region_noPanic ?_
        refine wp_region_last 9 (S := (fun w' => w'.cell? ⟨mb, 3, none⟩ = some (.int .i64 (top : Int)) ∧ w'.cell? ⟨ob, 0, none⟩ = some (.int .i64 o.kind) ∧ w'.cell? ⟨ob, 1, none⟩ = some (.int .i64 o.tag) ∧ w'.cell? ⟨ob, 2, none⟩ = some (.slice q9 o.fields.length c9) ∧ w'.cell? ⟨ob, 3, none⟩ = some (.string o.text))) (by kernel_rfl) (by kernel_rfl) _ rfl ?_ (fun hHeld => ?_)
        · (first | with_reducible exact (Ext.drew _).cells5k HK0.out | with_reducible exact hkp9)
        simp only [List.take_succ_cons, List.take_zero]
        refine wpAnyH_take (i := 0) (v := ?v116) rfl (by kernel_rfl) (by kernel_rfl) (by kernel_rfl) (fun _ _ _ h => h) (Or.inl ⟨by rfl, ?y116⟩) (by assumption) ?r116
        case y116 => intro w hSw; (try dsimp only at hSw); go_simp; (try with_reducible rfl)
        (try simp only [Act.put, List.setIfInBounds_toArray, List.set_cons_zero, List.set_cons_succ, List.getElem_toArray, List.getElem_cons_zero, List.getElem_cons_succ])
        refine wpAnyH_take (i := 1) (v := ?v117) rfl (by kernel_rfl) (by kernel_rfl) (by kernel_rfl) (fun _ _ _ h => h) (Or.inl ⟨by rfl, ?y117⟩) (by assumption) ?r117
        case y117 => intro w hSw; (try dsimp only at hSw); go_simp; (try with_reducible rfl)
        (try simp only [Act.put, List.setIfInBounds_toArray, List.set_cons_zero, List.set_cons_succ, List.getElem_toArray, List.getElem_cons_zero, List.getElem_cons_succ])
        refine wpAnyH_take (i := 2) (v := ?v118) rfl (by kernel_rfl) (by kernel_rfl) (by kernel_rfl) (fun _ _ _ h => h) (Or.inl ⟨by rfl, ?y118⟩) (by assumption) ?r118
        case y118 => intro w hSw; (try dsimp only at hSw); go_simp; (try with_reducible rfl)
        (try simp only [Act.put, List.setIfInBounds_toArray, List.set_cons_zero, List.set_cons_succ, List.getElem_toArray, List.getElem_cons_zero, List.getElem_cons_succ])
        refine wpAnyH_take (i := 3) (v := ?v119) rfl (by kernel_rfl) (by kernel_rfl) (by kernel_rfl) (fun _ _ _ h => h) (Or.inl ⟨by rfl, ?y119⟩) (by assumption) ?r119
        case y119 => intro w hSw; (try dsimp only at hSw); go_simp; (try with_reducible rfl)
        (try simp only [Act.put, List.setIfInBounds_toArray, List.set_cons_zero, List.set_cons_succ, List.getElem_toArray, List.getElem_cons_zero, List.getElem_cons_succ])
        refine wpAnyH_take (i := 4) (v := ?v120) rfl (by kernel_rfl) (by kernel_rfl) (by kernel_rfl) (fun _ _ _ h => h) (Or.inl ⟨by rfl, ?y120⟩) (by assumption) ?r120
        case y120 => intro w hSw; (try dsimp only at hSw); go_simp; (try with_reducible rfl)
        (try simp only [Act.put, List.setIfInBounds_toArray, List.set_cons_zero, List.set_cons_succ, List.getElem_toArray, List.getElem_cons_zero, List.getElem_cons_succ])
        refine wpAnyH_ready (rs := [5]) (by kernel_rfl) (by simp) ?_
        refine AllReadyH.cons rfl (fun K hK => ?_) AllReadyH.nil
        go_simp
        refine (HW.out _).mono ?_
        rintro e w9 ⟨rfl, hx9⟩
        have hx9' := (Ext.drew wc).trans hx9
        have hkp9 := hx9'.cells5k HK0.out
        refine hK.out _ _ ?s121 (fun hHeld => ?k121)
        case s121 => ((try dsimp only); (first | with_reducible exact (Ext.drew _).cells5k HK0.out | with_reducible exact hkp9))
        clear hK K
        (try simp only [Act.put, List.setIfInBounds_toArray, List.set_cons_zero, List.set_cons_succ, List.getElem_toArray, List.getElem_cons_zero, List.getElem_cons_succ])
        refine wpAnyH_take (i := 6) (v := ?v122) rfl (by kernel_rfl) (by kernel_rfl) (by kernel_rfl) (fun _ _ _ h => h) (Or.inl ⟨by rfl, ?y122⟩) (by assumption) ?r122
        case y122 => intro w hSw; (try dsimp only at hSw); go_simp; (try with_reducible rfl)
        (try simp only [Act.put, List.setIfInBounds_toArray, List.set_cons_zero, List.set_cons_succ, List.getElem_toArray, List.getElem_cons_zero, List.getElem_cons_succ])
        refine wpAnyH_take (i := 7) (v := ?v123) rfl (by kernel_rfl) (by kernel_rfl) (by kernel_rfl) (fun _ _ _ h => h) (Or.inl ⟨by rfl, ?y123⟩) (by assumption) ?r123
        case y123 => intro w hSw; (try dsimp only at hSw); go_simp; (try with_reducible rfl)
        (try simp only [Act.put, List.setIfInBounds_toArray, List.set_cons_zero, List.set_cons_succ, List.getElem_toArray, List.getElem_cons_zero, List.getElem_cons_succ])
        refine wpAnyH_take (i := 8) (v := ?v124) rfl (by kernel_rfl) (by kernel_rfl) (by kernel_rfl) (fun _ _ _ h => h) (Or.inl ⟨by rfl, ?y124⟩) (by assumption) ?r124
        case y124 => intro w hSw; (try dsimp only at hSw); go_simp; (try with_reducible rfl)
        (try simp only [Act.put, List.setIfInBounds_toArray, List.set_cons_zero, List.set_cons_succ, List.getElem_toArray, List.getElem_cons_zero, List.getElem_cons_succ])
        refine wpAnyH_done (by kernel_rfl) ?_ _
        show wpList _ _ _ _ _ _
        have hb9 := (Below.block hx9' _ (Array.getElem?_eq_some_iff.1 HB.out).1).trans HB.out
        have HM9 := Lib.hid (HMR.out.ext hx9')
        have HT9 := Lib.hid (HTN.out.trans (Turn.of_ext hx9'))
        have f3 := free_at hb9 (i := 3)
        obtain ⟨-, -, -, y3, -⟩ := cells9 hb9
        have hm9 := HM9.out.blk
        have HM9B := Lib.hid hm9
        clear hx9 hx9' hkp9 hHeld HK0 hb9 hm9
        go_wp2
        refine NoPanic.normal ?_
        go_upto_region 13 with fail
        refine wp_fill1 HM9B.out fun W10 h10 hT10 hS10 => ?_
        have HM10 := Lib.hid h10; have HT10 := Lib.hid hT10
        clear h10 hT10 hS10 f3 y3
        go_wp2_with fail
        refine (HP.out _).mono ?_
        rintro e w11 ⟨rfl, rfl⟩
        go_wp2
        go_ret
        refine ⟨rfl, ⟨vf', vt', vo', rows', ⟨HM9.out.m.turn HT10.out (fun b hb => ?_), ?_, HGE.out⟩, HROW.out⟩, HT9.out.trans (HT10.out.mono (by simp))⟩
        · rw [List.mem_singleton.1 hb]
          exact ⟨_, _, HM9B.out, by decide, by decide, by decide⟩
        · rw [← HWO.out]
          exact HM10.out
end Go.Proofs.YtinakendlpomnaaGreat
/- The reference's mover: move, of all words; plan. -/
namespace Go.Proofs.YtinakendlpomnaaGreat
open Go Go.RowKit Go.Deep Go.Maps Arena
set_option maxHeartbeats 8000000
set_option maxRecDepth 100000
def LFo (o0 : Nat) (F : List (Nat × Ob)) : List Int := F.map fun y => ((o0 + y.1 : Nat) : Int)
def LTo (o1 : Nat) (F : List (Nat × Ob)) : List Int := F.map fun y => ((o1 + offF F y.1 : Nat) : Int)
theorem LTo_app {F : List (Nat × Ob)} {o1 : Nat} {y : Nat × Ob} (hy : inF F y.1 = false) : LTo o1 (F ++ [y]) = LTo o1 F ++ [((o1 + sizeF F : Nat) : Int)] := by
  unfold LTo
  rw [List.map_append]
  congr 1
  · refine List.map_congr_left fun z hz => ?_
    rw [offF_app (inF_true.2 ⟨z, hz, rfl⟩)]
  · rw [List.map_cons, List.map_nil, offF_new hy]
/-- what the mover's words are: the words of a heap that may be, up to its top -/
structure RV (o0 o1 H : Nat) (Hs Fin : List (Nat × Ob)) (V : List Int) : Prop where
  hs : HsOK H Hs
  fin : FinF Hs Fin
  at_ : ∀ y ∈ Hs, readS (V.drop (o0 + y.1)) = some y.2
  v64 : ∀ x ∈ V, W64 x
  len : V.length ≤ 100000
  small : o0 ≤ 2000 ∧ o1 ≤ 2000 ∧ H ≤ 2000
theorem rmove_is {W : World} {B mb o0 o1 H : Nat} {vf vt vo vw : Value} {Hs Fin F : List (Nat × Ob)} {Lo : List Ob} {V : List Int} {rows : List (List Value)} {h : Hp} (rv : RV o0 o1 H Hs Fin V) (k : Mr W B mb vf vt vo vw (LFo o0 F) (LTo o1 F) Lo V rows (sizeF F) h) (hlo : Lo.length = F.length) {x : Int} (hx : W64 x) (hok : fieldOK (Hs.map (·.1)) o0 x = true) (hp : addF o0 Hs F x <+: Fin)
    (ho1 : (1 - h.space) * h.half = (o1 : Int)) (hsp0 : 0 ≤ h.space) (hsp1 : h.space ≤ 1) (hhf0 : 0 ≤ h.half) (hhf : h.half ≤ 2000) (hBW : B ≤ W.heap.size) :
    Calls Tryz.prog 54 #[.pointer (some ⟨mb, 0, none⟩), .int .u64 x] W fun e w' => e = .returned (.int .u64 (newW o0 o1 Fin x)) ∧
      (∃ vf' vt' vo' rows' L', Mr w' B mb vf' vt' vo' vw (LFo o0 (addF o0 Hs F x)) (LTo o1 (addF o0 Hs F x)) L' V rows' (sizeF (addF o0 Hs F x)) h ∧ ((addF o0 Hs F x = F ∧ L' = Lo) ∨ ∃ y, addF o0 Hs F x = F ++ [y] ∧ L' = Lo ++ [y.2]) ∧ (rows' = rows ∨ ∃ rn, rows' = rows ++ [rn] ∧ ∀ b, fldB3 rn = some b → W.heap.size ≤ b)) ∧ Turn (mb :: bsOf [vf, vt, vo]) W w' := by
  have hpF : F <+: Fin := (addF_pre o0 Hs F x).trans hp
  have finF : FinF Hs F := rv.fin.pre hpF
  have hFl : F.length ≤ 2000 := by
    have h1 := finF.size.2
    have h2 : ∀ L : List (Nat × Ob), L.length ≤ sizeF L := by
      intro L
      induction L with
      | nil => exact Nat.le_refl _
      | cons y L ih => simp only [List.length_cons, sizeF]; have := wordsO_pos y.2; omega
    have h3 := h2 Hs
    have h4 := rv.hs.size
    have := rv.small
    omega
  have hsF : sizeF F ≤ 2000 := by have := finF.size.1; have := rv.hs.size; have := rv.small; omega
  have hsm := rv.small
  rcases ok_cases hok hx with hi | ⟨y, hy⟩
  · rw [newW_int hi, addF_int hi]
    refine (rmove_int hx hi W).mono ?_
    rintro e w' ⟨rfl, rfl⟩
    exact ⟨rfl, ⟨vf, vt, vo, rows, Lo, k, .inl ⟨rfl, rfl⟩, .inl rfl⟩, Turn.refl _ _⟩
  · obtain ⟨hyH, hyx, hi, hlt⟩ := getL_some hy
    rw [newW_of hy]
    cases hb : inF F y.1 with
    | true =>
      have hyF := seen_get rv.hs (fun z hz => finF.sub z hz) hyH hb
      rw [addF_seen hy hb]
      obtain ⟨i, hil, hie⟩ := List.getElem_of_mem hyF
      have hof : offF Fin y.1 = offF F y.1 := by
        obtain ⟨G, rfl⟩ := hpF
        exact offF_app hb G
      have hol := offF_lt hyF
      rw [hof]
      have hFi : F[i]? = some y := by rw [List.getElem?_eq_getElem hil, hie]
      refine (rmove_seen k hx hi (at_ := o0 + y.1) (i := i) (tw := o1 + offF F y.1) hyx.symm (by omega) (by unfold LFo; rw [List.length_map]; omega) (by unfold LFo LTo; rw [List.length_map, List.length_map]) (by unfold LFo; rw [List.getElem?_map, hFi]; rfl) ?_ (by unfold LTo; rw [List.getElem?_map, hFi]; rfl) (by omega)).mono ?_
      · intro j z hji hz e
        unfold LFo at hz
        rw [List.getElem?_map] at hz
        obtain ⟨u, hu, hue⟩ := Option.map_eq_some_iff.1 hz
        have hjl : j < F.length := (List.getElem?_eq_some_iff.1 hu).1
        have h1 := List.pairwise_iff_getElem.1 finF.nd j i hjl hil hji
        rw [List.getElem?_eq_getElem hjl] at hu
        rw [Option.some.inj hu, hie] at h1
        omega
      · rintro e w' ⟨rfl, rfl⟩
        exact ⟨rfl, ⟨vf, vt, vo, rows, Lo, k, .inl ⟨rfl, rfl⟩, .inl rfl⟩, Turn.refl _ _⟩
    | false =>
      rw [addF_new hy hb] at hp ⊢
      have hof : offF Fin y.1 = sizeF F := by
        obtain ⟨G, rfl⟩ := hp
        rw [List.append_assoc, List.singleton_append]
        exact offF_new hb G
      rw [hof]
      refine (rmove_new k hx hi (at_ := o0 + y.1) (tw := o1 + sizeF F) hyx.symm (by omega) (by unfold LFo; rw [List.length_map]; omega) (by unfold LTo; rw [List.length_map]; omega) (by rw [k.m.len]; omega) ?_ (rv.at_ y hyH) rv.v64 rv.len (by rw [ho1]; omega) hsp0 hsp1 hhf0 hhf (by omega) hBW).mono ?_
      · intro j z hz e
        unfold LFo at hz
        obtain ⟨u, hu, hue⟩ := List.mem_map.1 (List.mem_of_getElem? hz)
        have : inF F y.1 = true := inF_true.2 ⟨u, hu, by omega⟩
        rw [hb] at this
        cases this
      · rintro e w' ⟨rfl, ⟨vf', vt', vo', rows', hk, hrn⟩, ht⟩
        refine ⟨rfl, ⟨vf', vt', vo', rows', _, ?_, .inr ⟨y, rfl, rfl⟩, .inr hrn⟩, ht⟩
        rw [LTo_app hb, sizeF_app]
        unfold LFo at hk ⊢
        rw [List.map_append]
        exact hk
end Go.Proofs.YtinakendlpomnaaGreat
/- The reference's plan. -/
namespace Go.Proofs.YtinakendlpomnaaGreat
open Go Go.RowKit Go.Deep Go.Maps Arena
set_option maxHeartbeats 8000000
set_option maxRecDepth 100000
def OutAp (out vw : Value) (rows : List (List Value)) : Prop := (∀ (i : Nat) (r : List Value), rows[i]? = some r → ∀ b, fldB3 r = some b → out.ownBlock ≠ some b) ∧ ∀ b, vw.ownBlock = some b → out.ownBlock ≠ some b
theorem OutAp.nil (vw : Value) : OutAp (.slice none 0 0) vw [] := ⟨fun i r h => by simp at h, fun b _ e => by simp [Value.ownBlock] at e⟩
theorem OutAp.add {W : World} {B : Nat} {out vw : Value} {l : List (List Value)} {rows rows' : List (List Value)} (h : OutAp out vw rows) (ho : OwnP W B 51 out 1 l) (hr : rows' = rows ∨ ∃ rn, rows' = rows ++ [rn] ∧ ∀ b, fldB3 rn = some b → W.heap.size ≤ b) : OutAp out vw rows' := by
  refine ⟨?_, h.2⟩
  rcases hr with rfl | ⟨rn, rfl, hn⟩
  · exact h.1
  · intro i r hi b hb e
    by_cases hl : i < rows.length
    · rw [List.getElem?_append_left hl] at hi; exact h.1 i r hi b hb e
    · have hi2 : i = rows.length := by
        have := (List.getElem?_eq_some_iff.1 hi).1
        simp at this
        omega
      subst hi2
      rw [List.getElem?_append_right (Nat.le_refl _), Nat.sub_self] at hi
      simp at hi
      subst hi
      have := hn b hb
      have := (ho.own b e).2
      omega
theorem OutAp.grow {W : World} {B : Nat} {vf vt vo vw : Value} {LF LT : List Int} {Lo : List Ob} {V : List Int} {rows : List (List Value)} {out out' : Value} (h : OutAp out vw rows) (m : MvR W B vf vt vo vw LF LT Lo V rows) (hb : out'.ownBlock = out.ownBlock ∨ out'.ownBlock = some W.heap.size) : OutAp out' vw rows := by
  refine ⟨fun i r hi b hr e => ?_, fun b hr e => ?_⟩
  · rcases hb with hb | hb
    · rw [hb] at e; exact h.1 i r hi b hr e
    · rw [hb] at e
      obtain ⟨o', ho'⟩ : ∃ o', Lo[i]? = some o' := ⟨_, List.getElem?_eq_getElem (by rw [← m.len]; exact (List.getElem?_eq_some_iff.1 hi).1)⟩
      have := ((m.row i o' r ho' hi).lt hr).2
      have := Option.some.inj e
      omega
  · rcases hb with hb | hb
    · rw [hb] at e; exact h.2 b hr e
    · rw [hb] at e
      have := (m.w.own b hr).2
      have := Option.some.inj e
      omega
theorem Mr.grownOut {W W' : World} {B B' mb : Nat} {vf vt vo vw : Value} {LF LT : List Int} {Lo : List Ob} {V : List Int} {rows : List (List Value)} {top : Nat} {h : Hp} {out : Value} {l : List (List Value)} (k : Mr W B mb vf vt vo vw LF LT Lo V rows top h) (ho : OwnP W B' 51 out 1 l) (hap : OutAp out vw rows) (hg : W.grownBy W' out.ownBlock) : Mr W' B mb vf vt vo vw LF LT Lo V rows top h := by
  refine ⟨⟨k.m.f.grown hg fun b hb e => ho.apart k.m.f (by decide) hb e, k.m.t.grown hg fun b hb e => ho.apart k.m.t (by decide) hb e, k.m.o.grown hg fun b hb e => ho.apart k.m.o (by decide) hb e, k.m.w.grown hg fun b hb e => hap.2 b hb e, k.m.ft, k.m.len, fun i o r ho' hr => ?_, k.m.dis⟩, (hg.block mb (Array.getElem?_eq_some_iff.1 k.blk).1 (fun e => ho.not_at k.blk (by decide) e.symm)).trans k.blk, k.ge⟩
  obtain ⟨q, c, h1, h2, h3⟩ := k.m.row i o r ho' hr
  refine ⟨q, c, h1, h2.grown hg fun b hb e => hap.1 i r hr b ?_ e, h3⟩
  rw [h1]
  exact hb
/-- a row of words that is neither the mover's nor a field, behind a move -/
theorem OwnP.moved {W W' : World} {B mb : Nat} {vf vt vo vw : Value} {LF LT : List Int} {Lo : List Ob} {V : List Int} {rows : List (List Value)} {top : Nat} {h : Hp} {out : Value} {l : List (List Value)} {B' : Nat} (ho : OwnP W B' 51 out 1 l) (k : Mr W B mb vf vt vo vw LF LT Lo V rows top h) (t : Turn (mb :: bsOf [vf, vt, vo]) W W') : OwnP W' B' 51 out 1 l := by
  refine ho.turn t fun b hb hm => ?_
  rcases List.mem_cons.1 hm with rfl | hm
  · exact ho.not_at k.blk (by decide) hb
  · obtain ⟨u, hu, hub⟩ := List.mem_filterMap.1 hm
    simp only [List.mem_cons, List.not_mem_nil, or_false] at hu
    rcases hu with rfl | rfl | rfl
    · exact ho.apart k.m.f (by decide) hub hb
    · exact ho.apart k.m.t (by decide) hub hb
    · exact ho.apart k.m.o (by decide) hub hb
theorem moved_ext {w W W' : World} {mb : Nat} {vf vt vo vw : Value} {LF LT : List Int} {Lo : List Ob} {V : List Int} {rows : List (List Value)} {top : Nat} {h : Hp} (e : Ext w W) (k : Mr W w.heap.size mb vf vt vo vw LF LT Lo V rows top h) (t : Turn (mb :: bsOf [vf, vt, vo]) W W') : Ext w W' := by
  refine Turn.after e t fun b hm => ?_
  rcases List.mem_cons.1 hm with rfl | hm
  · exact k.ge
  · obtain ⟨u, hu, hub⟩ := List.mem_filterMap.1 hm
    simp only [List.mem_cons, List.not_mem_nil, or_false] at hu
    rcases hu with rfl | rfl | rfl
    · exact (k.m.f.own b hub).1
    · exact (k.m.t.own b hub).1
    · exact (k.m.o.own b hub).1
/-- the words of a heap that may be, as a mover has them -/
def rvV (ws : List Int) (R : List (Nat × Nat)) (h : Hp) : List Int := (wordsAt ws R h.base).take (firstN h + h.top.toNat)
theorem rv_of {n : Nat} {ws : List Int} {R : List (Nat × Nat)} {h : Hp} {Hs : List (Nat × Ob)} {roots : List Int} (hg : Arena.Good n R) (hl : ws.length = n) (hn : n ≤ 20000) (hW : ∀ x ∈ ws, W64 x) (ha : allH ws R h = some Hs) {ba H sp : Nat} (N : HpN h ba H sp n R) : RV (firstN h) (otherN h) H Hs (liveF (firstN h) Hs roots) (rvV ws R h) := by
  have g := gc_of hg hl hW ha N roots
  obtain ⟨ht, hS⟩ := allH_there ha
  obtain ⟨hobj, _⟩ := allS_some hS
  refine ⟨g.hs, g.fin, fun y hy => ?_, fun x hx => ?_, ?_, N.small.2.2.1, N.small.2.2.2, N.hi⟩
  · have hrd := objs_reads hobj y hy
    have : (rvV ws R h).drop (firstN h + y.1) = (semi ws R h).drop y.1 := by
      unfold rvV semi
      rw [← List.drop_drop, List.drop_take, Nat.add_sub_cancel_left]
    rw [this]
    exact hrd
  · unfold rvV wordsAt at hx
    exact hW x (List.mem_of_mem_drop (List.mem_of_mem_take (List.mem_of_mem_take hx)))
  · unfold rvV
    rw [List.length_take]
    have := wordsAt_len hg hl h.base
    unfold wordsAt at this ⊢
    rw [List.length_take, List.length_drop]
    omega
theorem hou_moved {W W' : World} {B B' mb : Nat} {vf vt vo vw out : Value} {LF LT : List Int} {Lo : List Ob} {V : List Int} {rows l : List (List Value)} {top : Nat} {h : Hp} (k : Mr W B mb vf vt vo vw LF LT Lo V rows top h) (ho : OwnP W B' 51 out 1 l) (t : Turn (mb :: bsOf [vf, vt, vo]) W W') : OwnP W' B' 51 out 1 l := ho.moved k t
theorem moved_ext' {w W W' : World} {B mb : Nat} {vf vt vo vw : Value} {LF LT : List Int} {Lo : List Ob} {V : List Int} {rows : List (List Value)} {top : Nat} {h : Hp} (hB : B = w.heap.size) (e : Ext w W) (k : Mr W B mb vf vt vo vw LF LT Lo V rows top h) (t : Turn (mb :: bsOf [vf, vt, vo]) W W') : Ext w W' := by
  subst hB
  exact moved_ext e k t
theorem mr_start {W : World} {B mb : Nat} {vw : Value} {V : List Int} {h : Hp} (hw : OwnP W B 51 vw 1 (V.map wordC)) (hb : W.heap[mb]? = some (.cells #[.slice none 0 0, .slice none 0 0, .slice none 0 0, .int .i64 ((0 : Nat) : Int), vw, .int .i64 h.base, .int .i64 h.half, .int .i64 h.space, .int .i64 h.top] 76 (0, 0))) (hge : B ≤ mb) : Mr W B mb (.slice none 0 0) (.slice none 0 0) (.slice none 0 0) vw [] [] [] V [] 0 h :=
  ⟨⟨OwnP.nil _ _ _ _, OwnP.nil _ _ _ _, OwnP.nil _ _ _ _, hw, fun b e => by simp [Value.ownBlock] at e, rfl, fun i o r h => by simp at h, fun i j r r' h => by simp at h⟩, hb, hge⟩
/-- what plan says -/
def PlanSaid (w : World) (h : Hp) (o0 o1 : Nat) (F : List (Nat × Ob)) (V roots : List Int) (e : Ending) (w' : World) : Prop :=
  ∃ mb vf vt vo vw rows qo co, e = .returned (.tuple #[.pointer (some ⟨mb, 0, none⟩), .slice qo roots.length co]) ∧ Mr w' w.heap.size mb vf vt vo vw (LFo o0 F) (LTo o1 F) (F.map fun y => mapO (newW o0 o1 F) y.2) V rows (sizeF F) h ∧
    OwnP w' w.heap.size 51 (.slice qo roots.length co) 1 ((roots.map (newW o0 o1 F)).map wordC) ∧ Ext w w'
theorem plan_is {w : World} {q gq B0 n : Nat} {ws : List Int} {vR : Value} {R : List (Nat × Nat)} (H : RefAt w q gq B0 n ws vR R) (h : Hp) (hW : ∀ x ∈ ws, W64 x) {qr : Option Addr} {c : Nat} {roots : List Int} (hr : RowsP w (.slice qr roots.length c) 1 (roots.map wordC)) (hr64 : ∀ x ∈ roots, W64 x) (hrl : roots.length ≤ 1000) {Hs : List (Nat × Ob)} (hmay : mayH ws R h roots = some Hs) :
    Calls Tryz.prog 31 #[.pointer (some ⟨q, 0, none⟩), .agg #[.int .i64 h.base, .int .i64 h.half, .int .i64 h.space, .int .i64 h.top], .slice qr roots.length c] w (PlanSaid w h (firstN h) (otherN h) (liveF (firstN h) Hs roots) (rvV ws R h) roots) := by
  obtain ⟨ha, hok⟩ := mayH_some hmay
  obtain ⟨ht, hS⟩ := allH_there ha
  obtain ⟨ba, Hn, sp, N⟩ := hpN_of H.good ht
  have hokp := (thereB_ok ht).1
  have hla := (thereB_ok ht).2
  have hfi := firstN_is hokp
  obtain ⟨hf1, hf2, hf3⟩ := hfi
  obtain ⟨a1, a2, a3, a4, a5, a6⟩ := hokp
  obtain ⟨i, hir, hri, hlr⟩ := lenAt_some' H.good (x := h.base) (by omega)
  have hbr := H.good.2 R[i] (List.getElem_mem hir)
  have hnl := H.least
  have hWW : ∀ W, Ext w W → Calls Tryz.prog 32 #[.pointer (some ⟨q, 0, none⟩), .int .i64 h.base] W fun e w' => e = .returned (.slice (some ⟨gq, R[i].1, none⟩) R[i].2 (n - R[i].1)) ∧ W = w' := fun W e => by
    rw [← hri]
    exact refwords_yes (H.ext e) (List.getElem_mem hir)
  obtain ⟨tp, htp⟩ := Int.eq_ofNat_of_zero_le a5
  have htn : h.top.toNat = tp := by omega
  have hwl := wordsAt_len H.good H.len h.base
  have hpl : (rvV ws R h).length = firstN h + tp := by unfold rvV; rw [List.length_take, hwl, htn]; omega
  have rv := rv_of (roots := roots) H.good H.len hnl hW ha N
  have hcl : ∀ x ∈ roots, W64 x ∧ fieldOK (Hs.map (·.1)) (firstN h) x = true := fun x hx => ⟨hr64 x hx, hok x hx⟩
  have hf64 := allH_f64 hW ha
  have hrest := rest0_start (firstN h) Hs roots
  have hVR : ∀ W, Ext w W → RowsP W (.slice (some ⟨gq, R[i].1, none⟩) (firstN h + tp) (n - R[i].1)) 1 ((rvV ws R h).map wordC) := fun W e => by
    have hrow := words_rows (H.ext e) hir (m := firstN h + tp) (by omega)
    rw [hri] at hrow
    unfold rvV
    rw [htn]
    exact hrow
  have hslc : ∀ W, (Instr.slice 22 (.slice (some ⟨gq, R[i].1, none⟩) R[i].2 (n - R[i].1)) none (some (.int .i64 ((firstN h : Int) + (tp : Int)))) none).run Tryz.prog W = .ok (.slice (some ⟨gq, R[i].1, none⟩) (firstN h + tp) (n - R[i].1)) W := fun W => by
    have := run_take E64 W (some ⟨gq, R[i].1, none⟩) R[i].2 (n - R[i].1) (firstN h + tp) (by omega) (by unfold maxLen; omega)
    exact_mod_cast this
  have hm : IntKind.i64.wrap (h.space * h.half) = (firstN h : Int) := by rw [IntWalk.i64_in _ (by omega)]; omega
  have hm2 : IntKind.i64.wrap ((firstN h : Int) + h.top) = (firstN h : Int) + (tp : Int) := by rw [IntWalk.i64_in _ (by omega)]; omega
  have ho1 : (1 - h.space) * h.half = (otherN h : Int) := by
    have hs : h.space = 0 ∨ h.space = 1 := by omega
    unfold otherN
    rcases hs with e | e <;> rw [e] <;> simp <;> omega
  have hVl : (rvV ws R h).length ≤ 100000 := rv.len
  have hhf : 0 ≤ h.half ∧ h.half ≤ 2000 := by omega
  have HWW := Lib.hid hWW; have HVR := Lib.hid hVR; have HSL := Lib.hid hslc; have HM := Lib.hid hm; have HM2 := Lib.hid hm2; have RV := Lib.hid rv; have HCL := Lib.hid hcl; have HF64 := Lib.hid hf64; have HREST := Lib.hid hrest; have HR := Lib.hid hr; have HO1 := Lib.hid ho1; have HPL := Lib.hid hpl
  clear hW ha ht hS hla hf1 hf3 hri hlr hWW hVR htp htn hwl hpl hslc hm hm2 hnl hr64 hok hmay rv hcl hf64 hrest ho1 hr
  generalize rvV ws R h = V at *
  generalize R[i].1 = rb at *
  generalize R[i].2 = rl at *
  generalize hFin : liveF (firstN h) Hs roots = Fin at *
  clear hFin
  generalize firstN h = o0 at *
  generalize otherN h = o1 at *
  clear H N hbr
  obtain ⟨f, hf⟩ : ∃ f, f = newW o0 o1 Fin := ⟨_, rfl⟩
  have HF := Lib.hid hf
  clear hf
  obtain ⟨B, hB⟩ : ∃ B, B = w.heap.size := ⟨_, rfl⟩
  have HB := Lib.hid hB
  clear hB
  go_enter Tryz.func31, Tryz.ntmps31
  go_upto_region 1 with fail
  refine wp_alloc1 fun W0 hE0 hS0 b0 => ?_
  have HE0 := Lib.hid hE0; have B4 := Lib.hid b0
  clear hE0 hS0 b0
  rw [← HB.out] at B4 ⊢
  obtain ⟨b4, hb4⟩ : ∃ b4, b4 = B := ⟨_, rfl⟩
  have HB4 := Lib.hid hb4
  rw [← hb4] at B4 ⊢
  clear hb4
  go_cut [8] from 14 to 31 (fun m8 wx => ∃ mb vw, m8 = .pointer (some ⟨mb, 0, none⟩) ∧ Mr wx B mb (.slice none 0 0) (.slice none 0 0) (.slice none 0 0) vw [] [] [] V [] 0 h ∧ Ext w wx)
  case first =>
    have hm := HM.out; have hm2 := HM2.out; have hslc := HSL.out
    refine wp_region_noPanic ?_
    refine wp_region_last 18 (S := (fun w' => w'.cell? ⟨b4, 0, none⟩ = some (.int .i64 h.base) ∧ w'.cell? ⟨b4, 1, none⟩ = some (.int .i64 h.half) ∧ w'.cell? ⟨b4, 2, none⟩ = some (.int .i64 h.space) ∧ w'.cell? ⟨b4, 3, none⟩ = some (.int .i64 h.top))) (by kernel_rfl) (by kernel_rfl) _ rfl ?_ (fun hHeld => ?_)
    · skip
      have hXW := HE0.out.trans (Ext.drew W0)
      have hb4 := (Below.block (Ext.drew W0) _ (Array.getElem?_eq_some_iff.1 B4.out).1).trans B4.out
      generalize W0.drew = W at *
      (first | exact cells4 hb4)
    have hXW := HE0.out.trans (Ext.drew W0)
    have hb4 := (Below.block (Ext.drew W0) _ (Array.getElem?_eq_some_iff.1 B4.out).1).trans B4.out
    generalize W0.drew = W at *
    simp only [List.take_succ_cons, List.take_zero]
    refine wpAnyH_take (i := 1) (v := ?v1) rfl (by kernel_rfl) (by kernel_rfl) (by kernel_rfl) (fun _ _ _ h => h) (Or.inl ⟨by rfl, ?y1⟩) (by assumption) ?r1
    case y1 => intro w hSw; (try dsimp only at hSw); go_simp; (try with_reducible rfl)
    (try simp only [Act.put, List.setIfInBounds_toArray, List.set_cons_zero, List.set_cons_succ, List.getElem_toArray, List.getElem_cons_zero, List.getElem_cons_succ])
    refine wpAnyH_take (i := 2) (v := ?v2) rfl (by kernel_rfl) (by kernel_rfl) (by kernel_rfl) (fun _ _ _ h => h) (Or.inl ⟨by rfl, ?y2⟩) (by assumption) ?r2
    case y2 => intro w hSw; (try dsimp only at hSw); go_simp; (try with_reducible rfl)
    (try simp only [Act.put, List.setIfInBounds_toArray, List.set_cons_zero, List.set_cons_succ, List.getElem_toArray, List.getElem_cons_zero, List.getElem_cons_succ])
    refine wpAnyH_take (i := 3) (v := ?v3) rfl (by kernel_rfl) (by kernel_rfl) (by kernel_rfl) (fun _ _ _ h => h) (Or.inl ⟨by rfl, ?y3⟩) (by assumption) ?r3
    case y3 => intro w hSw; (try dsimp only at hSw); go_simp; (try with_reducible rfl)
    (try simp only [Act.put, List.setIfInBounds_toArray, List.set_cons_zero, List.set_cons_succ, List.getElem_toArray, List.getElem_cons_zero, List.getElem_cons_succ])
    refine wpAnyH_take (i := 5) (v := ?v4) rfl (by kernel_rfl) (by kernel_rfl) (by kernel_rfl) (fun _ _ _ h => h) (Or.inl ⟨by rfl, ?y4⟩) (by assumption) ?r4
    case y4 => intro w hSw; (try dsimp only at hSw); go_simp; (try with_reducible rfl)
    (try simp only [Act.put, List.setIfInBounds_toArray, List.set_cons_zero, List.set_cons_succ, List.getElem_toArray, List.getElem_cons_zero, List.getElem_cons_succ])
    refine wpAnyH_take (i := 6) (v := ?v5) rfl (by kernel_rfl) (by kernel_rfl) (by kernel_rfl) (fun _ _ _ h => h) (Or.inl ⟨by rfl, ?y5⟩) (by assumption) ?r5
    case y5 => intro w hSw; (try dsimp only at hSw); go_simp; (try with_reducible rfl)
    (try simp only [Act.put, List.setIfInBounds_toArray, List.set_cons_zero, List.set_cons_succ, List.getElem_toArray, List.getElem_cons_zero, List.getElem_cons_succ])
    refine wpAnyH_take (i := 7) (v := ?v6) rfl (by kernel_rfl) (by kernel_rfl) (by kernel_rfl) (fun _ _ _ h => h) (Or.inl ⟨by rfl, ?y6⟩) (by assumption) ?r6
    case y6 => intro w hSw; (try dsimp only at hSw); go_simp; (try with_reducible rfl)
    (try simp only [Act.put, List.setIfInBounds_toArray, List.set_cons_zero, List.set_cons_succ, List.getElem_toArray, List.getElem_cons_zero, List.getElem_cons_succ])
    refine wpAnyH_take (i := 8) (v := ?v7) rfl (by kernel_rfl) (by kernel_rfl) (by kernel_rfl) (fun _ _ _ h => h) (Or.inl ⟨by rfl, ?y7⟩) (by assumption) ?r7
    case y7 => intro w hSw; (try dsimp only at hSw); go_simp; (try with_reducible rfl)
    (try simp only [Act.put, List.setIfInBounds_toArray, List.set_cons_zero, List.set_cons_succ, List.getElem_toArray, List.getElem_cons_zero, List.getElem_cons_succ])
    refine wpAnyH_take (i := 9) (v := ?v8) rfl (by kernel_rfl) (by kernel_rfl) (by kernel_rfl) (fun _ _ _ h => h) (Or.inl ⟨by rfl, ?y8⟩) (by assumption) ?r8
    case y8 => intro w hSw; (try dsimp only at hSw); go_simp; (try with_reducible rfl)
    (try simp only [Act.put, List.setIfInBounds_toArray, List.set_cons_zero, List.set_cons_succ, List.getElem_toArray, List.getElem_cons_zero, List.getElem_cons_succ])
    refine wpAnyH_take (i := 10) (v := ?v9) rfl (by kernel_rfl) (by kernel_rfl) (by kernel_rfl) (fun _ _ _ h => h) (Or.inl ⟨by rfl, ?y9⟩) (by assumption) ?r9
    case y9 => intro w hSw; (try dsimp only at hSw); go_simp; (try with_reducible rfl)
    (try simp only [Act.put, List.setIfInBounds_toArray, List.set_cons_zero, List.set_cons_succ, List.getElem_toArray, List.getElem_cons_zero, List.getElem_cons_succ])
    refine wpAnyH_take (i := 11) (v := ?v10) rfl (by kernel_rfl) (by kernel_rfl) (by kernel_rfl) (fun _ _ _ h => h) (Or.inl ⟨by rfl, ?y10⟩) (by assumption) ?r10
    case y10 => intro w hSw; (try dsimp only at hSw); go_simp; (try with_reducible rfl)
    (try simp only [Act.put, List.setIfInBounds_toArray, List.set_cons_zero, List.set_cons_succ, List.getElem_toArray, List.getElem_cons_zero, List.getElem_cons_succ])
    refine wpAnyH_take (i := 12) (v := ?v11) rfl (by kernel_rfl) (by kernel_rfl) (by kernel_rfl) (fun _ _ _ h => h) (Or.inl ⟨by rfl, ?y11⟩) (by assumption) ?r11
    case y11 => intro w hSw; (try dsimp only at hSw); go_simp; (try with_reducible rfl)
    (try simp only [Act.put, List.setIfInBounds_toArray, List.set_cons_zero, List.set_cons_succ, List.getElem_toArray, List.getElem_cons_zero, List.getElem_cons_succ])
    refine wpAnyH_take (i := 15) (v := ?v12) rfl (by kernel_rfl) (by kernel_rfl) (by kernel_rfl) (fun _ _ _ h => h) (Or.inl ⟨by rfl, ?y12⟩) (by assumption) ?r12
    case y12 => intro w hSw; (try dsimp only at hSw); go_simp; (try with_reducible rfl)
    (try simp only [Act.put, List.setIfInBounds_toArray, List.set_cons_zero, List.set_cons_succ, List.getElem_toArray, List.getElem_cons_zero, List.getElem_cons_succ])
    refine wpAnyH_ready (rs := [0, 4]) (by kernel_rfl) (by simp) ?_
    refine AllReadyH.cons rfl (fun K hK => ?_) (AllReadyH.cons rfl (fun K hK => ?_) (AllReadyH.nil))
    · skip
      go_simp
      have e1 := Ext.alloc W (.cells #[] 51)
      have nE := own_empty2 W 51
      have hBE : B ≤ W.heap.size := by have := Below.size hXW; have := HB.out; omega
      have hbn : b4 < W.heap.size := (Array.getElem?_eq_some_iff.1 hb4).1
      replace hXW := hXW.trans e1
      replace hb4 := (Below.block e1 _ (Array.getElem?_eq_some_iff.1 hb4).1).trans hb4
      clear e1
      generalize W.heap.size = nEb at *
      generalize W.alloc (.cells #[] 51) = W at *
      refine hK.out _ _ ?s13 (fun hHeld => ?k13)
      case s13 => ((try dsimp only); (first | exact cells4 hb4))
      clear hK K
      (try simp only [Act.put, List.setIfInBounds_toArray, List.set_cons_zero, List.set_cons_succ, List.getElem_toArray, List.getElem_cons_zero, List.getElem_cons_succ])
      refine wpAnyH_ready (rs := [4]) (by kernel_rfl) (by simp) ?_
      refine AllReadyH.cons rfl (fun K hK => ?_) AllReadyH.nil
      go_simp
      refine (HWW.out _ hXW).mono ?_
      rintro e w' ⟨rfl, rfl⟩
      refine hK.out _ _ ?s14 (fun hHeld => ?k14)
      case s14 => ((try dsimp only); (first | exact cells4 hb4))
      clear hK K
      (try simp only [Act.put, List.setIfInBounds_toArray, List.set_cons_zero, List.set_cons_succ, List.getElem_toArray, List.getElem_cons_zero, List.getElem_cons_succ])
      refine wpAnyH_take (i := 13) (v := ?v15) rfl (by kernel_rfl) (by kernel_rfl) (by kernel_rfl) (fun _ _ _ h => h) (Or.inl ⟨by rfl, ?y15⟩) (by assumption) ?r15
      case y15 => intro w hSw; (try dsimp only at hSw); go_simp; (try with_reducible rfl)
      (try simp only [Act.put, List.setIfInBounds_toArray, List.set_cons_zero, List.set_cons_succ, List.getElem_toArray, List.getElem_cons_zero, List.getElem_cons_succ])
      refine wpAnyH_ready (rs := [14]) (by kernel_rfl) (by simp) ?_
      refine AllReadyH.cons rfl (fun K hK => ?_) AllReadyH.nil
      refine step_append_rows E64 (by rfl) _ _ (by rfl) B (.slice (some ⟨nEb, 0, none⟩) 0 0) (.slice (some ⟨gq, rb, none⟩) (o0 + tp) (n - rb)) [] (V.map wordC) (by rfl) (nE.mono hBE) (by rfl) (HVR.out _ hXW) (by simp; unfold maxLen; omega) (by simp; omega) (by have := Below.size hXW; have := HB.out; omega) ?_
      intro v2 W2 hf2 hg2 hb2 _
      have hXW2 : Ext w W2 := Below.grown hXW hg2 (Below.size hXW) (fun b hb => by simp [Value.ownBlock] at hb; have := HB.out; omega)
      have hb42 := (hg2.block b4 (Array.getElem?_eq_some_iff.1 hb4).1 (by simp [Value.ownBlock]; omega)).trans hb4
      clear hXW hb4 hg2 hb2 nE hbn hBE
      have hXW := hXW2
      have hb4 := hb42
      clear hXW2 hb42
      obtain ⟨qv, lv, cv, rfl⟩ := hf2.len3
      rw [List.nil_append] at hf2
      generalize W2 = W at *
      refine hK.out _ _ ?s16 (fun hHeld => ?k16)
      case s16 => ((try dsimp only); (first | exact cells4 hb4))
      clear hK K
      (try simp only [Act.put, List.setIfInBounds_toArray, List.set_cons_zero, List.set_cons_succ, List.getElem_toArray, List.getElem_cons_zero, List.getElem_cons_succ])
      refine wpAnyH_take (i := 16) (v := ?v17) rfl (by kernel_rfl) (by kernel_rfl) (by kernel_rfl) (fun _ _ _ h => h) (Or.inl ⟨by rfl, ?y17⟩) (by assumption) ?r17
      case y17 => intro w hSw; (try dsimp only at hSw); go_simp; (try with_reducible rfl)
      (try simp only [Act.put, List.setIfInBounds_toArray, List.set_cons_zero, List.set_cons_succ, List.getElem_toArray, List.getElem_cons_zero, List.getElem_cons_succ])
      refine wpAnyH_ready (rs := [17]) (by kernel_rfl) (by simp) ?_
      refine AllReadyH.cons rfl (fun K hK => ?_) AllReadyH.nil
      go_simp
      have e1 := Ext.alloc W (.cells #[.slice none 0 0, .slice none 0 0, .slice none 0 0, .int .i64 0, .slice qv lv cv, .int .i64 h.base, .int .i64 h.half, .int .i64 h.space, .int .i64 h.top] 76)
      have mr := mr_start (h := h) (hf2.ext e1) (heap_alloc_new W _) (by have := Below.size hXW; have := HB.out; omega)
      have hb42 := (Below.block e1 _ (Array.getElem?_eq_some_iff.1 hb4).1).trans hb4
      have hXW2 := hXW.trans e1
      clear e1 hXW hb4 hf2
      have hXW := hXW2
      have hb4 := hb42
      clear hXW2 hb42
      generalize W.heap.size = mb at *
      generalize W.alloc (.cells #[.slice none 0 0, .slice none 0 0, .slice none 0 0, .int .i64 0, .slice qv lv cv, .int .i64 h.base, .int .i64 h.half, .int .i64 h.space, .int .i64 h.top] 76) = W at *
      refine hK.out _ _ ?s18 (fun hHeld => ?k18)
      case s18 => ((try dsimp only); (first | exact cells4 hb4))
      clear hK K
      (try simp only [Act.put, List.setIfInBounds_toArray, List.set_cons_zero, List.set_cons_succ, List.getElem_toArray, List.getElem_cons_zero, List.getElem_cons_succ])
      refine wpAnyH_done (by kernel_rfl) ?_ _
      show wpList _ _ _ _ _ _
      go_wp2
      refine NoPanic.normal ?_
      go_wp2
      go_meet
      exact ⟨_, _, rfl, mr, hXW⟩
    · skip
      go_simp
      refine (HWW.out _ hXW).mono ?_
      rintro e w' ⟨rfl, rfl⟩
      refine hK.out _ _ ?s19 (fun hHeld => ?k19)
      case s19 => ((try dsimp only); (first | exact cells4 hb4))
      clear hK K
      (try simp only [Act.put, List.setIfInBounds_toArray, List.set_cons_zero, List.set_cons_succ, List.getElem_toArray, List.getElem_cons_zero, List.getElem_cons_succ])
      refine wpAnyH_take (i := 13) (v := ?v20) rfl (by kernel_rfl) (by kernel_rfl) (by kernel_rfl) (fun _ _ _ h => h) (Or.inl ⟨by rfl, ?y20⟩) (by assumption) ?r20
      case y20 => intro w hSw; (try dsimp only at hSw); go_simp; (try with_reducible rfl)
      (try simp only [Act.put, List.setIfInBounds_toArray, List.set_cons_zero, List.set_cons_succ, List.getElem_toArray, List.getElem_cons_zero, List.getElem_cons_succ])
      refine wpAnyH_ready (rs := [0]) (by kernel_rfl) (by simp) ?_
      refine AllReadyH.cons rfl (fun K hK => ?_) AllReadyH.nil
      go_simp
      have e1 := Ext.alloc W (.cells #[] 51)
      have nE := own_empty2 W 51
      have hBE : B ≤ W.heap.size := by have := Below.size hXW; have := HB.out; omega
      have hbn : b4 < W.heap.size := (Array.getElem?_eq_some_iff.1 hb4).1
      replace hXW := hXW.trans e1
      replace hb4 := (Below.block e1 _ (Array.getElem?_eq_some_iff.1 hb4).1).trans hb4
      clear e1
      generalize W.heap.size = nEb at *
      generalize W.alloc (.cells #[] 51) = W at *
      refine hK.out _ _ ?s21 (fun hHeld => ?k21)
      case s21 => ((try dsimp only); (first | exact cells4 hb4))
      clear hK K
      (try simp only [Act.put, List.setIfInBounds_toArray, List.set_cons_zero, List.set_cons_succ, List.getElem_toArray, List.getElem_cons_zero, List.getElem_cons_succ])
      refine wpAnyH_ready (rs := [14]) (by kernel_rfl) (by simp) ?_
      refine AllReadyH.cons rfl (fun K hK => ?_) AllReadyH.nil
      refine step_append_rows E64 (by rfl) _ _ (by rfl) B (.slice (some ⟨nEb, 0, none⟩) 0 0) (.slice (some ⟨gq, rb, none⟩) (o0 + tp) (n - rb)) [] (V.map wordC) (by rfl) (nE.mono hBE) (by rfl) (HVR.out _ hXW) (by simp; unfold maxLen; omega) (by simp; omega) (by have := Below.size hXW; have := HB.out; omega) ?_
      intro v2 W2 hf2 hg2 hb2 _
      have hXW2 : Ext w W2 := Below.grown hXW hg2 (Below.size hXW) (fun b hb => by simp [Value.ownBlock] at hb; have := HB.out; omega)
      have hb42 := (hg2.block b4 (Array.getElem?_eq_some_iff.1 hb4).1 (by simp [Value.ownBlock]; omega)).trans hb4
      clear hXW hb4 hg2 hb2 nE hbn hBE
      have hXW := hXW2
      have hb4 := hb42
      clear hXW2 hb42
      obtain ⟨qv, lv, cv, rfl⟩ := hf2.len3
      rw [List.nil_append] at hf2
      generalize W2 = W at *
      refine hK.out _ _ ?s22 (fun hHeld => ?k22)
      case s22 => ((try dsimp only); (first | exact cells4 hb4))
      clear hK K
      (try simp only [Act.put, List.setIfInBounds_toArray, List.set_cons_zero, List.set_cons_succ, List.getElem_toArray, List.getElem_cons_zero, List.getElem_cons_succ])
      refine wpAnyH_take (i := 16) (v := ?v23) rfl (by kernel_rfl) (by kernel_rfl) (by kernel_rfl) (fun _ _ _ h => h) (Or.inl ⟨by rfl, ?y23⟩) (by assumption) ?r23
      case y23 => intro w hSw; (try dsimp only at hSw); go_simp; (try with_reducible rfl)
      (try simp only [Act.put, List.setIfInBounds_toArray, List.set_cons_zero, List.set_cons_succ, List.getElem_toArray, List.getElem_cons_zero, List.getElem_cons_succ])
      refine wpAnyH_ready (rs := [17]) (by kernel_rfl) (by simp) ?_
      refine AllReadyH.cons rfl (fun K hK => ?_) AllReadyH.nil
      go_simp
      have e1 := Ext.alloc W (.cells #[.slice none 0 0, .slice none 0 0, .slice none 0 0, .int .i64 0, .slice qv lv cv, .int .i64 h.base, .int .i64 h.half, .int .i64 h.space, .int .i64 h.top] 76)
      have mr := mr_start (h := h) (hf2.ext e1) (heap_alloc_new W _) (by have := Below.size hXW; have := HB.out; omega)
      have hb42 := (Below.block e1 _ (Array.getElem?_eq_some_iff.1 hb4).1).trans hb4
      have hXW2 := hXW.trans e1
      clear e1 hXW hb4 hf2
      have hXW := hXW2
      have hb4 := hb42
      clear hXW2 hb42
      generalize W.heap.size = mb at *
      generalize W.alloc (.cells #[.slice none 0 0, .slice none 0 0, .slice none 0 0, .int .i64 0, .slice qv lv cv, .int .i64 h.base, .int .i64 h.half, .int .i64 h.space, .int .i64 h.top] 76) = W at *
      refine hK.out _ _ ?s24 (fun hHeld => ?k24)
      case s24 => ((try dsimp only); (first | exact cells4 hb4))
      clear hK K
      (try simp only [Act.put, List.setIfInBounds_toArray, List.set_cons_zero, List.set_cons_succ, List.getElem_toArray, List.getElem_cons_zero, List.getElem_cons_succ])
      refine wpAnyH_done (by kernel_rfl) ?_ _
      show wpList _ _ _ _ _ _
      go_wp2
      refine NoPanic.normal ?_
      go_wp2
      go_meet
      exact ⟨_, _, rfl, mr, hXW⟩
  case rest =>
    obtain ⟨mb, vw, rfl, hmr, hx1⟩ := hcut
    have HMR := Lib.hid hmr; have HX1 := Lib.hid hx1
    clear hmr hx1 HWW HVR HSL HM HM2 HE0 B4 HB4
    have hBW : ∀ W, Ext w W → B ≤ W.heap.size := fun W e => by have := Below.size e; have := HB.out; omega
    have HBW := Lib.hid hBW
    clear hBW
    have hFl := RV.out.fin.size.1
    have hFll := RV.out.fin.size.2
    have hHs := RV.out.hs.size
    have hsm := RV.out.small
    have hFl2 : Fin.length ≤ 2000 := by
      have h2 : ∀ L : List (Nat × Ob), L.length ≤ sizeF L := by
        intro L
        induction L with
        | nil => exact Nat.le_refl _
        | cons y L ih => simp only [List.length_cons, sizeF]; have := wordsO_pos y.2; omega
      have := h2 Fin
      omega
    go_wp2_with fail
    go_loopw [9, 10] (fun ov iv wx => ∃ (a : Nat) (F : List (Nat × Ob)) (vf vt vo : Value) (rows : List (List Value)) (qo : Option Addr) (co : Nat), a ≤ roots.length ∧ iv = .int .i64 a ∧ ov = .slice qo a co ∧ Rest0 o0 Hs Fin F (roots.drop a) ∧ Mr wx B mb vf vt vo vw (LFo o0 F) (LTo o1 F) (F.map (·.2)) V rows (sizeF F) h ∧ OwnP wx B 51 (.slice qo a co) 1 (((roots.take a).map f).map wordC) ∧ OutAp (.slice qo a co) vw rows ∧ Ext w wx) (fun _ v _ => roots.length - (Go.RowKit.intOf v).toNat)
    case atStart => exact ⟨0, [], _, _, _, [], none, 0, Nat.zero_le _, rfl, rfl, HREST.out, HMR.out, OwnP.nil _ _ _ _, OutAp.nil _, HX1.out⟩
    case round =>
      obtain ⟨a, F, vf, vt, vo, rows, qo, co, haR, rfl, rfl, hrs, hmr, hou, hap, hex⟩ := hrel
      have HRS := Lib.hid hrs; have HM := Lib.hid hmr; have HOU := Lib.hid hou; have HAP := Lib.hid hap; have HEX := Lib.hid hex
      clear hrs hmr hou hap hex HREST HMR HX1
      by_cases hlt : a < roots.length
      · --<<A
        have i1 : (a : Int) < (roots.length : Int) := by omega
        obtain ⟨x, hx⟩ : ∃ x, roots[a]? = some x := ⟨_, List.getElem?_eq_getElem hlt⟩
        have hxm : x ∈ roots := List.mem_of_getElem? hx
        obtain ⟨hx64, hxok⟩ := HCL.out x hxm
        have hdr : roots.drop a = x :: roots.drop (a + 1) := by rw [List.drop_eq_getElem_cons hlt]; rw [List.getElem?_eq_getElem hlt] at hx; rw [Option.some.inj hx]
        have hrs := HRS.out
        rw [hdr] at hrs
        have hst := rest0_step hrs
        have hpre := rest0_pre hst
        have HST := Lib.hid hst
        have htk : (roots.take (a + 1)) = roots.take a ++ [x] := by rw [List.take_add_one, hx]; rfl
        have HTK := Lib.hid htk
        have HMV := Lib.hid (rmove_is RV.out HM.out (by simp) hx64 hxok hpre HO1.out a3 a4 hhf.1 hhf.2 (HBW.out _ HEX.out))
        rw [← HF.out] at HMV
        obtain ⟨q9, c9, e9, -, -, hcell⟩ := (HR.out.ext HEX.out).at
        obtain ⟨rfl, -, rfl⟩ := Value.slice.inj e9
        obtain ⟨br, offr, rfl, hcx⟩ := hcell a (wordC x) (by rw [List.getElem?_map, hx]; rfl)
        have hcx := hcx 0 _ rfl
        rw [Nat.add_zero, Nat.mul_one] at hcx
        clear hcell e9 hx hxm hx64 hxok hdr hrs hst hpre htk
        go_wp2_with fail
        refine HMV.out.mono ?_
        rintro e w3 ⟨rfl, ⟨vf', vt', vo', rows', L', hmr', hL, hrw⟩, htn⟩
        have HM2 := Lib.hid hmr'; have HL := Lib.hid hL; have HRW := Lib.hid hrw
        have HOU2 := Lib.hid (hou_moved HM.out HOU.out htn)
        have HEX2 := Lib.hid (moved_ext' HB.out HEX.out HM.out htn)
        have HAP2 := Lib.hid (HAP.out.add HOU.out hrw)
        clear hmr' hL hrw htn hcx HMV
        have hLe : L' = (addF o0 Hs F x).map (·.2) := by
          rcases HL.out with ⟨e1, e2⟩ | ⟨y, e1, e2⟩
          · rw [e1, e2]
          · rw [e1, e2, List.map_append]; rfl
        have HLE := Lib.hid hLe
        clear hLe
        obtain ⟨RL, hRL⟩ : ∃ RL, RL = ((roots.take a).map f).map wordC := ⟨_, rfl⟩
        have hfr : RL.length = a := by rw [hRL, List.length_map, List.length_map, List.length_take]; omega
        rw [← hRL] at HOU2
        have HRL := Lib.hid hRL
        clear hRL
        have HFR := Lib.hid hfr
        clear hfr
        obtain ⟨fx, hfx⟩ : ∃ fx, fx = f x := ⟨_, rfl⟩
        rw [← hfx]
        have HFX := Lib.hid hfx
        clear hfx
        go_wp2_with (refine wpList_append_rows E64 (by rfl) _ _ (by rfl) B (.slice qo a co) (.slice (some ⟨w3.heap.size, 0, none⟩) 1 1) RL [wordC fx] (by rfl) (HOU2.out.ext (Ext.alloc _ _)) (by rfl) (rows_of_block (cs := #[.int .u64 fx]) (heap_alloc_new _ _) rfl (by intro u hu; simp at hu; subst hu; rfl)) (by rw [HFR.out]; simp; unfold maxLen; omega) (by rw [HFR.out]; simp; omega) (by have := HBW.out _ HEX2.out; simp; omega) ?_)
        intro v5 w5 ho5 hg5 hb5 _
        obtain ⟨q5, c5, rfl, -, -⟩ := ho5.len
        have hl5 : (RL ++ [wordC fx]).length = a + 1 := by rw [List.length_append, HFR.out]; rfl
        rw [hl5] at ho5 hb5 ⊢
        have hne := HM2.out.ext (Ext.alloc w3 (.cells #[.int .u64 fx] 51))
        have hM5 := hne.grownOut (HOU2.out.ext (Ext.alloc _ _)) HAP2.out hg5
        have hA5 := HAP2.out.grow hne.m (hb5.imp id fun h => by rw [h]; simp)
        have hX5 : Ext w w5 := by
          refine Below.grown (HEX2.out.trans (Ext.alloc _ _)) hg5 (by have := Below.size HEX2.out; simp; omega) (fun b hb => ?_)
          have := (HOU2.out.own b hb).1
          have := HB.out
          omega
        rw [HLE.out] at hM5
        have hO5 : OwnP w5 B 51 (.slice q5 (a + 1) c5) 1 (((roots.take (a + 1)).map f).map wordC) := by
          rw [HTK.out, List.map_append, List.map_append, List.map_cons, List.map_nil, List.map_cons, List.map_nil, ← HFX.out, ← HRL.out]
          exact ho5
        have HM5 := Lib.hid hM5; have HA5 := Lib.hid hA5; have HX5 := Lib.hid hX5; have HO5 := Lib.hid hO5
        clear ho5 hg5 hb5 hl5 hne hM5 hA5 hX5 hO5
        go_wp2
        exact ⟨⟨a + 1, _, _, _, _, _, q5, c5, by omega, by go_num, rfl, HST.out, HM5.out, HO5.out, HA5.out, HX5.out⟩, by simp [Go.RowKit.intOf]; omega⟩
        -->>A
      · obtain rfl : a = roots.length := by omega
        clear hlt haR
        have hr0 := HRS.out
        rw [List.drop_length] at hr0
        have hr1 := rest0_scan hr0
        have HR1 := Lib.hid hr1
        have hou := HOU.out
        rw [List.take_length] at hou
        have HOU1 := Lib.hid hou
        clear hr0 hr1 hou HRS HOU HCL
        generalize wr = wq at *
        go_wp2_with fail
        go_loopw [11] (fun iv wx => ∃ (i : Nat) (F : List (Nat × Ob)) (vf vt vo : Value) (rows : List (List Value)), iv = .int .i64 i ∧ i ≤ F.length ∧ Rest1 o0 Hs Fin i F ∧ Mr wx B mb vf vt vo vw (LFo o0 F) (LTo o1 F) (objsAt f i 0 F) V rows (sizeF F) h ∧ OwnP wx B 51 (.slice qo roots.length co) 1 ((roots.map f).map wordC) ∧ OutAp (.slice qo roots.length co) vw rows ∧ Ext w wx) (fun v _ => Fin.length - (Go.RowKit.intOf v).toNat)
        case atStart => exact ⟨0, F, vf, vt, vo, rows, rfl, Nat.zero_le _, HR1.out, by rw [objsAt_zero]; exact HM.out, HOU1.out, HAP.out, HEX.out⟩
        case round =>
          obtain ⟨i, F2, vf2, vt2, vo2, rows2, rfl, hiF, hr1, hmr, hou, hap, hex⟩ := hrel
          have HR2 := Lib.hid hr1; have HM2 := Lib.hid hmr; have HOU2 := Lib.hid hou; have HAP2 := Lib.hid hap; have HEX2 := Lib.hid hex
          have hFp := rest1_pre hr1
          have hFpl : F2.length ≤ Fin.length := hFp.length_le
          have HR2fl : F2.length ≤ Hs.length := by omega
          have hrows : rows2.length = F2.length := by rw [hmr.m.len, objsAt_len]
          clear hr1 hmr hou hap hex HR1 HOU1 HM HAP HEX hFp
          obtain ⟨qv2, cv2, rfl, hv21, hv22⟩ := HM2.out.m.o.len
          unfold maxLen at hv22
          have hb2 := HM2.out.blk
          obtain ⟨-, -, y2, -⟩ := cells9 hb2
          rw [hrows] at y2 hv21
          clear hb2
          have HRWS := Lib.hid hrows
          clear hrows
          by_cases hlt : i < F2.length
          · --<<B
            have i1 : (i : Int) < (F2.length : Int) := by omega
            obtain ⟨y, hy⟩ : ∃ y, F2[i]? = some y := ⟨_, List.getElem?_eq_getElem hlt⟩
            have hop := rest1_open HR2.out HR2fl hy
            have HOP := Lib.hid hop; have HY := Lib.hid hy
            have hyH : y ∈ Hs := RV.out.fin.sub y ((rest1_pre HR2.out).subset (List.mem_of_getElem? hy))
            have hy64 := HF64.out y hyH
            have hyl : y.2.fields.length ≤ 400 := (mayK_bounds (show mayK y.2.kind y.2.tag y.2.fields.length y.2.text.size = true from RV.out.hs.may y hyH)).2.2.2.2.1
            have HY64 := Lib.hid hy64
            clear hop hy hyH hy64
            go_wp2_with fail
            go_loopw [12] (fun kv wx => ∃ (k : Nat) (F : List (Nat × Ob)) (vf vt vo : Value) (rows : List (List Value)), kv = .int .i64 k ∧ k ≤ y.2.fields.length ∧ F2 <+: F ∧ F <+: Fin ∧ F[i]? = some y ∧ Rest2 o0 Hs Fin i F (y.2.fields.drop k) ∧ Mr wx B mb vf vt vo vw (LFo o0 F) (LTo o1 F) (objsAt f i k F) V rows (sizeF F) h ∧ OwnP wx B 51 (.slice qo roots.length co) 1 ((roots.map f).map wordC) ∧ OutAp (.slice qo roots.length co) vw rows ∧ Ext w wx) (fun v _ => y.2.fields.length - (Go.RowKit.intOf v).toNat)
            case atStart => exact ⟨0, F2, _, _, _, rows2, rfl, Nat.zero_le _, List.prefix_refl _, rest1_pre HR2.out, HY.out, HOP.out, HM2.out, HOU2.out, HAP2.out, HEX2.out⟩
            case round =>
              obtain ⟨k, F3, vf3, vt3, vo3, rows3, rfl, hk, hF23, hF3, hy3, hr2, hmr, hou, hap, hex⟩ := hrel
              have HR3 := Lib.hid hr2; have HM3 := Lib.hid hmr; have HOU3 := Lib.hid hou; have HAP3 := Lib.hid hap; have HEX3 := Lib.hid hex; have HF23 := Lib.hid hF23; have HF3 := Lib.hid hF3; have HY3 := Lib.hid hy3
              have hF3l : F3.length ≤ Fin.length := hF3.length_le
              have hi3 : i < F3.length := (List.getElem?_eq_some_iff.1 hy3).1
              have hrows : rows3.length = F3.length := by rw [hmr.m.len, objsAt_len]
              clear hr2 hmr hou hap hex hF23 hF3 HM2 HOU2 HAP2 HEX2 y2
              obtain ⟨qv3, cv3, rfl, hv31, hv32⟩ := HM3.out.m.o.len
              unfold maxLen at hv32
              obtain ⟨-, -, y2, -⟩ := cells9 HM3.out.blk
              rw [hrows] at y2 hv31
              obtain ⟨r3, hr3⟩ : ∃ r3, rows3[i]? = some r3 := ⟨_, List.getElem?_eq_getElem (by rw [hrows]; exact hi3)⟩
              have hL3 : (objsAt f i k F3)[i]? = some (mapUp f k y.2) := by
                rw [objsAt_get, hy3]
                simp
              obtain ⟨q3, c3, hr3e, ho3, hd3⟩ := HM3.out.m.row i _ r3 hL3 hr3
              rw [mapUp_len] at hr3e ho3 hd3
              have hc3 := HM3.out.m.o.cell (i := i) (f := 2) hr3 (u := .slice q3 y.2.fields.length c3) (by rw [hr3e]; rfl)
              obtain ⟨go, e3, -, hco, -⟩ := hc3
              obtain rfl : qv3 = some ⟨go, 0, none⟩ := e3
              have HR3E := Lib.hid hr3e; have HRR3 := Lib.hid hr3; have HO3 := Lib.hid ho3; have HL3 := Lib.hid hL3; have HROWS := Lib.hid hrows
              have i2 : (i : Int) < (F3.length : Int) := by omega
              clear hr3e hr3 ho3 hd3 hL3 hrows hy3
              have hcf3 : y.2.fields.length ≤ c3 ∧ c3 ≤ 9223372036854775807 := by
                obtain ⟨_, _, e9, h1, h2⟩ := HO3.out.len
                rw [List.length_map, mapUp_len] at h1
                obtain ⟨_, _, rfl⟩ := Value.slice.inj e9
                unfold maxLen at h2
                exact ⟨h1, h2⟩
              obtain ⟨hcf31, hcf32⟩ := hcf3
              by_cases hkl : k < y.2.fields.length
              · --<<C
                have i3 : (k : Int) < (y.2.fields.length : Int) := by omega
                obtain ⟨x, hx⟩ : ∃ x, y.2.fields[k]? = some x := ⟨_, List.getElem?_eq_getElem hkl⟩
                have hxm : x ∈ y.2.fields := List.mem_of_getElem? hx
                obtain ⟨hx64, hxok⟩ := HY64.out x hxm
                have hdr : y.2.fields.drop k = x :: y.2.fields.drop (k + 1) := by rw [List.drop_eq_getElem_cons hkl]; rw [List.getElem?_eq_getElem hkl] at hx; rw [Option.some.inj hx]
                have hrs := HR3.out
                rw [hdr] at hrs
                have hst := rest2_step hrs
                have hpre := rest2_pre hst
                have HST := Lib.hid hst; have HPRE := Lib.hid hpre
                have hmg := mapUp_get f hx
                have HMG := Lib.hid hmg; have HXK := Lib.hid hx
                have HMV := Lib.hid (rmove_is RV.out HM3.out (objsAt_len f i k F3) hx64 hxok hpre HO1.out a3 a4 hhf.1 hhf.2 (HBW.out _ HEX3.out))
                rw [← HF.out] at HMV
                obtain ⟨gf, rfl, -, hcx, -⟩ := HO3.out.cell (i := k) (f := 0) (cs := wordC x) (u := .int .u64 x) (by rw [List.getElem?_map, hmg]; rfl) rfl
                rw [Nat.add_zero, Nat.mul_one] at hcx
                clear hxm hx64 hxok hdr hrs hst hpre hmg hx
                go_wp2_with fail
                refine HMV.out.mono ?_
                rintro e w4 ⟨rfl, ⟨vf4, vt4, vo4, rows4, L4, hmr4, hL4, hrw4⟩, htn4⟩
                have HOU4 := Lib.hid (hou_moved HM3.out HOU3.out htn4)
                have HEX4 := Lib.hid (moved_ext' HB.out HEX3.out HM3.out htn4)
                have HAP4 := Lib.hid (HAP3.out.add HOU3.out hrw4)
                have hLe : L4 = objsAt f i k (addF o0 Hs F3 x) := by
                  rcases hL4 with ⟨e1, e2⟩ | ⟨z, e1, e2⟩
                  · rw [e1, e2]
                  · rw [e1, e2, objsAt_app f hi3]
                have hr4 : rows4[i]? = some r3 := by
                  rcases hrw4 with e1 | ⟨rn, e1, _⟩
                  · rw [e1]; exact HRR3.out
                  · rw [e1, List.getElem?_append_left (by rw [HROWS.out]; exact hi3)]; exact HRR3.out
                rw [hLe] at hmr4
                have hF4 : F3 <+: addF o0 Hs F3 x := addF_pre o0 Hs F3 x
                have hy4 : (addF o0 Hs F3 x)[i]? = some y := by
                  obtain ⟨G, hG⟩ := hF4
                  rw [← hG, List.getElem?_append_left hi3]
                  exact HY3.out
                have HF4 := Lib.hid (HF23.out.trans hF4); have HY4 := Lib.hid hy4
                have HM4 := Lib.hid hmr4; have HR4 := Lib.hid hr4
                clear hmr4 hL4 hrw4 htn4 hLe hr4 hF4 hy4 hcx hco y2 HMV HM3 HOU3 HEX3 HAP3
                generalize addF o0 Hs F3 x = F4 at *
                obtain ⟨qv4, lv4, cv4, rfl⟩ := HM4.out.m.o.len3
                obtain ⟨-, -, y2, -⟩ := cells9 HM4.out.blk
                obtain ⟨go4, e4, -, hco4, -⟩ := HM4.out.m.o.cell (i := i) (f := 2) HR4.out (u := .slice (some ⟨gf, 0, none⟩) y.2.fields.length c3) (by rw [HR3E.out]; rfl)
                obtain rfl : qv4 = some ⟨go4, 0, none⟩ := e4
                have hlv4 : lv4 = rows4.length := by
                  obtain ⟨_, _, e9, _, _⟩ := HM4.out.m.o.len
                  exact (Value.slice.inj e9).2.1
                have i4 : (i : Int) < (lv4 : Int) := by
                  have := (List.getElem?_eq_some_iff.1 HR4.out).1
                  omega
                clear hlv4
                have hL4' : (objsAt f i k F4)[i]? = some (mapUp f k y.2) := by
                  rw [objsAt_get, HY4.out]
                  simp
                have hkl' : k < (mapUp f k y.2).fields.length := by rw [mapUp_len]; exact hkl
                obtain ⟨fx, hfx⟩ : ∃ fx, fx = f x := ⟨_, rfl⟩
                rw [← hfx]
                obtain ⟨hm5, ht5⟩ := HM4.out.m.field (u := fx) hL4' HR4.out HR3E.out hkl'
                have hset : (objsAt f i k F4).set i { mapUp f k y.2 with fields := (mapUp f k y.2).fields.set k fx } = objsAt f i (k + 1) F4 := by
                  rw [hfx, mapUp_set f HXK.out]
                  exact objsAt_set f HY4.out
                rw [hset] at hm5
                obtain ⟨q5, c5, e5, ho5, -⟩ := HM4.out.m.row i _ r3 hL4' HR4.out
                rw [HR3E.out] at e5
                have he5 : Value.slice (some ⟨gf, 0, none⟩) y.2.fields.length c3 = Value.slice q5 (mapUp f k y.2).fields.length c5 := by
                  have := congrArg (fun l : List Value => l[2]?) e5
                  exact Option.some.inj this
                rw [← he5] at ho5
                have hmb5 := ht5.keep HM4.out.blk (fun e => ho5.not_at HM4.out.blk (by decide) (by rw [e]; rfl))
                have hou5 := HOU4.out.turn ht5 (fun b hb hm => by
                  rw [List.mem_singleton.1 hm] at hb
                  exact HAP4.out.1 i r3 HR4.out gf (by rw [HR3E.out]; rfl) hb)
                have hex5 : Ext w (w4.setCell ⟨gf, k, none⟩ (.int .u64 fx)) := Turn.after HEX4.out ht5 (fun b hb => by rw [List.mem_singleton.1 hb]; have := (ho5.own gf rfl).1; have := HB.out; omega)
                obtain ⟨gf', e6, -, hcx, hfr⟩ := ho5.cell (i := k) (f := 0) (cs := wordC x) (u := .int .u64 x) (by rw [List.getElem?_map, HMG.out]; rfl) rfl
                obtain ⟨rfl, _⟩ := Addr.mk.inj (Option.some.inj e6)
                rw [Nat.add_zero, Nat.mul_one] at hcx hfr
                have HM5 := Lib.hid (show Mr (w4.setCell ⟨gf, k, none⟩ (.int .u64 fx)) B mb vf4 vt4 (.slice (some ⟨go4, 0, none⟩) lv4 cv4) vw (LFo o0 F4) (LTo o1 F4) (objsAt f i (k + 1) F4) V rows4 (sizeF F4) h from ⟨hm5, hmb5, HM4.out.ge⟩)
                have HOU5 := Lib.hid hou5; have HEX5 := Lib.hid hex5
                clear hm5 ht5 hset e5 he5 ho5 hmb5 hou5 hex5 e6 hfx hL4' hkl'
                go_wp2
                exact ⟨⟨k + 1, F4, _, _, _, rows4, by go_num, by omega, HF4.out, HPRE.out, HY4.out, HST.out, HM5.out, HOU5.out, HAP4.out, HEX5.out⟩, by simp [Go.RowKit.intOf]; omega⟩
                -->>C
              · obtain rfl : k = y.2.fields.length := by omega
                have i3 : ¬ ((y.2.fields.length : Nat) : Int) < (y.2.fields.length : Int) := by omega
                go_wp2
                have hnx := objsAt_next f (j := y.2.fields.length) HY3.out (Nat.le_refl _)
                have hm3 := HM3.out
                rw [hnx] at hm3
                have hr3' := HR3.out
                rw [List.drop_length] at hr3'
                exact ⟨⟨i + 1, F3, _, _, _, rows3, by go_num, by omega, rest2_end hr3', hm3, HOU3.out, HAP3.out, HEX3.out⟩, by simp [Go.RowKit.intOf]; omega⟩
            -->>B
          · have i1 : ¬ (i : Int) < (F2.length : Int) := by omega
            go_wp2
            go_ret2
            have hFe : F2 = Fin := rest1_end HR2.out (by omega)
            have hM := HM2.out
            rw [objsAt_done f (by omega : F2.length ≤ i), hFe] at hM
            unfold PlanSaid
            rw [← HB.out, ← HF.out]
            exact ⟨mb, _, _, _, vw, _, qo, co, rfl, hM, HOU2.out, HEX2.out⟩
end Go.Proofs.YtinakendlpomnaaGreat
/- The reference's Live and Collect. -/
namespace Go.Proofs.YtinakendlpomnaaGreat
open Go Go.RowKit Go.Deep Go.Maps Arena
set_option maxHeartbeats 8000000
set_option maxRecDepth 100000
section
variable {w : World} {q gq B0 n : Nat} {ws : List Int} {vR : Value} {R : List (Nat × Nat)} {qr : Option Addr} {c : Nat} {roots : List Int}
theorem rlive_no (H : RefAt w q gq B0 n ws vR R) (h : Hp) (hW : ∀ x ∈ ws, W64 x) (hr : RowsP w (.slice qr roots.length c) 1 (roots.map wordC)) (hr64 : ∀ x ∈ roots, W64 x) (hrl : roots.length ≤ 1000) (hm : mayH ws R h roots = none) :
    Calls Tryz.prog 10 #[.pointer (some ⟨q, 0, none⟩), .agg #[.int .i64 h.base, .int .i64 h.half, .int .i64 h.space, .int .i64 h.top], .slice qr roots.length c] w fun e w' => e = .returned (.int .i64 (-1)) ∧ Ext w w' := by
  have MAY := Lib.hid (fun W (e : Ext w W) => rmay_is (H.ext e) h hW (hr.ext e) hr64 (by omega))
  rw [hm] at MAY
  clear hW hr hr64 hm H
  go_enter Tryz.func10, Tryz.ntmps10
  go_wp2_with fail
  refine at_alloc1 fun W hE hS b0 => ?_
  refine (MAY.out _ hE).mono ?_
  rintro e w1 ⟨rfl, hx1⟩
  rw [Option.isSome_none]
  have HX := Lib.hid (hE.trans hx1)
  clear hE hS b0 hx1
  go_wp2
  go_ret
  exact ⟨rfl, HX.out⟩
theorem rlive_yes (H : RefAt w q gq B0 n ws vR R) (h : Hp) (hW : ∀ x ∈ ws, W64 x) (hr : RowsP w (.slice qr roots.length c) 1 (roots.map wordC)) (hr64 : ∀ x ∈ roots, W64 x) (hrl : roots.length ≤ 1000) {Hs : List (Nat × Ob)} (hm : mayH ws R h roots = some Hs) :
    Calls Tryz.prog 10 #[.pointer (some ⟨q, 0, none⟩), .agg #[.int .i64 h.base, .int .i64 h.half, .int .i64 h.space, .int .i64 h.top], .slice qr roots.length c] w fun e w' => e = .returned (.int .i64 ((sizeF (liveF (firstN h) Hs roots) : Nat) : Int)) ∧ Ext w w' := by
  have MAY := Lib.hid (fun W (e : Ext w W) => rmay_is (H.ext e) h hW (hr.ext e) hr64 (by omega))
  have PL := Lib.hid (fun W (e : Ext w W) => plan_is (H.ext e) h hW (hr.ext e) hr64 hrl hm)
  rw [hm] at MAY
  clear hW hr hr64 hm H
  go_enter Tryz.func10, Tryz.ntmps10
  go_wp2_with fail
  refine at_alloc1 fun W hE hS b0 => ?_
  refine (MAY.out _ hE).mono ?_
  rintro e w1 ⟨rfl, hx1⟩
  rw [Option.isSome_some]
  have HX := Lib.hid (hE.trans hx1)
  have b1 := (Below.block hx1 _ (Array.getElem?_eq_some_iff.1 b0).1).trans b0
  clear hE hS b0 hx1 MAY
  obtain ⟨y0, y1, y2, y3⟩ := cells4 b1
  clear b1
  go_wp2_with fail
  refine (PL.out _ HX.out).mono ?_
  intro e w2 hp
  unfold PlanSaid at hp
  obtain ⟨mb, vf, vt, vo, vw, rows, qo, co, rfl, hM, -, hx2⟩ := hp
  obtain ⟨-, -, -, z3, -⟩ := cells9 hM.blk
  have HX2 := Lib.hid (HX.out.trans hx2)
  clear hM hx2 y0 y1 y2 y3 PL HX
  go_wp2
  go_ret
  exact ⟨rfl, HX2.out⟩
end
/-- what the reference's collection says -/
def RCollSaid (ws : List Int) (R : List (Nat × Nat)) (q gq B0 n : Nat) (vR : Value) (h : Hp) (roots : List Int) (w : World) (e : Ending) (w' : World) : Prop :=
  match mayH ws R h roots with
  | none => e = .returned (.agg #[.int .i64 0, .int .i64 0, .int .i64 0, .int .i64 0, .slice none 0 0, .bool false]) ∧ Ext w w'
  | some Hs => ∃ qo co, e = .returned (.agg #[.int .i64 h.base, .int .i64 h.half, .int .i64 (1 - h.space), .int .i64 ((sizeF (liveF (firstN h) Hs roots) : Nat) : Int), .slice qo roots.length co, .bool true]) ∧ RefAt w' q gq B0 n (collWs ws h (liveF (firstN h) Hs roots)) vR R ∧
      OwnP w' w.heap.size 51 (.slice qo roots.length co) 1 ((roots.map (newW (firstN h) (otherN h) (liveF (firstN h) Hs roots))).map wordC) ∧ Turn [gq] w w'
theorem rcoll_no {w : World} {q gq B0 n : Nat} {ws : List Int} {vR : Value} {R : List (Nat × Nat)} {qr : Option Addr} {c : Nat} {roots : List Int} (H : RefAt w q gq B0 n ws vR R) (h : Hp) (hW : ∀ x ∈ ws, W64 x) (hr : RowsP w (.slice qr roots.length c) 1 (roots.map wordC)) (hr64 : ∀ x ∈ roots, W64 x) (hrl : roots.length ≤ 1000) (hm : mayH ws R h roots = none) :
    Calls Tryz.prog 13 #[.pointer (some ⟨q, 0, none⟩), .agg #[.int .i64 h.base, .int .i64 h.half, .int .i64 h.space, .int .i64 h.top], .slice qr roots.length c] w (RCollSaid ws R q gq B0 n vR h roots w) := by
  have MAY := Lib.hid (fun W (e : Ext w W) => rmay_is (H.ext e) h hW (hr.ext e) hr64 (by omega))
  unfold RCollSaid
  rw [hm] at MAY ⊢
  dsimp only
  clear hW hr hr64 hm H
  go_enter Tryz.func13, Tryz.ntmps13
  go_wp2_with fail
  refine at_alloc2 fun W hE hS b0 b1 => ?_
  refine (MAY.out _ hE).mono ?_
  rintro e w1 ⟨rfl, hx1⟩
  rw [Option.isSome_none]
  have HX := Lib.hid (hE.trans hx1)
  have c1 := (Below.block hx1 (w.heap.size + 1) (by omega)).trans b1
  clear hE hS b0 b1 hx1
  have f0 := free_at c1 (i := 0)
  have f1 := free_at c1 (i := 1)
  have f2 := free_at c1 (i := 2)
  have f3 := free_at c1 (i := 3)
  have f4 := free_at c1 (i := 4)
  have f5 := free_at c1 (i := 5)
  obtain ⟨y0, y1, y2, y3, y4, y5⟩ := cells6 c1
  go_wp2
  refine post_gen (fun W => W.heap[w.heap.size + 1]? = some (.cells #[.int .i64 0, .int .i64 0, .int .i64 0, .int .i64 0, .slice none 0 0, .bool false] 43 (0, 0)) ∧ Turn [w.heap.size + 1] w1 W) ⟨(fill6 c1 _ _ _ _ _ _).1, (fill6 c1 _ _ _ _ _ _).2.1⟩ fun W6 hW6 => ?_
  obtain ⟨c6, hT6⟩ := hW6
  clear y0 y1 y2 y3 y4 y5
  obtain ⟨y0, y1, y2, y3, y4, y5⟩ := cells6 c6
  refine bodyPost_ret (v := .agg #[.int .i64 0, .int .i64 0, .int .i64 0, .int .i64 0, .slice none 0 0, .bool false]) (by simp [results, Tryz.results13, go_sem, y0, y1, y2, y3, y4, y5]) rfl ?_
  exact ⟨rfl, Turn.after HX.out hT6 (by intro b hb; rw [List.mem_singleton.1 hb]; omega)⟩
section
variable {W W' : World} {B B' : Nat} {vf vt vo vw : Value} {LF LT : List Int} {Lo : List Ob} {V : List Int} {rows : List (List Value)}
theorem MvR.mono (h : MvR W B vf vt vo vw LF LT Lo V rows) (hb : B' ≤ B) : MvR W B' vf vt vo vw LF LT Lo V rows :=
  ⟨h.f.mono hb, h.t.mono hb, h.o.mono hb, h.w.mono hb, h.ft, h.len, fun i o r ho hr => (by obtain ⟨q, c, h1, h2, h3⟩ := h.row i o r ho hr; exact ⟨q, c, h1, h2.mono hb, h3⟩), h.dis⟩
theorem own_lows {T : TypeId} {v : Value} {s : Nat} {l : List (List Value)} {g : Nat} (h : OwnP W B T v s l) (t : Turn [g] W W') (hg : g < B) : OwnP W' B T v s l := h.turn t fun b hb hm => by
  have := (h.own b hb).1
  rw [List.mem_singleton.1 hm] at this
  omega
theorem MvR.low (h : MvR W B vf vt vo vw LF LT Lo V rows) {g : Nat} (t : Turn [g] W W') (hg : g < B) : MvR W' B vf vt vo vw LF LT Lo V rows :=
  ⟨own_lows h.f t hg, own_lows h.t t hg, own_lows h.o t hg, own_lows h.w t hg, h.ft, h.len, fun i o r ho hr => (by obtain ⟨q, c, h1, h2, h3⟩ := h.row i o r ho hr; exact ⟨q, c, h1, own_lows h2 t hg, h3⟩), h.dis⟩
end
/-- the state within the reference's collection, behind its plan -/
structure Rc (w W : World) (q gq B0 n ba mb b4 b6 : Nat) (ws V : List Int) (vR : Value) (R : List (Nat × Nat)) (h : Hp) (vf vt vo vw out : Value) (LF LT : List Int) (Lo : List Ob) (VV : List Int) (rows : List (List Value)) (top : Nat) (ro : List Int) : Prop where
  a : RefAt W q gq B0 n (regW ws ba V) vR R
  m : Mr W w.heap.size mb vf vt vo vw LF LT Lo VV rows top h
  o : OwnP W w.heap.size 51 out 1 (ro.map wordC)
  h4 : W.heap[b4]? = some (.cells #[.int .i64 h.base, .int .i64 h.half, .int .i64 h.space, .int .i64 h.top] 24 (0, 0))
  h6 : W.heap[b6]? = some (.cells #[.int .i64 0, .int .i64 0, .int .i64 0, .int .i64 0, .slice none 0 0, .bool false] 43 (0, 0))
  t : Turn [gq] w W
  lt : gq < w.heap.size ∧ w.heap.size ≤ b4 ∧ w.heap.size ≤ b6
section
variable {w W W' : World} {q gq B0 n ba mb b4 b6 : Nat} {ws V V' : List Int} {vR : Value} {R : List (Nat × Nat)} {h : Hp} {vf vt vo vw out : Value} {LF LT : List Int} {Lo : List Ob} {VV : List Int} {rows : List (List Value)} {top : Nat} {ro : List Int}
theorem Rc.ext (k : Rc w W q gq B0 n ba mb b4 b6 ws V vR R h vf vt vo vw out LF LT Lo VV rows top ro) (e : Ext W W') : Rc w W' q gq B0 n ba mb b4 b6 ws V vR R h vf vt vo vw out LF LT Lo VV rows top ro :=
  ⟨k.a.ext e, k.m.ext e, k.o.ext e, (Below.block e _ (Array.getElem?_eq_some_iff.1 k.h4).1).trans k.h4, (Below.block e _ (Array.getElem?_eq_some_iff.1 k.h6).1).trans k.h6, k.t.trans (Turn.of_ext e), k.lt⟩
theorem Rc.set (k : Rc w W q gq B0 n ba mb b4 b6 ws V vR R h vf vt vo vw out LF LT Lo VV rows top ro) (a : RefAt W' q gq B0 n (regW ws ba V') vR R) (t : Turn [gq] W W') : Rc w W' q gq B0 n ba mb b4 b6 ws V' vR R h vf vt vo vw out LF LT Lo VV rows top ro := by
  obtain ⟨l1, l2, l3⟩ := k.lt
  have := k.m.ge
  exact ⟨a, ⟨k.m.m.low t l1, t.keep k.m.blk (by omega), k.m.ge⟩, own_lows k.o t l1, t.keep k.h4 (by omega), t.keep k.h6 (by omega), k.t.trans t, k.lt⟩
end
theorem cpB_all {H : Nat} {L : List Ob} {o : Ob} (hm : mayO o = true) : cpB H L o (wordsO o) = layL (L ++ [o]) ++ List.replicate (H - sizeL (L ++ [o])) 0 := by
  unfold cpB
  rw [layL_app, sizeL_app, List.take_of_length_le (by rw [layO_len hm]; exact Nat.le_refl _)]
  have e1 : layL [o] = layO o := by unfold layL; simp
  have e2 : sizeL [o] = wordsO o := by simp [sizeL]
  rw [e1, e2, List.append_assoc, Nat.sub_sub]
theorem cpB_none {H : Nat} {L : List Ob} {o : Ob} : cpB H L o 0 = layL L ++ List.replicate (H - sizeL L) 0 := by
  unfold cpB
  rw [List.take_zero, List.nil_append, Nat.sub_zero]
end Go.Proofs.YtinakendlpomnaaGreat
/- GcRoom: what Room answers, and the walk. -/
namespace Go.Proofs.YtinakendlpomnaaGreat
open Go Go.RowKit Go.Deep Go.Maps Arena
set_option maxHeartbeats 8000000
set_option maxRecDepth 100000
/-- live words are no more than those that are taken -/
theorem live_top {n : Nat} {ws : List Int} {R : List (Nat × Nat)} {h : Hp} {Hs : List (Nat × Ob)} (hg : Arena.Good n R) (hl : ws.length = n) (ha : allH ws R h = some Hs) (roots : List Int) : ((sizeF (liveF (firstN h) Hs roots) : Nat) : Int) ≤ h.top ∧ 0 ≤ h.top ∧ h.top ≤ h.half ∧ h.half ≤ 2000 := by
  obtain ⟨ht, hS⟩ := allH_there ha
  obtain ⟨ho, _⟩ := allS_some hS
  obtain ⟨⟨a1, a2, a3, a4, a5, a6⟩, _⟩ := thereB_ok ht
  obtain ⟨h1, h2, h3⟩ := objs_apart ho
  have hsl := semi_len hg hl ht
  have := (FinF.live (firstN h) Hs roots).size.1
  omega
/-- what Room answers, of a heap that may be -/
theorem room_says {w : World} {p g bm n : Nat} {ws : List Int} {R : List (Nat × Nat)} (H : ArenaAt w p g bm n ws R) {h : Hp} (hw : (Lit.int .i64 h.base).wf = true) (hW : ∀ x ∈ ws, W64 x) {q : Option Addr} {c : Nat} {roots : List Int} (hr : RowStay w g (.slice q roots.length c) (roots.map wordC)) (hr64 : ∀ x ∈ roots, W64 x) (hrl : roots.length ≤ 100000) {k : Int} (hk : 0 ≤ k) {Hs : List (Nat × Ob)} (hm : mayH ws R h roots = some Hs) {lv : Nat} (hlv : lv = sizeF (liveF (firstN h) Hs roots)) :
    Calls Tryz.prog 15 #[.pointer (some ⟨p, 0, none⟩), .agg #[.int .i64 h.base, .int .i64 h.half, .int .i64 h.space, .int .i64 h.top], .slice q roots.length c, .int .i64 k] w fun e w' => ∃ q c b sp tp x, e = .returned (.tuple #[.agg #[.int .i64 b, .int .i64 h.half, .int .i64 sp, .int .i64 tp], .slice q roots.length c, .bool x]) ∧ x = decide ((lv : Int) + k ≤ h.half) ∧ (x = true → k ≤ h.half - tp) ∧ (lv : Int) ≤ tp ∧ tp ≤ 2000 ∧ Turn [g] w w' := by
  refine (room_is H h hw hW hr hr64 hrl k).mono fun e w' he => ?_
  obtain ⟨ha, _⟩ := mayH_some hm
  have hT := live_top H.good H.len ha roots
  unfold RoomSaid at he
  rw [if_neg (by omega), hm] at he
  dsimp only at he
  rw [← hlv] at he hT
  split at he
  · rename_i hf
    obtain ⟨q, c, rfl, _, hx⟩ := he
    refine ⟨q, c, h.base, h.space, h.top, true, rfl, (decide_eq_true (by omega)).symm, fun _ => hf, hT.1, by omega, Turn.of_ext hx⟩
  · obtain ⟨q, c, rfl, _, _, ht⟩ := he
    refine ⟨q, c, h.base, 1 - h.space, (lv : Int), decide (k ≤ h.half - (lv : Int)), ?_, ?_, fun hx => of_decide_eq_true hx, Int.le_refl _, by omega, ht⟩
    · unfold hpV collH
      rw [← hlv]
    · rw [decide_eq_decide]
      omega
theorem room_walk {w : World} {v vr : Value} {l roots : List Int} {h0 : Hp} (hv : WdsP w v l) (_hh : HpWf h0) (hr : WdsP w vr roots) {k : Int} (hk0 : 0 ≤ k) (hk1 : k ≤ 255) : Calls Tryz.prog 4 #[.agg #[v, .int .i64 h0.base, .int .i64 h0.half, .int .i64 h0.space, .int .i64 h0.top], vr, .int .u8 k] w (TrueExt w) := by
  have HV := Lib.hid hv; have HR := Lib.hid hr
  obtain ⟨qv, cv, rfl, hv1, hv2, -⟩ := hv.1.at
  obtain ⟨qr, cr, rfl, hr1, hr2, -⟩ := hr.1.at
  rw [List.length_map] at hv1 hr1 HV HR ⊢
  rw [List.length_map]
  unfold maxLen at hv2 hr2
  clear hv hr
  by_cases hbig : 400 < l.length ∨ 20 < roots.length
  · have LG := Lib.hid (fun W (e : Ext w W) => large_flat4 (a := h0.base) (b := h0.half) (c := h0.space) (d := h0.top) (WordSl.of_rows (HV.out.1.ext e)))
    obtain ⟨lb, hlb⟩ : ∃ lb, lb = decide (400 < l.length) := ⟨_, rfl⟩
    rw [← hlb] at LG
    have HLB := Lib.hid hlb
    have HBG := Lib.hid hbig
    clear hlb hbig
    go_enter Tryz.func4, Tryz.ntmps4
    go_wp2_with fail
    refine at_alloc1 fun W hE hS b0 => ?_
    refine (LG.out W hE).mono ?_
    rintro e w1 ⟨rfl, hx1⟩
    have HX1 := Lib.hid (hE.trans hx1)
    clear hE hS b0 hx1 LG
    have fin : ∀ w1, Ext w w1 → ∀ (e : Ending) (w2 : World), e = .returned (.bool true) ∧ Ext w1 w2 → e = .returned (.bool true) ∧ Ext w w2 := fun w1 h e w2 ⟨h1, h2⟩ => ⟨h1, h.trans h2⟩
    cases lb with
    | true =>
      go_wp2_with fail
      refine (wakes4 _).mono ?_
      rintro e w2 ⟨rfl, hx2⟩
      have HX2 := Lib.hid (HX1.out.trans hx2)
      clear hx2
      go_wp2
      go_ret
      exact ⟨rfl, HX2.out⟩
    | false =>
      have hr20 : 20 < roots.length := by
        have h1 := of_decide_eq_false HLB.out.symm
        rcases HBG.out with h | h
        · exact absurd h h1
        · exact h
      have d1 : (20 : Int) < (roots.length : Int) := by omega
      go_wp2_with fail
      refine (wakes4 _).mono ?_
      rintro e w2 ⟨rfl, hx2⟩
      have HX2 := Lib.hid (HX1.out.trans hx2)
      clear hx2
      go_wp2
      go_ret
      exact ⟨rfl, HX2.out⟩
  · have hl4 : l.length ≤ 400 := by omega
    have hr20 : roots.length ≤ 20 := by omega
    have d0 : decide (400 < l.length) = false := decide_eq_false (by omega)
    have d1 : decide ((20 : Int) < (roots.length : Int)) = false := decide_eq_false (by omega)
    have LG := Lib.hid (fun W (e : Ext w W) => large_flat4 (a := h0.base) (b := h0.half) (c := h0.space) (d := h0.top) (WordSl.of_rows (HV.out.1.ext e)))
    rw [d0] at LG
    clear hbig d0
    go_enter Tryz.func4, Tryz.ntmps4
    go_wp2_with fail
    refine at_alloc1 fun W hE hS b0 => ?_
    refine (LG.out W hE).mono ?_
    rintro e w1 ⟨rfl, hx1⟩
    have HX1 := Lib.hid (hE.trans hx1)
    have B1 := Lib.hid ((Below.block hx1 w.heap.size (by omega)).trans b0)
    clear hE hS b0 hx1 LG
    obtain ⟨z0, z1, z2, z3, z4⟩ := cells5 B1.out
    go_wp2_with fail
    refine (lay_words (WordSl.of_rows (HV.out.1.ext HX1.out)) (by omega)).mono ?_
    rintro e w2 ⟨p, g, bm, q, gq, B, rfl, hB⟩
    have HB := Lib.hid hB
    have B2 := Lib.hid ((Below.block hB.ext w.heap.size (Array.getElem?_eq_some_iff.1 B1.out).1).trans B1.out)
    clear hB B1 z0 z1 z2 z3 z4
    obtain ⟨z0, z1, z2, z3, z4⟩ := cells5 B2.out
    have n0 := (Array.getElem?_eq_some_iff.1 B2.out).1
    go_upto_region 7 with fail
    refine wp_alloc2 fun W4 hE4 hS4 b2 b3 => ?_
    obtain ⟨vR, hR3⟩ := HB.out.r
    have hgw : w.heap.size ≤ g := by have := HB.out.ge.2.1; have := HX1.out.size; omega
    have hX2 : Ext w w2 := HX1.out.trans HB.out.ext
    have hx2s := Below.size hX2
    have K0 := Lib.hid (show Wk w2 W4 p g bm w2.heap.size (w2.heap.size + 1) q (l.length + 10) (rigW l l.length) (rigR (max 1 l.length)) h0 from ⟨HB.out.a.ext hE4, Turn.of_ext hE4, b2, b3, by have := HB.out.a.lt; omega, by have := HB.out.a.lt; omega, by have := HB.out.a.lt; omega, by omega⟩)
    have RF := Lib.hid (hR3.ext hE4)
    have RF0 := Lib.hid hR3
    have HX2 := Lib.hid hX2
    have hsm : ∀ x ∈ rigW l l.length, W64 x := rigW_mem HV.out.2 l.length
    have HSM := Lib.hid hsm
    have hBs := HB.out.size
    clear hE4 hS4 b2 b3 z0 z1 z2 z3 z4 n0 hR3 hsm HB hX2 B2 HX1
    have HT0 := Lib.hid (Nat.le_refl w2.heap.size)
    generalize hg0 : w2.heap.size = t0 at K0 hx2s hBs ⊢
    have HT0 := Lib.hid hg0
    clear hg0
    generalize hg1 : t0 + 1 = t1 at K0 ⊢
    have HT1 := Lib.hid hg1
    clear hg1
    obtain ⟨x0, x1⟩ := cells2 K0.out.two
    obtain ⟨y0, y1, y2, y3⟩ := cells4 K0.out.hp
    have f0 := free_at K0.out.hp (i := 0)
    go_upto_region 8 with fail
    refine wp_fill1 K0.out.hp fun W5 h5 hT5 hS5 => ?_
    have K1 := Lib.hid (K0.out.fill (h' := ⟨3, h0.half, h0.space, h0.top⟩) h5 hT5)
    have RF1 := Lib.hid (RF.out.turn_new RF0.out hT5 (fun b hb => by rw [List.mem_singleton.1 hb]; have := HT0.out; have := HT1.out; omega))
    have HX5 := Lib.hid (show Ext w W5 from Turn.after HX2.out K1.out.t (fun b hb => by have := HT0.out; have := HT1.out; simp only [List.mem_cons, List.not_mem_nil, or_false] at hb; rcases hb with rfl | rfl <;> omega))
    clear hS5 h5 hT5 K0 RF RF0 x0 x1 y0 y1 y2 y3 f0
    obtain ⟨h, hh3⟩ : ∃ h : Hp, h = ⟨3, h0.half, h0.space, h0.top⟩ := ⟨_, rfl⟩
    have MAY := Lib.hid (rmay_is RF1.out h HSM.out (HR.out.1.ext HX5.out) HR.out.2 (by omega))
    rw [hh3] at MAY
    obtain ⟨x0, x1⟩ := cells2 K1.out.two
    obtain ⟨y0, y1, y2, y3⟩ := cells4 K1.out.hp
    go_wp2_with fail
    refine MAY.out.mono ?_
    rintro e w6 ⟨rfl, hx6⟩
    have K2 := Lib.hid (K1.out.ext hx6)
    have HX6 := Lib.hid (HX5.out.trans hx6)
    have RF6 := Lib.hid (RF1.out.ext hx6)
    clear hx6 x0 x1 y0 y1 y2 y3 K1 RF1 MAY HX5
    rw [← hh3]
    cases hm : mayH (rigW l l.length) (rigR (max 1 l.length)) h roots with
    | none =>
      rw [Option.isSome_none]
      clear hm hh3 RF6
      go_wp2_with fail
      refine (wakes4 _).mono ?_
      rintro e w7 ⟨rfl, hx7⟩
      have HX7 := Lib.hid (HX6.out.trans hx7)
      clear hx7
      go_wp2
      go_ret
      exact ⟨rfl, HX7.out⟩
    | some Hs =>
      rw [Option.isSome_some]
      obtain ⟨lv, hlv⟩ : ∃ lv, lv = sizeF (liveF (firstN h) Hs roots) := ⟨_, rfl⟩
      have LIVE := Lib.hid (rlive_yes RF6.out h HSM.out (HR.out.1.ext HX6.out) HR.out.2 (by omega) hm)
      rw [← hlv] at LIVE
      have hT := live_top K2.out.a.good K2.out.a.len (mayH_some hm).1 roots
      rw [← hlv] at hT
      have hstay : ∀ W, Ext w6 W → RowStay W g (.slice qr roots.length cr) (roots.map wordC) := fun W e V tV => HR.out.1.ext (Turn.after (HX6.out.trans e) tV (fun b hb => by rw [List.mem_singleton.1 hb]; exact hgw))
      have ROOM := Lib.hid (fun W (e : Ext w6 W) => room_says (K2.out.a.ext e) (by rw [hh3]; show (Lit.int .i64 3).wf = true; decide) HSM.out (hstay W e) HR.out.2 (by omega) hk0 hm hlv)
      have hhf : h.half = h0.half := by rw [hh3]
      rw [hh3] at LIVE ROOM
      dsimp only at LIVE ROOM
      obtain ⟨t1a, t2a, t3a, t4a⟩ := hT
      rw [hhf] at t3a t4a
      have HLV := Lib.hid (show (lv : Int) ≤ 2000 by omega)
      clear hm hh3 hlv hstay RF6 t1a t2a t3a hhf
      obtain ⟨x0, x1⟩ := cells2 K2.out.two
      obtain ⟨y0, y1, y2, y3⟩ := cells4 K2.out.hp
      go_wp2_with fail
      refine LIVE.out.mono ?_
      rintro e w7 ⟨rfl, hx7⟩
      have K3 := Lib.hid (K2.out.ext hx7)
      have HX7 := Lib.hid hx7
      clear hx7 K2 LIVE x0 x1 y0 y1 y2 y3
      obtain ⟨x0, x1⟩ := cells2 K3.out.two
      obtain ⟨y0, y1, y2, y3⟩ := cells4 K3.out.hp
      have wrk : IntKind.i64.wrap k = k := IntWalk.i64_in _ (by omega)
      go_wp2_with fail
      refine (ROOM.out _ HX7.out).mono ?_
      rintro e w8 ⟨q8, c8, b8, sp8, tp8, x8, rfl, hx8, hk8, hl8, hl82, hT8⟩
      have HP8 := Lib.hid (hT8.keep K3.out.hp (by have := K3.out.lt; omega))
      have HT8 := Lib.hid hT8
      have HT9 := Lib.hid K3.out.t
      clear ROOM x0 x1 y0 y1 y2 y3 hT8 K3
      go_upto_region 12 with fail
      refine wp_alloc1 fun W9 x9 _ b9 => ?_
      have HP9 := Lib.hid ((Below.block x9 _ (Array.getElem?_eq_some_iff.1 HP8.out).1).trans HP8.out)
      have HX9 := Lib.hid x9
      have B9 := Lib.hid b9
      clear x9 b9 HP8
      obtain ⟨b12, hb12⟩ : ∃ b12, b12 = w8.heap.size := ⟨_, rfl⟩
      rw [← hb12] at B9 ⊢
      clear hb12
      have hwb : -3000 ≤ h0.half - tp8 ∨ x8 = false := by
        cases x8 with
        | false => exact .inr rfl
        | true => have := hk8 rfl; exact .inl (by omega)
      have HLE := Lib.hid hl8
      obtain ⟨y0, y1, y2, y3⟩ := cells4 HP9.out
      obtain ⟨z0, z1, z2, z3⟩ := cells4 B9.out
      have HLV2 := HLV.out
      have wr1 : IntKind.i64.wrap ((lv : Int) + k) = (lv : Int) + k := IntWalk.i64_in _ (by omega)
      clear HLV2
      cases x8 with
      | true =>
        have d2 : decide ((lv : Int) + k ≤ h0.half) = true := hx8.symm
        have d3 : decide (k ≤ h0.half - tp8) = true := decide_eq_true (hk8 rfl)
        have wr2 : IntKind.i64.wrap (h0.half - tp8) = h0.half - tp8 := IntWalk.i64_in _ (by rcases hwb with h | h; omega; cases h)
        have d4 : decide ((lv : Int) ≤ tp8) = true := decide_eq_true HLE.out
        clear hx8 hk8 hwb hl8 hl82
        go_wp2_with fail
        refine (wakes4 _).mono ?_
        rintro e w10 ⟨rfl, hx10⟩
        have HX10 := Lib.hid hx10
        clear hx10
        go_wp2
        go_ret
        refine ⟨rfl, Turn.after HX2.out ((HT9.out.trans (HT8.out.mono (by simp))).trans (Turn.of_ext (HX9.out.trans HX10.out))) (fun b hb => ?_)⟩
        have h2 := HT0.out
        have h3 := HT1.out
        simp only [List.mem_cons, List.not_mem_nil, or_false] at hb
        rcases hb with rfl | rfl <;> omega
      | false =>
        have d2 : decide ((lv : Int) + k ≤ h0.half) = false := hx8.symm
        have d4 : decide ((lv : Int) ≤ tp8) = true := decide_eq_true HLE.out
        clear hx8 hk8 hwb hl8 hl82
        go_wp2_with fail
        refine (wakes4 _).mono ?_
        rintro e w10 ⟨rfl, hx10⟩
        have HX10 := Lib.hid hx10
        clear hx10
        go_wp2
        go_ret
        refine ⟨rfl, Turn.after HX2.out ((HT9.out.trans (HT8.out.mono (by simp))).trans (Turn.of_ext (HX9.out.trans HX10.out))) (fun b hb => ?_)⟩
        have h2 := HT0.out
        have h3 := HT1.out
        simp only [List.mem_cons, List.not_mem_nil, or_false] at hb
        rcases hb with rfl | rfl <;> omega
end Go.Proofs.YtinakendlpomnaaGreat
/- GcRoom: the walk, as the row's reading hands it. -/
namespace Go.Proofs.YtinakendlpomnaaGreat
open Go Go.RowKit Go.Maps Arena
theorem room_walk' {w : World} {v vr : Value} {x : RawI} {l : List Int} {k : Int} (h : v = .agg (rawC x).toArray ∧ RawP w x) (hr : WdsP w vr l) (hk : (Lit.int .u8 k).wf = true) : Calls Tryz.prog 4 #[v, vr, .int .u8 k] w (TrueExt w) := by
  obtain ⟨rfl, hp⟩ := h
  have h1 : IntKind.u8.min ≤ k ∧ k ≤ IntKind.u8.max := by simpa [Lit.wf] using hk
  have e1 : IntKind.u8.min = 0 := by decide
  have e2 : IntKind.u8.max = 255 := by decide
  exact room_walk hp.p hp.h hr (by omega) (by omega)
end Go.Proofs.YtinakendlpomnaaGreat
