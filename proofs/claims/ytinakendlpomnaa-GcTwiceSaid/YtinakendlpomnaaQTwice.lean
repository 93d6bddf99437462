/- Proved here: the contracts and laws of GcM, GcV, RowIn, ObjIn, GcN, GcO of this claim, each beneath its own remark; conditions: those that each theorem names. -/
import Derived.Test.YtinakendlpomnaaM9
import Derived.Test.YtinakendlpomnaaM6
import Derived.Test.YtinakendlpomnaaM7
import Derived.Test.YtinakendlpomnaaM3
import Derived.Test.YtinakendlpomnaaM1
/- The reference's May. -/
namespace Go.Proofs.Ytinakendlpomnaa
open Go.RowKit Go.Maps Arena
set_option maxHeartbeats 4000000
set_option maxRecDepth 100000
theorem rmay_is {w : World} {q gq B n : Nat} {ws : List Int} {vR : Value} {R : List (Nat × Nat)} (H : RefAt w q gq B n ws vR R) (h : Hp) (hW : ∀ x ∈ ws, W64 x) {qr : Option Addr} {c : Nat} {roots : List Int} (hr : RowsP w (.slice qr roots.length c) 1 (roots.map wordC)) (hr64 : ∀ x ∈ roots, W64 x) (hrl : roots.length ≤ 100000) :
    Calls Try.prog 9 #[.pointer (some ⟨q, 0, none⟩), .agg #[.int .i64 h.base, .int .i64 h.half, .int .i64 h.space, .int .i64 h.top], .slice qr roots.length c] w fun e w' => e = .returned (.bool (mayH ws R h roots).isSome) ∧ Ext w w' := by
  have HA := Lib.hid (fun W (e : Ext w W) => rall_is (H.ext e) h hW)
  have hpl : ∀ L, allH ws R h = some L → L.length ≤ 100000 := by
    intro L hL
    obtain ⟨ht, _⟩ := allH_there hL
    have h1 := allH_ok H.good H.len hL
    have h2 := sizeF_ge L
    have h3 := h1.size
    obtain ⟨⟨a1, a2, _⟩, _⟩ := thereB_ok ht
    omega
  have HR := Lib.hid hr; have HR64 := Lib.hid hr64
  cases hall : allH ws R h with
  | none =>
    rw [hall] at HA
    have hm : (mayH ws R h roots).isSome = false := by unfold mayH; rw [hall]; rfl
    rw [hm]
    clear H hW hr hr64 hpl hall hm
    go_enter Try.func9, Try.ntmps9
    go_wp2_with fail
    refine at_alloc1 fun W hE hS b0 => ?_
    refine (HA.out W hE).mono ?_
    rintro e w1 ⟨rfl, hx1⟩
    have HX := Lib.hid (hE.trans hx1)
    clear hE hS b0 hx1
    unfold zeroPV
    go_upto_region 2 with fail
    refine wp_alloc1 fun W2 hE2 hS2 b2 => ?_
    have HX2 := Lib.hid (HX.out.trans hE2)
    obtain ⟨z0, z1⟩ := cells2 b2
    clear hE2 hS2
    generalize w1.heap.size = bp at *
    go_wp2_with fail
    go_loopw [8] (fun i wr => i = .int .i64 0 ∧ wr = W2) (fun _ _ => 0)
    case atStart => exact ⟨rfl, rfl⟩
    case round =>
      obtain ⟨rfl, rfl⟩ := hrel
      by_cases h0 : 0 < roots.length
      · have i1 : (0 : Int) < (roots.length : Int) := by omega
        go_wp2_with fail
        go_ret
        exact ⟨rfl, HX2.out⟩
      · have i1 : ¬ (0 : Int) < (roots.length : Int) := by omega
        go_wp2_with fail
        go_ret
        exact ⟨rfl, HX2.out⟩
  | some L =>
    rw [hall] at HA
    have hLl := hpl L hall
    have hm : (mayH ws R h roots).isSome = roots.all (fieldOK (L.map (·.1)) (firstN h)) := by
      unfold mayH
      rw [hall]
      simp only
      split <;> simp_all
    rw [hm]
    generalize firstN h = first at *
    clear H hW hr hr64 hpl hall hm
    go_enter Try.func9, Try.ntmps9
    go_wp2_with fail
    refine at_alloc1 fun W hE hS b0 => ?_
    refine (HA.out W hE).mono ?_
    rintro e w1 ⟨q2, c2, rfl, ho, hx1⟩
    have HX := Lib.hid (hE.trans hx1)
    have HO := Lib.hid ho.p
    clear hE hS b0 hx1 ho
    go_upto_region 2 with fail
    refine wp_alloc1 fun W2 hE2 hS2 b2 => ?_
    have HX2 := Lib.hid (HX.out.trans hE2)
    have HO2 := Lib.hid (HO.out.ext hE2)
    have HB2 := Lib.hid b2
    clear hE2 hS2 b2 HO HX
    generalize w1.heap.size = bp at *
    obtain ⟨z0, z1⟩ := cells2 HB2.out
    go_wp2_with fail
    go_loopw [8] (fun i wr => ∃ k : Nat, k ≤ roots.length ∧ i = .int .i64 k ∧ Hid ((roots.take k).all (fieldOK (L.map (·.1)) first) = true) ∧ Ext W2 wr) (fun i _ => roots.length - (Go.RowKit.intOf i).toNat)
    case atStart => exact ⟨0, Nat.zero_le _, rfl, Lib.hid rfl, by first | exact Ext.refl _ | exact Ext.drew _⟩
    case round =>
      obtain ⟨k, hk, rfl, HFA, hxk⟩ := hrel
      have HXK := Lib.hid hxk
      clear hxk z0 z1
      obtain ⟨z0, z1⟩ := cells2 ((Below.block HXK.out bp (Array.getElem?_eq_some_iff.1 HB2.out).1).trans HB2.out)
      by_cases hlt : k < roots.length
      · obtain ⟨x, hx⟩ : ∃ x, roots[k]? = some x := ⟨_, List.getElem?_eq_getElem hlt⟩
        have hx64 := HR64.out x (List.mem_of_getElem? hx)
        obtain ⟨q3, c3, hv3, _, _, hcell⟩ := ((HR.out.ext HX2.out).ext HXK.out).at
        rw [List.length_map] at hv3
        obtain ⟨rfl, -, rfl⟩ := Value.slice.inj hv3
        obtain ⟨bb, off, rfl, hcc⟩ := hcell k (wordC x) (by rw [List.getElem?_map, hx]; rfl)
        have hcx := hcc 0 _ rfl
        rw [Nat.add_zero, Nat.mul_one] at hcx
        have IS := Lib.hid (fun W (e : Ext W2 W) => ris_is (ok := true) hx64 W (HO2.out.ext e) hLl)
        have hnext : fieldOK (L.map (·.1)) first x = true → (roots.take (k + 1)).all (fieldOK (L.map (·.1)) first) = true := by
          intro hf
          obtain ⟨h1, rfl⟩ := List.getElem?_eq_some_iff.1 hx
          rw [List.take_succ_eq_append_getElem h1, List.all_append, HFA.out]
          simp [hf]
        have hbad : fieldOK (L.map (·.1)) first x = false → roots.all (fieldOK (L.map (·.1)) first) = false := by
          intro hf
          rw [List.all_eq_false]
          exact ⟨x, List.mem_of_getElem? hx, by rw [hf]; simp⟩
        obtain ⟨fo, hfo⟩ : ∃ fo, fo = fieldOK (L.map (·.1)) first x := ⟨_, rfl⟩
        rw [← hfo] at IS hnext hbad
        have HNX := Lib.hid hnext; have HBD := Lib.hid hbad
        clear hnext hbad hfo hx hcc hcell hv3 hx64
        go_upto_region 5 with fail
        refine wp_region_noPanic ?_
        refine wp_region_last 6 (S := (fun w' => w'.cell? ⟨bp, 0, none⟩ = some (.slice q2 L.length c2) ∧ w'.cell? ⟨bp, 1, none⟩ = some (.bool true) ∧ w'.cell? ⟨bb, off + k, none⟩ = some (.int .u64 x))) (by kernel_rfl) (by kernel_rfl) _ rfl ?_ (fun hHeld => ?_)
        · (first | with_reducible exact ⟨(Ext.drew _).cell z0, (Ext.drew _).cell z1, (Ext.drew _).cell hcx⟩ | with_reducible exact ⟨hx9'.cell z0, hx9'.cell z1, hx9'.cell hcx⟩)
        simp only [List.take_succ_cons, List.take_zero]
        refine wpAnyH_take (i := 0) (v := ?v1) rfl (by kernel_rfl) (by kernel_rfl) (by kernel_rfl) (fun _ _ _ h => h) (Or.inl ⟨by rfl, ?y1⟩) (by assumption) ?r1
        case y1 => intro w hSw; (try dsimp only at hSw); go_simp; (try with_reducible rfl)
        (try simp only [Act.put, List.setIfInBounds_toArray, List.set_cons_zero, List.set_cons_succ, List.getElem_toArray, List.getElem_cons_zero, List.getElem_cons_succ])
        refine wpAnyH_take (i := 1) (v := ?v2) rfl (by kernel_rfl) (by kernel_rfl) (by kernel_rfl) (fun _ _ _ h => h) (Or.inl ⟨by rfl, ?y2⟩) (by assumption) ?r2
        case y2 => intro w hSw; (try dsimp only at hSw); go_simp; (try with_reducible rfl)
        (try simp only [Act.put, List.setIfInBounds_toArray, List.set_cons_zero, List.set_cons_succ, List.getElem_toArray, List.getElem_cons_zero, List.getElem_cons_succ])
        refine wpAnyH_take (i := 2) (v := ?v3) rfl (by kernel_rfl) (by kernel_rfl) (by kernel_rfl) (fun _ _ _ h => h) (Or.inl ⟨by rfl, ?y3⟩) (by assumption) ?r3
        case y3 => intro w hSw; (try dsimp only at hSw); go_simp; (try with_reducible rfl)
        (try simp only [Act.put, List.setIfInBounds_toArray, List.set_cons_zero, List.set_cons_succ, List.getElem_toArray, List.getElem_cons_zero, List.getElem_cons_succ])
        refine wpAnyH_take (i := 3) (v := ?v4) rfl (by kernel_rfl) (by kernel_rfl) (by kernel_rfl) (fun _ _ _ h => h) (Or.inl ⟨by rfl, ?y4⟩) (by assumption) ?r4
        case y4 => intro w hSw; (try dsimp only at hSw); go_simp; (try with_reducible rfl)
        (try simp only [Act.put, List.setIfInBounds_toArray, List.set_cons_zero, List.set_cons_succ, List.getElem_toArray, List.getElem_cons_zero, List.getElem_cons_succ])
        refine wpAnyH_take (i := 4) (v := ?v5) rfl (by kernel_rfl) (by kernel_rfl) (by kernel_rfl) (fun _ _ _ h => h) (Or.inl ⟨by rfl, ?y5⟩) (by assumption) ?r5
        case y5 => intro w hSw; (try dsimp only at hSw); go_simp; (try with_reducible rfl)
        (try simp only [Act.put, List.setIfInBounds_toArray, List.set_cons_zero, List.set_cons_succ, List.getElem_toArray, List.getElem_cons_zero, List.getElem_cons_succ])
        refine wpAnyH_ready (rs := [5]) (by kernel_rfl) (by simp) ?_
        refine AllReadyH.cons rfl (fun K hK => ?_) AllReadyH.nil
        go_simp
        refine (IS.out _ (HXK.out.trans (Ext.drew _))).mono ?_
        rintro e w9 ⟨rfl, hx9⟩
        have hx9' : Ext wr w9 := (Ext.drew wr).trans hx9
        refine hK.out _ _ ?s6 (fun hHeld => ?k6)
        case s6 => ((try dsimp only); (first | with_reducible exact ⟨(Ext.drew _).cell z0, (Ext.drew _).cell z1, (Ext.drew _).cell hcx⟩ | with_reducible exact ⟨hx9'.cell z0, hx9'.cell z1, hx9'.cell hcx⟩))
        clear hK K
        (try simp only [Act.put, List.setIfInBounds_toArray, List.set_cons_zero, List.set_cons_succ, List.getElem_toArray, List.getElem_cons_zero, List.getElem_cons_succ])
        refine wpAnyH_done (by kernel_rfl) ?_ _
        show wpList _ _ _ _ _ _
        have HX9 := Lib.hid (HXK.out.trans hx9')
        clear hx9 hx9' hHeld
        cases fo with
        | true =>
          go_wp2
          refine NoPanic.normal ?_
          go_wp2
          exact ⟨⟨k + 1, by omega, by go_num, Lib.hid (HNX.out (by first | rfl | trivial)), HX9.out⟩, by simp [Go.RowKit.intOf]; omega⟩
        | false =>
          go_wp2
          refine NoPanic.normal ?_
          go_wp2
          go_ret
          rw [HBD.out (by first | rfl | trivial)]
          exact ⟨rfl, HX2.out.trans HX9.out⟩
      · obtain rfl : k = roots.length := by omega
        go_wp2_with fail
        go_ret
        have := HFA.out
        rw [List.take_length] at this
        rw [this]
        exact ⟨rfl, HX2.out.trans HXK.out⟩
end Go.Proofs.Ytinakendlpomnaa
/- Three collections are one; the live words, the roots. Plain. -/
namespace Go.Proofs.Ytinakendlpomnaa
open Go.RowKit Go.Maps Arena
set_option maxRecDepth 100000
theorem phi_sizes (f : Int → Int) (Fin : List (Nat × Ob)) (G : List (Nat × Ob)) : sizeF (G.map (phi f Fin)) = sizeF G := by
  induction G with
  | nil => rfl
  | cons y G ih =>
    simp only [List.map_cons, sizeF]
    rw [ih]
    unfold phi
    rw [mapO_words]
theorem newHs_size (o0 o1 : Nat) (F : List (Nat × Ob)) : sizeF (newHs o0 o1 F) = sizeF F := phi_sizes _ _ _
section
variable {o0 o1 H : Nat} {Hs F : List (Nat × Ob)}
/-- behind a collection a collection may be, and leans on the same -/
theorem Gc.next (g : Gc o0 o1 H Hs F) : Gc o1 o0 H (newHs o0 o1 F) (newHs o0 o1 F) := by
  have hpl : ∀ y ∈ F, offF F y.1 + wordsO y.2 ≤ sizeF F := fun y hy => by
    obtain ⟨i, hi, rfl⟩ := List.getElem_of_mem hy
    rw [offF_at g.fin (List.getElem?_eq_getElem hi)]
    have e5 : sizeF F = sizeF (F.take i) + sizeF (F.drop i) := by rw [← sizeF_app, List.take_append_drop]
    rw [List.drop_eq_getElem_cons hi] at e5
    simp only [sizeF] at e5
    omega
  have hap : (newHs o0 o1 F).Pairwise fun a b => a.1 + wordsO a.2 ≤ b.1 := by
    refine List.pairwise_iff_getElem.2 fun i j hi hj hij => ?_
    have e : ∀ i (hi : i < F.length) (hi' : i < (newHs o0 o1 F).length), (newHs o0 o1 F)[i] = phi (newW o0 o1 F) F F[i] := fun i hi hi' => List.getElem_map ..
    have hi2 := hi
    have hj2 := hj
    rw [newHs_len] at hi2 hj2
    rw [e i hi2, e j hj2]
    have hi := hi2
    have hj := hj2
    show offF F (F[i]).1 + wordsO (mapO _ (F[i]).2) ≤ offF F (F[j]).1
    rw [mapO_words, offF_at g.fin (List.getElem?_eq_getElem hi), offF_at g.fin (List.getElem?_eq_getElem hj)]
    have e5 : sizeF (F.take j) = sizeF (F.take (i + 1)) + sizeF ((F.take j).drop (i + 1)) := by
      rw [← sizeF_app]
      congr 1
      conv => lhs; rw [← List.take_append_drop (i + 1) (F.take j)]
      rw [List.take_take, Nat.min_eq_left (by omega)]
    rw [List.take_succ_eq_append_getElem hi, sizeF_app] at e5
    simp only [sizeF] at e5
    omega
  have hsz := g.size
  have hfix : ∀ y ∈ F, ∀ x ∈ y.2.fields, W64 x ∧ fieldOK (Hs.map (·.1)) o0 x = true ∧ ClosedAt o0 Hs F x := fun y hy x hx => ⟨(g.ok y (g.fin.sub y hy) x hx).1, (g.ok y (g.fin.sub y hy) x hx).2, g.cl y hy x hx⟩
  refine ⟨⟨hap, fun z hz => ?_, fun z hz => ?_, by rw [newHs_size]; exact hsz⟩, ⟨fun y hy => hy, hap.imp fun {a b} h => by have := wordsO_pos a.2; omega⟩, fun z hz v hv u hu => ?_, fun z hz v hv => ?_, g.small.2, g.small.1⟩
  · obtain ⟨y, hy, rfl⟩ := List.mem_map.1 hz
    have := hpl y hy
    unfold phi
    rw [mapO_words]
    dsimp only
    omega
  · obtain ⟨y, hy, rfl⟩ := List.mem_map.1 hz
    unfold phi
    rw [mapO_may]
    exact g.hs.may y (g.fin.sub y hy)
  · exact inF_true.2 ⟨u, (getL_some hu).1, rfl⟩
  · obtain ⟨y, hy, rfl⟩ := List.mem_map.1 hz
    obtain ⟨x, hx, rfl⟩ := List.mem_map.1 hv
    obtain ⟨h1, h2, h3⟩ := hfix y hy x hx
    refine ⟨(g.newInt h1 h2 h3).2, ?_⟩
    rcases ok_cases h2 h1 with hi | ⟨u, hu⟩
    · rw [newW_int hi]; unfold fieldOK; rw [hi]; rfl
    · have huF := g.mem hu h3
      obtain ⟨e1, e2, e3⟩ := g.new_of hu huF
      have e4 := offF_lt huF
      have := g.small
      unfold fieldOK
      rw [e1]
      simp only [Bool.or_eq_true, Bool.and_eq_true, decide_eq_true_eq, List.any_eq_true]
      exact .inr ⟨by omega, offF F u.1, List.mem_map.2 ⟨_, List.mem_map.2 ⟨u, huF, rfl⟩, rfl⟩, by omega⟩
/-- a good word, of what is moved -/
def Wd (o0 : Nat) (Hs F : List (Nat × Ob)) (x : Int) : Prop := W64 x ∧ fieldOK (Hs.map (·.1)) o0 x = true ∧ ClosedAt o0 Hs F x
theorem Gc.wd (g : Gc o0 o1 H Hs F) {x : Int} (h : Wd o0 Hs F x) : Wd o1 (newHs o0 o1 F) (newHs o0 o1 F) (newW o0 o1 F x) := by
  obtain ⟨h1, h2, h3⟩ := h
  refine ⟨(g.newInt h1 h2 h3).2, ?_, fun u hu => inF_true.2 ⟨u, (getL_some hu).1, rfl⟩⟩
  rcases ok_cases h2 h1 with hi | ⟨u, hu⟩
  · rw [newW_int hi]; unfold fieldOK; rw [hi]; rfl
  · have huF := g.mem hu h3
    obtain ⟨e1, e2, e3⟩ := g.new_of hu huF
    have e4 := offF_lt huF
    have := g.small
    have := g.size
    unfold fieldOK
    rw [e1]
    simp only [Bool.or_eq_true, Bool.and_eq_true, decide_eq_true_eq, List.any_eq_true]
    exact .inr ⟨by omega, offF F u.1, List.mem_map.2 ⟨_, List.mem_map.2 ⟨u, huF, rfl⟩, rfl⟩, by omega⟩
/-- where an object stands behind two collections, there it stands -/
theorem off_new (g : Gc o0 o1 H Hs F) {y : Nat × Ob} (hy : y ∈ F) : offF (newHs o0 o1 F) (offF F y.1) = offF F y.1 := by
  obtain ⟨i, hi, rfl⟩ := List.getElem_of_mem hy
  have h1 := offF_at g.next.fin (i := i) (y := phi (newW o0 o1 F) F F[i]) (by unfold newHs; rw [List.getElem?_map, List.getElem?_eq_getElem hi]; rfl)
  have h2 : (phi (newW o0 o1 F) F F[i]).1 = offF F (F[i]).1 := rfl
  rw [h2] at h1
  rw [h1, offF_at g.fin (List.getElem?_eq_getElem hi)]
  unfold newHs
  rw [← List.map_take, phi_sizes]
theorem Gc.twice (g : Gc o0 o1 H Hs F) {x : Int} (h : Wd o0 Hs F x) {y : Nat × Ob} (hg : getL o0 Hs x = some y) : newW o1 o0 (newHs o0 o1 F) (newW o0 o1 F x) = ((2 * (o0 + offF F y.1) : Nat) : Int) := by
  have hyF := g.mem hg h.2.2
  have h1 := newW_of (o1 := o0) (F := newHs o0 o1 F) (g.get_new hg hyF)
  rw [h1]
  have h2 : (phi (newW o0 o1 F) F y).1 = offF F y.1 := rfl
  rw [h2, off_new g hyF]
theorem Gc.thrice (g : Gc o0 o1 H Hs F) {x : Int} (h : Wd o0 Hs F x) : newW o0 o1 (newHs o1 o0 (newHs o0 o1 F)) (newW o1 o0 (newHs o0 o1 F) (newW o0 o1 F x)) = newW o0 o1 F x := by
  rcases ok_cases h.2.1 h.1 with hi | ⟨y, hy⟩
  · rw [newW_int hi, newW_int hi, newW_int hi]
  · have hyF := g.mem hy h.2.2
    have hw1 := g.wd h
    have hget := g.get_new hy hyF
    have h3 := g.next.twice hw1 hget
    have h4 := g.new_of hy hyF
    have h2 : (phi (newW o0 o1 F) F y).1 = offF F y.1 := rfl
    rw [h3, h2, off_new g hyF, h4.1]
/-- behind three collections the objects are what they were behind the first -/
theorem Gc.same (g : Gc o0 o1 H Hs F) : newHs o0 o1 (newHs o1 o0 (newHs o0 o1 F)) = newHs o0 o1 F := by
  have h1 : ∀ y ∈ F, phi (newW o0 o1 (newHs o1 o0 (newHs o0 o1 F))) (newHs o1 o0 (newHs o0 o1 F)) (phi (newW o1 o0 (newHs o0 o1 F)) (newHs o0 o1 F) (phi (newW o0 o1 F) F y)) = phi (newW o0 o1 F) F y := by
    intro y hy
    have hm : phi (newW o0 o1 F) F y ∈ newHs o0 o1 F := List.mem_map.2 ⟨y, hy, rfl⟩
    have e1 : offF (newHs o0 o1 F) (offF F y.1) = offF F y.1 := off_new g hy
    have e2 := off_new g.next hm
    have e3 : (phi (newW o0 o1 F) F y).1 = offF F y.1 := rfl
    rw [e3, e1] at e2
    have e4 : ∀ (a : Nat) (o : Ob) (f f' : Int → Int) (G G' : List (Nat × Ob)), phi f' G' (phi f G (a, o)) = (offF G' (offF G a), mapO f' (mapO f o)) := fun _ _ _ _ _ _ => rfl
    have e5 : phi (newW o0 o1 F) F y = (offF F y.1, mapO (newW o0 o1 F) y.2) := rfl
    rw [e5, e4, e1, e2]
    congr 1
    have hf : ∀ x ∈ y.2.fields, Wd o0 Hs F x := fun x hx => ⟨(g.ok y (g.fin.sub y hy) x hx).1, (g.ok y (g.fin.sub y hy) x hx).2, g.cl y hy x hx⟩
    unfold mapO
    congr 1
    dsimp only
    rw [List.map_map, List.map_map]
    exact List.map_congr_left fun x hx => g.thrice (hf x hx)
  conv => lhs; unfold newHs
  rw [List.map_map, show newHs o0 o1 F = F.map (phi (newW o0 o1 F) F) from rfl, List.map_map]
  exact List.map_congr_left fun y hy => h1 y hy
end
/-! ### a collection, of all -/
structure Gst where
  ws : List Int
  h : Hp
  roots : List Int
/-- a state, its objects, what is live -/
structure GOk (n : Nat) (R : List (Nat × Nat)) (s : Gst) (Hs : List (Nat × Ob)) : Prop where
  len : s.ws.length = n
  may : mayH s.ws R s.h s.roots = some Hs
  w64 : ∀ x ∈ s.ws, W64 x
  r64 : ∀ x ∈ s.roots, W64 x
def gF (s : Gst) (Hs : List (Nat × Ob)) : List (Nat × Ob) := liveF (firstN s.h) Hs s.roots
def gNext (s : Gst) (Hs : List (Nat × Ob)) : Gst := ⟨collWs s.ws s.h (gF s Hs), collH s.h (gF s Hs), s.roots.map (newW (firstN s.h) (otherN s.h) (gF s Hs))⟩
def gHs (s : Gst) (Hs : List (Nat × Ob)) : List (Nat × Ob) := newHs (firstN s.h) (otherN s.h) (gF s Hs)
section
variable {n : Nat} {R : List (Nat × Nat)} {s : Gst} {Hs : List (Nat × Ob)}
theorem GOk.all (k : GOk n R s Hs) : allH s.ws R s.h = some Hs := (mayH_some k.may).1
theorem GOk.nums (k : GOk n R s Hs) (hg : Arena.Good n R) : ∃ ba H sp, HpN s.h ba H sp n R := hpN_of hg (allH_there k.all).1
theorem GOk.gc (k : GOk n R s Hs) (hg : Arena.Good n R) {ba H sp : Nat} (N : HpN s.h ba H sp n R) : Gc (firstN s.h) (otherN s.h) H Hs (gF s Hs) := gc_of hg k.len k.w64 k.all N s.roots
theorem GOk.root (k : GOk n R s Hs) : ∀ x ∈ s.roots, Wd (firstN s.h) Hs (gF s Hs) x := fun x hx => ⟨k.r64 x hx, (mayH_some k.may).2 x hx, (live_closed _ _ _).1 x hx⟩
theorem gNext_first (s : Gst) (Hs : List (Nat × Ob)) : firstN (gNext s Hs).h = otherN s.h := rfl
theorem GOk.other (k : GOk n R s Hs) (hg : Arena.Good n R) : otherN (gNext s Hs).h = firstN s.h := by
  obtain ⟨ba, H, sp, N⟩ := k.nums hg
  unfold otherN firstN gNext collH
  dsimp only
  congr 1
  rw [show 1 - (1 - s.h.space) = s.h.space by omega]
theorem GOk.next (k : GOk n R s Hs) (hg : Arena.Good n R) : GOk n R (gNext s Hs) (gHs s Hs) := by
  obtain ⟨ba, H, sp, N⟩ := k.nums hg
  have g := k.gc hg N
  have hl := collWs_len (roots := s.roots) hg k.len k.w64 k.all
  have ha := coll_all (roots := s.roots) hg k.len k.w64 k.all
  refine ⟨hl.1, ?_, hl.2, fun x hx => ?_⟩
  · unfold mayH
    have : allH (gNext s Hs).ws R (gNext s Hs).h = some (gHs s Hs) := ha
    rw [this]
    simp only
    rw [if_pos]
    refine List.all_eq_true.2 fun x hx => ?_
    obtain ⟨v, hv, rfl⟩ := List.mem_map.1 hx
    exact (g.wd (k.root v hv)).2.1
  · obtain ⟨v, hv, rfl⟩ := List.mem_map.1 hx
    exact (g.wd (k.root v hv)).1
/-- behind a collection all is live -/
theorem GOk.live (k : GOk n R s Hs) (hg : Arena.Good n R) : gF (gNext s Hs) (gHs s Hs) = gHs s Hs := by
  obtain ⟨ba, H, sp, N⟩ := k.nums hg
  exact live_new (k.gc hg N) fun x hx => ⟨k.r64 x hx, (mayH_some k.may).2 x hx⟩
theorem GOk.top (k : GOk n R s Hs) (hg : Arena.Good n R) : sizeF (gF (gNext s Hs) (gHs s Hs)) = sizeF (gF s Hs) := by rw [k.live hg]; exact newHs_size _ _ _
theorem regW_regW {ws V V' : List Int} {ba : Nat} (h : ba + V.length ≤ ws.length) (h' : V'.length = V.length) : regW (regW ws ba V) ba V' = regW ws ba V' := by
  unfold regW
  rw [List.take_append_of_le_length (by rw [List.length_take]; omega), List.take_take, Nat.min_self, h']
  congr 2
  rw [← List.append_assoc, List.drop_append_of_le_length (by rw [List.length_append, List.length_take]; omega), List.drop_of_length_le (by rw [List.length_append, List.length_take]; omega), List.nil_append]
/-- three collections come to what one comes to -/
theorem GOk.three (k : GOk n R s Hs) (hg : Arena.Good n R) : gNext (gNext (gNext s Hs) (gHs s Hs)) (gHs (gNext s Hs) (gHs s Hs)) = gNext s Hs ∧ gHs (gNext (gNext s Hs) (gHs s Hs)) (gHs (gNext s Hs) (gHs s Hs)) = gHs s Hs := by
  obtain ⟨ba, H, sp, N⟩ := k.nums hg
  have g := k.gc hg N
  have k1 := k.next hg
  have k2 := k1.next hg
  have l1 := k.live hg
  have l2 := k1.live hg
  have o1 := k.other hg
  have o2 := k1.other hg
  have f1 := gNext_first s Hs
  have f2 := gNext_first (gNext s Hs) (gHs s Hs)
  have eH1 : gHs s Hs = newHs (firstN s.h) (otherN s.h) (gF s Hs) := rfl
  have eH2 : gHs (gNext s Hs) (gHs s Hs) = newHs (otherN s.h) (firstN s.h) (gHs s Hs) := by
    unfold gHs at l1 ⊢
    rw [f1, o1, l1]
  have e3 : gHs (gNext (gNext s Hs) (gHs s Hs)) (gHs (gNext s Hs) (gHs s Hs)) = gHs s Hs := by
    have : gHs (gNext (gNext s Hs) (gHs s Hs)) (gHs (gNext s Hs) (gHs s Hs)) = newHs (firstN s.h) (otherN s.h) (gHs (gNext s Hs) (gHs s Hs)) := by
      conv => lhs; unfold gHs
      rw [show newHs (firstN (gNext s Hs).h) (otherN (gNext s Hs).h) (gF (gNext s Hs) (newHs (firstN s.h) (otherN s.h) (gF s Hs))) = gHs (gNext s Hs) (gHs s Hs) from rfl]
      rw [show newHs (firstN s.h) (otherN s.h) (gF s Hs) = gHs s Hs from rfl]
      rw [f2, o2, f1, o1, l2]
    rw [this, eH2, eH1]
    exact g.same
  refine ⟨?_, e3⟩
  have hsz1 : sizeF (gHs s Hs) = sizeF (gF s Hs) := newHs_size _ _ _
  have hsz2 : sizeF (gHs (gNext s Hs) (gHs s Hs)) = sizeF (gF s Hs) := by rw [eH2, newHs_size, hsz1]
  -- the heaps
  have hh : (gNext (gNext (gNext s Hs) (gHs s Hs)) (gHs (gNext s Hs) (gHs s Hs))).h = (gNext s Hs).h := by
    show (⟨s.h.base, s.h.half, 1 - (1 - (1 - s.h.space)), ((sizeF (gF (gNext (gNext s Hs) (gHs s Hs)) (gHs (gNext s Hs) (gHs s Hs))) : Nat) : Int)⟩ : Hp) = ⟨s.h.base, s.h.half, 1 - s.h.space, ((sizeF (gF s Hs) : Nat) : Int)⟩
    rw [l2, hsz2, show 1 - (1 - (1 - s.h.space)) = 1 - s.h.space by omega]
  have hroots : (gNext (gNext (gNext s Hs) (gHs s Hs)) (gHs (gNext s Hs) (gHs s Hs))).roots = (gNext s Hs).roots := by
    show ((s.roots.map _).map _).map _ = s.roots.map _
    rw [l2, l1, f2, o2, f1, o1, List.map_map, List.map_map, eH2, eH1]
    exact List.map_congr_left fun x hx => g.thrice (k.root x hx)
  have hws : (gNext (gNext (gNext s Hs) (gHs s Hs)) (gHs (gNext s Hs) (gHs s Hs))).ws = (gNext s Hs).ws := by
    have hV : ∀ (s : Gst) (Hs : List (Nat × Ob)) (_ : GOk n R s Hs), (collV s.h (gF s Hs)).length = lenAt R s.h.base ∧ s.h.base.toNat + lenAt R s.h.base ≤ n := by
      intro s Hs k
      obtain ⟨ba, H, sp, N⟩ := k.nums hg
      have g := k.gc hg N
      have := gcB_len g (newW (sp * H) ((1 - sp) * H) (gF s Hs))
      rw [N.coll, mkV_len (H := H) (by simp) this, N.base, N.reg.l, Int.toNat_natCast]
      exact ⟨rfl, N.reg.fit⟩
    have v0 := hV s Hs k
    have v1 := hV _ _ k1
    have v2 := hV _ _ k2
    have b1 : (gNext s Hs).h.base = s.h.base := rfl
    have b2 : (gNext (gNext s Hs) (gHs s Hs)).h.base = s.h.base := rfl
    rw [b1] at v1
    rw [b2] at v2
    show regW (regW (regW s.ws s.h.base.toNat (collV s.h (gF s Hs))) s.h.base.toNat (collV (gNext s Hs).h (gF (gNext s Hs) (gHs s Hs)))) s.h.base.toNat (collV (gNext (gNext s Hs) (gHs s Hs)).h (gF (gNext (gNext s Hs) (gHs s Hs)) (gHs (gNext s Hs) (gHs s Hs)))) = regW s.ws s.h.base.toNat (collV s.h (gF s Hs))
    have kl := k.len
    rw [regW_regW (ws := s.ws) (by rw [v0.1]; omega) (by rw [v1.1, v0.1]), regW_regW (ws := s.ws) (by rw [v1.1]; omega) (by rw [v2.1, v1.1])]
    congr 1
    rw [l2]
    unfold collV
    rw [f2, o2, f1, o1]
    have es : (gNext (gNext s Hs) (gHs s Hs)).h.space = s.h.space := by
      show 1 - (1 - s.h.space) = s.h.space
      omega
    have eh : (gNext (gNext s Hs) (gHs s Hs)).h.half = s.h.half := rfl
    rw [es, eh]
    congr 1
    unfold gcB
    rw [hsz2]
    congr 2
    -- the objects
    have e4 := e3
    have : gHs (gNext (gNext s Hs) (gHs s Hs)) (gHs (gNext s Hs) (gHs s Hs)) = newHs (firstN s.h) (otherN s.h) (gHs (gNext s Hs) (gHs s Hs)) := by
      conv => lhs; unfold gHs
      rw [show newHs (firstN (gNext s Hs).h) (otherN (gNext s Hs).h) (gF (gNext s Hs) (newHs (firstN s.h) (otherN s.h) (gF s Hs))) = gHs (gNext s Hs) (gHs s Hs) from rfl]
      rw [show newHs (firstN s.h) (otherN s.h) (gF s Hs) = gHs s Hs from rfl]
      rw [f2, o2, f1, o1, l2]
    rw [this, eH1] at e4
    have e5 := congrArg (fun L : List (Nat × Ob) => L.map (·.2)) e4
    unfold newHs at e5
    simp only [List.map_map] at e5
    rw [eH1]
    unfold newHs
    exact e5
  cases hA : gNext (gNext (gNext s Hs) (gHs s Hs)) (gHs (gNext s Hs) (gHs s Hs)) with
  | mk a b c =>
    rw [hA] at hh hroots hws
    dsimp only at hh hroots hws
    rw [hh, hroots, hws]
end
end Go.Proofs.Ytinakendlpomnaa
/- A row of rows among the arguments: general. -/
namespace Go.Proofs.Ytinakendlpomnaa
open Go Go.ChangeShapes Go.WideShapes Go.ChangeAt Go.RowKit Go.Deep
set_option maxHeartbeats 4000000
set_option maxRecDepth 100000
theorem flat_inv {s : Nat} (hs : 1 ≤ s) : ∀ (l : List (List Value)), (∀ cs ∈ l, cs.length = s) → ∀ (j : Nat) (u : Value), l.flatten[j]? = some u → ∃ i f cs, j = i * s + f ∧ l[i]? = some cs ∧ cs[f]? = some u
  | [], _, j, u, h => by simp at h
  | c :: l, hl, j, u, h => by
    have hc := hl c (.head _)
    rw [List.flatten_cons] at h
    by_cases hj : j < s
    · rw [List.getElem?_append_left (by omega)] at h
      exact ⟨0, j, c, by omega, rfl, h⟩
    · rw [List.getElem?_append_right (by omega), hc] at h
      obtain ⟨i, f, cs, h1, h2, h3⟩ := flat_inv hs l (fun cs hm => hl cs (.tail _ hm)) (j - s) u h
      exact ⟨i + 1, f, cs, by rw [Nat.add_mul]; omega, h2, h3⟩
theorem rows_p {w : World} {v : Value} {s : Nat} {l : List (List Value)} (hs : 1 ≤ s) (h : RowsSl w v s l) (h1 : Rows1 s l) (hn : l ≠ []) : RowsP w v s l := by
  obtain ⟨q, c, rfl, h2, h3, h4⟩ := h
  refine ⟨h1, .inr ?_⟩
  obtain ⟨cs0, hcs0⟩ : ∃ cs, l[0]? = some cs := by cases l with | nil => exact absurd rfl hn | cons a l => exact ⟨a, rfl⟩
  obtain ⟨_, b, off, rfl, _⟩ := h4 0 cs0 hcs0
  refine ⟨b, off, c, rfl, h2, h3, fun j u hu => ?_⟩
  obtain ⟨i, f, cs, rfl, hi, hf⟩ := flat_inv hs l (fun cs hm => (h1 cs hm).1) j u hu
  obtain ⟨_, b', off', e, hc⟩ := h4 i cs hi
  obtain ⟨rfl, rfl, _⟩ := Addr.mk.inj (Option.some.inj e)
  rw [← Nat.add_assoc]
  exact hc f u hf
/-- one cell that reads as a slice -/
theorem rows_cell {H : Type} {enc : TypeId × Value → H} {P : Program} {w : World} {t e : TypeId} {s : Nat} {cs : List Value} (ht : P.underlying t = some (.slice e)) (hs : P.cellsOf e = s) (h1 : 1 ≤ s)
    (h : ReadsAs enc P w t cs) : ∃ v l, cs = [v] ∧ RowsSl w v s l ∧ (l = [] → EmptyV v) ∧ ∀ cs ∈ l, ReadsAs enc P w e cs := by
  obtain ⟨fuel, x, hf⟩ := h
  rcases open_slice ht hf with ⟨hcs, _⟩ | ⟨a, len, cap, m, n, D, Pl, hcs, _, hlc, hcm, hm, _, hel⟩
  · exact ⟨_, [], hcs, ⟨none, 0, rfl, Nat.le_refl _, Nat.zero_le _, fun i cs h => by simp at h⟩, fun _ => .inl rfl, fun cs h => by cases h⟩
  · simp only [if_true] at hm
    rw [hs] at hel
    rw [hm] at hel
    obtain ⟨V, hV⟩ := choose_lt (n := cap) (p := fun i cs => w.cells? 0 (a.add (i * s)) s = some cs ∧ DataW.trod enc P w 0 (fun _ => true) true n e cs = some (D i, Pl i)) (fun i hi => hel i hi)
    have hl : ((List.range len).map V).length = len := by simp
    refine ⟨_, (List.range len).map V, hcs, ⟨some a, cap, by rw [hl], by rw [hl]; exact hlc, hcm, fun i cs hi => ?_⟩, fun he => ?_, fun cs hcs => ?_⟩
    · have hil : i < len := by have := (List.getElem?_eq_some_iff.1 hi).1; simpa using this
      have hcs : V i = cs := by simpa [hil] using hi
      subst hcs
      obtain ⟨_, hlen, hcell⟩ := World.cells?_some (hV i (by omega)).1
      obtain ⟨_, hlen0, hcell0⟩ := World.cells?_some (hV 0 (by omega)).1
      have hc0 := hcell0 0 (by omega)
      rw [List.getElem?_eq_getElem (by omega : 0 < (V 0).length), Go.Deep.add_add] at hc0
      obtain ⟨b, off, spot⟩ := a
      have hspot : spot = none := by simpa [Addr.add] using World.cell?_spot hc0
      subst hspot
      refine ⟨hlen, b, off, rfl, fun f u hu => ?_⟩
      have hfl : f < s := by rw [← hlen]; exact (List.getElem?_eq_some_iff.1 hu).1
      have := hcell f hfl
      rw [Go.Deep.add_add, add_plain, hu] at this
      rw [Nat.add_assoc]
      exact this
    · have h0 : len = 0 := by have := congrArg List.length he; simpa using this
      subst h0
      exact .inr ⟨a, cap, rfl, hcm⟩
    · obtain ⟨i, hi, rfl⟩ := List.mem_map.1 hcs
      have hil := List.mem_range.1 hi
      exact ⟨n, _, (hV i (by omega)).2⟩
/-- rows whose cells are all of a form -/
theorem choose_form {α : Type} [Inhabited α] (f : α → List Value) : ∀ (l : List (List Value)), (∀ cs ∈ l, ∃ x, cs = f x) → ∃ M : List α, l = M.map f
  | [], _ => ⟨[], rfl⟩
  | c :: l, h => by
    obtain ⟨x, rfl⟩ := h c (.head _)
    obtain ⟨M, rfl⟩ := choose_form f l (fun cs hm => h cs (.tail _ hm))
    exact ⟨x :: M, rfl⟩
end Go.Proofs.Ytinakendlpomnaa
/- Objects, rows of words, heaps, steps among the arguments, as a walk wants them. -/
namespace Go.Proofs.Ytinakendlpomnaa
open Go Go.ChangeShapes Go.WideShapes Go.ChangeAt Go.RowKit Go.Deep Arena
set_option maxHeartbeats 4000000
set_option maxRecDepth 100000
theorem w64_of_wf {x : Int} (h : (Lit.int .u64 x).wf = true) : W64 x := by
  have h3 : IntKind.u64.min ≤ x ∧ x ≤ IntKind.u64.max := by simpa [Lit.wf] using h
  have e1 : IntKind.u64.min = 0 := by decide
  have e2 : IntKind.u64.max = 18446744073709551615 := by decide
  unfold W64
  omega
theorem word_reads {H : Type} {enc : TypeId × Value → H} {w : World} {cs : List Value} (h : ReadsAs enc Try.prog w 44 cs) : ∃ x : {x : Int // W64 x}, cs = wordC x.1 := by
  obtain ⟨n, y, h⟩ := h
  obtain ⟨a, rfl, _, hw⟩ := DataW.trod_int Try.underlying44 h
  exact ⟨⟨a, w64_of_wf hw⟩, rfl⟩
instance : Inhabited {x : Int // W64 x} := ⟨⟨0, w64_zero⟩⟩
/-- a slice of words that came in -/
def WdsP (w : World) (v : Value) (l : List Int) : Prop := RowsP w v 1 (l.map wordC) ∧ ∀ x ∈ l, W64 x
theorem WdsP.ext {w w' : World} {v : Value} {l : List Int} (h : WdsP w v l) (e : Ext w w') : WdsP w' v l := ⟨h.1.ext e, h.2⟩
theorem words_reads {H : Type} {enc : TypeId × Value → H} {w : World} {cs : List Value} (h : ReadsAs enc Try.prog w 22 cs) : ∃ v l, cs = [v] ∧ WdsP w v l := by
  obtain ⟨v, l, rfl, hr, he, hl⟩ := rows_cell Try.underlying22 (show Try.prog.cellsOf 44 = 1 by kernel_rfl) (by omega) h
  obtain ⟨M, rfl⟩ := choose_form (fun x : {x : Int // W64 x} => wordC x.1) l (fun cs hm => word_reads (hl cs hm))
  refine ⟨v, M.map (·.1), rfl, ?_, fun x hx => ?_⟩
  · rw [List.map_map]
    cases M with
    | nil => exact ⟨Rows1.nil 1, .inl ⟨he rfl, rfl⟩⟩
    | cons x M => exact rows_p (by omega) hr (fun cs hm => by obtain ⟨y, _, rfl⟩ := List.mem_map.1 hm; exact ⟨rfl, fun u hu => by rw [List.mem_singleton.1 hu]; rfl⟩) (by simp)
  · obtain ⟨y, _, rfl⟩ := List.mem_map.1 hx
    exact y.2
theorem open_words {H : Type} {enc : TypeId × Value → H} {W : World} {v : Value} {d : DataW H} {ps : List MemPlace} {base : Nat} (hval : Value.okWide Try.prog W .any base 22 v) (h : DataW.Trod enc Try.prog W 0 (fun _ => true) true 22 v d ps) : ∃ l, WdsP W v l := by
  obtain ⟨a0, len, cap, rfl⟩ := okWide_slice Try.underlying22 hval
  obtain ⟨fuel, hf⟩ := h
  obtain ⟨v', l, e, hp⟩ := words_reads ⟨fuel, _, hf⟩
  obtain rfl : v' = _ := (List.cons.inj e).1.symm
  exact ⟨l, hp⟩
/-- an object that came in -/
structure ObI where
  o : Ob
  v : Value
def obiC (x : ObI) : List Value := [.int .i64 x.o.kind, .int .i64 x.o.tag, x.v, .string x.o.text]
structure ObiP (w : World) (x : ObI) : Prop where
  p : WdsP w x.v x.o.fields
  text : x.o.text.size ≤ maxLen
  kind : (Lit.int .i64 x.o.kind).wf = true
  tag : (Lit.int .i64 x.o.tag).wf = true
theorem ObiP.ext {w w' : World} {x : ObI} (h : ObiP w x) (e : Ext w w') : ObiP w' x := ⟨h.p.ext e, h.text, h.kind, h.tag⟩
theorem obj_reads {H : Type} {enc : TypeId × Value → H} {w : World} {cs : List Value} (h : ReadsAs enc Try.prog w 48 cs) : ∃ x, cs = obiC x ∧ ObiP w x := by
  obtain ⟨n, y, h⟩ := h
  obtain ⟨xs, k, rfl, _, hlen, hxl, hf⟩ := DataW.trod_struct Try.underlying48 h
  have hc : Try.prog.cellsOf 48 = 4 := by kernel_rfl
  rw [hc] at hlen
  match cs, hlen, xs, hxl with
  | [v0, v1, v2, v3], _, [y0, y1, y2, y3], _ =>
    have g0 := hf 0 _ rfl
    have g1 := hf 1 _ rfl
    have g2 := hf 2 _ rfl
    have g3 := hf 3 _ rfl
    have ci : Try.prog.cellsOf 3 = 1 := by kernel_rfl
    have ci6 : Try.prog.cellsOf 22 = 1 := by kernel_rfl
    have cs1 : Try.prog.cellsOf 9 = 1 := by kernel_rfl
    simp [ci, ci6, cs1] at g0 g1 g2 g3
    obtain ⟨a0, e0, _, w0⟩ := DataW.trod_int Try.underlying3 g0
    obtain ⟨a1, e1, _, w1⟩ := DataW.trod_int Try.underlying3 g1
    obtain ⟨v, l, e2, hp⟩ := words_reads ⟨_, _, g2⟩
    obtain ⟨a3, e3, _, w3⟩ := DataW.trod_string Try.underlying9 g3
    simp at e0 e1 e2 e3
    subst e0; subst e1; subst e2; subst e3
    exact ⟨⟨⟨a0, a1, l, a3⟩, v2⟩, rfl, hp, by first | exact w3 | simpa [Lit.wf] using w3, w0, w1⟩
theorem open_obj {H : Type} {enc : TypeId × Value → H} {W : World} {v : Value} {d : DataW H} {ps : List MemPlace} {base : Nat} (hval : Value.okWide Try.prog W .any base 48 v) (h : DataW.Trod enc Try.prog W 0 (fun _ => true) true 48 v d ps) : ∃ x, v = .agg (obiC x).toArray ∧ ObiP W x := by
  obtain ⟨cs, rfl, _⟩ := okWide_struct Try.underlying48 hval
  obtain ⟨fuel, hf⟩ := h
  obtain ⟨x, e, hp⟩ := obj_reads ⟨fuel, _, hf⟩
  refine ⟨x, ?_, hp⟩
  rw [← e]
  rfl
/-- objects that came in, side by side -/
def ObsP (w : World) (v : Value) (L : List ObI) : Prop := RowsSl w v 4 (L.map obiC) ∧ ∀ x ∈ L, ObiP w x
theorem ObsP.ext {w w' : World} {v : Value} {L : List ObI} (h : ObsP w v L) (e : Ext w w') : ObsP w' v L := ⟨h.1.ext e, fun x hx => (h.2 x hx).ext e⟩
theorem choose_with {α : Type} (p : α → Prop) (f : α → List Value) : ∀ (l : List (List Value)), (∀ cs ∈ l, ∃ x, cs = f x ∧ p x) → ∃ M : List α, l = M.map f ∧ ∀ x ∈ M, p x
  | [], _ => ⟨[], rfl, fun x h => by cases h⟩
  | c :: l, h => by
    obtain ⟨x, rfl, hx⟩ := h c (.head _)
    obtain ⟨M, rfl, hM⟩ := choose_with p f l (fun cs hm => h cs (.tail _ hm))
    exact ⟨x :: M, rfl, fun y hy => by rcases List.mem_cons.1 hy with rfl | hy; exact hx; exact hM y hy⟩
/-- a region's words and a heap that came in -/
structure RawI where
  v : Value
  l : List Int
  h : Hp
def rawC (x : RawI) : List Value := [x.v, .int .i64 x.h.base, .int .i64 x.h.half, .int .i64 x.h.space, .int .i64 x.h.top]
structure HpWf (h : Hp) : Prop where
  half : (Lit.int .i64 h.half).wf = true
  space : (Lit.int .i64 h.space).wf = true
  top : (Lit.int .i64 h.top).wf = true
structure RawP (w : World) (x : RawI) : Prop where
  p : WdsP w x.v x.l
  h : HpWf x.h
theorem open_raw {H : Type} {enc : TypeId × Value → H} {W : World} {v : Value} {d : DataW H} {ps : List MemPlace} {base : Nat} (hval : Value.okWide Try.prog W .any base 26 v) (h : DataW.Trod enc Try.prog W 0 (fun _ => true) true 26 v d ps) : ∃ x, v = .agg (rawC x).toArray ∧ RawP W x := by
  obtain ⟨cs, rfl, _⟩ := okWide_struct Try.underlying26 hval
  obtain ⟨fuel, hf⟩ := h
  obtain ⟨xs, k, _, _, hlen, hxl, hf⟩ := DataW.trod_struct Try.underlying26 hf
  have hc : Try.prog.cellsOf 26 = 5 := by kernel_rfl
  rw [hc] at hlen
  obtain ⟨cs⟩ := cs
  simp only [Value.cells] at hlen hf
  match cs, hlen, xs, hxl with
  | [v0, v1, v2, v3, v4], _, [y0, y1], _ =>
    have g0 := hf 0 _ rfl
    have g1 := hf 1 _ rfl
    have ci : Try.prog.cellsOf 22 = 1 := by kernel_rfl
    have ch : Try.prog.cellsOf 24 = 4 := by kernel_rfl
    simp [ci, ch] at g0 g1
    obtain ⟨v, l, e0, hp⟩ := words_reads ⟨_, _, g0⟩
    simp at e0
    subst e0
    obtain ⟨zs, m, _, _, _, hzl, hg⟩ := DataW.trod_struct Try.underlying24 g1
    match zs, hzl with
    | [z0, z1, z2, z3], _ =>
      have k0 := hg 0 _ rfl
      have k1 := hg 1 _ rfl
      have k2 := hg 2 _ rfl
      have k3 := hg 3 _ rfl
      have cn : Try.prog.cellsOf 3 = 1 := by kernel_rfl
      simp [cn] at k0 k1 k2 k3
      obtain ⟨a0, e0, _, w0⟩ := DataW.trod_int Try.underlying3 k0
      obtain ⟨a1, e1, _, w1⟩ := DataW.trod_int Try.underlying3 k1
      obtain ⟨a2, e2, _, w2⟩ := DataW.trod_int Try.underlying3 k2
      obtain ⟨a3, e3, _, w3⟩ := DataW.trod_int Try.underlying3 k3
      simp at e0 e1 e2 e3
      subst e0; subst e1; subst e2; subst e3
      exact ⟨⟨v0, l, ⟨a0, a1, a2, a3⟩⟩, rfl, hp, w1, w2, w3⟩
end Go.Proofs.Ytinakendlpomnaa
/- GcTwice: the walk. -/
namespace Go.Proofs.Ytinakendlpomnaa
open Go.RowKit Go.Maps Arena
set_option maxHeartbeats 8000000
set_option maxRecDepth 100000
/-- one collection of a state that may be -/
theorem coll_step {w : World} {p g bm n : Nat} {R : List (Nat × Nat)} {s : Gst} {Hs : List (Nat × Ob)} (k : GOk n R s Hs) (H : ArenaAt w p g bm n s.ws R) (hw : (Lit.int .i64 s.h.base).wf = true) {q : Option Addr} {c : Nat} (hr : RowStay w g (.slice q s.roots.length c) (s.roots.map wordC)) (hrl : s.roots.length ≤ 100000) :
    Calls Try.prog 10 #[.pointer (some ⟨p, 0, none⟩), .agg #[.int .i64 s.h.base, .int .i64 s.h.half, .int .i64 s.h.space, .int .i64 s.h.top], .slice q s.roots.length c] w fun e w' => ∃ q c, e = .returned (.tuple #[.agg #[.int .i64 s.h.base, .int .i64 s.h.half, .int .i64 (gNext s Hs).h.space, .int .i64 (gNext s Hs).h.top], .slice q s.roots.length c, .bool true]) ∧ ArenaAt w' p g bm n (gNext s Hs).ws R ∧
      OwnP w' w.heap.size 44 (.slice q s.roots.length c) 1 ((gNext s Hs).roots.map wordC) ∧ Turn [g] w w' := by
  refine (coll_is H s.h hw k.w64 hr k.r64 hrl).mono fun e w' he => ?_
  unfold CollSaid at he
  rw [k.may] at he
  exact he
/-- what one collection makes of a heap -/
def CStep (p g bm n : Nat) (R : List (Nat × Nat)) (half : Int) (m : Nat) (ws : List Int) (sp tp : Int) (r : List Int) (ws' : List Int) (sp' tp' : Int) (r' : List Int) : Prop :=
  ∀ W q c, ArenaAt W p g bm n ws R → RowStay W g (.slice q m c) (r.map wordC) → Calls Try.prog 10 #[.pointer (some ⟨p, 0, none⟩), .agg #[.int .i64 3, .int .i64 half, .int .i64 sp, .int .i64 tp], .slice q m c] W fun e w' =>
    ∃ q c, e = .returned (.tuple #[.agg #[.int .i64 3, .int .i64 half, .int .i64 sp', .int .i64 tp'], .slice q m c, .bool true]) ∧ ArenaAt w' p g bm n ws' R ∧ OwnP w' W.heap.size 44 (.slice q m c) 1 (r'.map wordC) ∧ Turn [g] W w'
theorem cstep_of {n : Nat} {R : List (Nat × Nat)} {s : Gst} {Hs : List (Nat × Ob)} (k : GOk n R s Hs) (p g bm : Nat) (h3 : s.h.base = 3) (hl : s.roots.length ≤ 20) : CStep p g bm n R s.h.half s.roots.length s.ws s.h.space s.h.top s.roots (gNext s Hs).ws (gNext s Hs).h.space (gNext s Hs).h.top (gNext s Hs).roots := by
  intro W q c H hr
  have := coll_step k H (by rw [h3]; decide) hr (by omega)
  rw [h3] at this
  exact this
theorem twice_facts {n : Nat} {R : List (Nat × Nat)} {ws roots : List Int} {half sp tp : Int} {Hs : List (Nat × Ob)} (k0 : GOk n R ⟨ws, ⟨3, half, sp, tp⟩, roots⟩ Hs) (hg : Arena.Good n R) (hl : roots.length ≤ 20) (p g bm : Nat) :
    ∃ ws1 ws2 r1 r2 sp1 tp1, r1.length = roots.length ∧ r2.length = roots.length ∧ CStep p g bm n R half roots.length ws sp tp roots ws1 sp1 tp1 r1 ∧ CStep p g bm n R half roots.length ws1 sp1 tp1 r1 ws2 sp tp1 r2 ∧ CStep p g bm n R half roots.length ws2 sp tp1 r2 ws1 sp1 tp1 r1 := by
  have k1 := k0.next hg
  have k2 := k1.next hg
  obtain ⟨hc1, hc2⟩ := k0.three hg
  have ht := k0.top hg
  have l1 : (gNext ⟨ws, ⟨3, half, sp, tp⟩, roots⟩ Hs).roots.length = roots.length := by unfold gNext; dsimp only; rw [List.length_map]
  have l2 : (gNext (gNext ⟨ws, ⟨3, half, sp, tp⟩, roots⟩ Hs) (gHs ⟨ws, ⟨3, half, sp, tp⟩, roots⟩ Hs)).roots.length = roots.length := by
    unfold gNext
    dsimp only
    rw [List.length_map, List.length_map]
  have c0 := cstep_of k0 p g bm rfl hl
  have c1 := cstep_of k1 p g bm rfl (by omega)
  have c2 := cstep_of k2 p g bm rfl (by omega)
  rw [l1] at c1
  rw [l2, hc1] at c2
  have e1 : (gNext (gNext ⟨ws, ⟨3, half, sp, tp⟩, roots⟩ Hs) (gHs ⟨ws, ⟨3, half, sp, tp⟩, roots⟩ Hs)).h.space = sp := by show 1 - (1 - sp) = sp; omega
  have e2 : (gNext (gNext ⟨ws, ⟨3, half, sp, tp⟩, roots⟩ Hs) (gHs ⟨ws, ⟨3, half, sp, tp⟩, roots⟩ Hs)).h.top = (gNext ⟨ws, ⟨3, half, sp, tp⟩, roots⟩ Hs).h.top := by
    show ((sizeF (gF (gNext ⟨ws, ⟨3, half, sp, tp⟩, roots⟩ Hs) (gHs ⟨ws, ⟨3, half, sp, tp⟩, roots⟩ Hs)) : Nat) : Int) = ((sizeF (gF ⟨ws, ⟨3, half, sp, tp⟩, roots⟩ Hs) : Nat) : Int)
    rw [ht]
  rw [e1, e2] at c1 c2
  exact ⟨_, _, _, _, _, _, l1, l2, c0, c1, c2⟩
theorem words_own {w : World} {p g bm n m : Nat} {ws : List Int} (H : ArenaAt w p g bm n ws (rigR m)) (_hm : 1 ≤ m) : Calls Try.prog 11 #[.pointer (some ⟨p, 0, none⟩), .int .i64 3] w fun e w' => ∃ q l c, e = .returned (.tuple #[.slice q l c, .bool true]) ∧ OwnP w' w.heap.size 44 (.slice q l c) 1 ((wordsAt ws (rigR m) 3).map wordC) ∧ Ext w w' := by
  refine (words_yes H (r := (3, m)) (by simp [rigR])).mono ?_
  rintro e w' ⟨v, rfl, ho, hx⟩
  have hl : (wordsAt ws (rigR m) 3).length = m := by rw [wordsAt_len H.good H.len, rig_len]
  have ho2 : OwnP w' w.heap.size 44 v 1 ((wordsAt ws (rigR m) 3).map wordC) := by
    refine ⟨fun cs hc => by obtain ⟨y, _, rfl⟩ := List.mem_map.1 hc; exact ⟨rfl, fun u hu => by rw [List.mem_singleton.1 hu]; rfl⟩, ?_⟩
    rw [flat_words, List.length_map, hl]
    have e1 : wordsAt ws (rigR m) 3 = (ws.drop 3).take m := by unfold wordsAt; rw [rig_len]; rfl
    rw [e1]
    exact ho
  obtain ⟨q, c, rfl, _, _⟩ := ho2.len
  exact ⟨q, _, c, rfl, ho2, hx⟩
theorem large_flat4 {w : World} {v : Value} {l : List Int} {a b c d : Int} (hv : WordSl w v l) : Calls Try.prog 6 #[.agg #[v, .int .i64 a, .int .i64 b, .int .i64 c, .int .i64 d]] w fun e w' => e = .returned (.bool (decide (400 < l.length))) ∧ Ext w w' := by
  obtain ⟨qv, cv, rfl, hd1, hd2, hcell⟩ := hv
  unfold maxLen at hd2
  clear hcell
  by_cases h : 400 < l.length
  · rw [decide_eq_true h]
    have i1 : (400 : Int) < (l.length : Int) := by omega
    clear h
    go_enter Try.func6, Try.ntmps6
    go_wp2_with fail
    go_ret
    exact ⟨rfl, Ext.alloc _ _⟩
  · rw [decide_eq_false h]
    have i1 : ¬ (400 : Int) < (l.length : Int) := by omega
    clear h
    go_enter Try.func6, Try.ntmps6
    go_wp2_with fail
    go_ret
    exact ⟨rfl, Ext.alloc _ _⟩
theorem twice_walk {w : World} {v vr : Value} {l roots : List Int} {h0 : Hp} (hv : WdsP w v l) (_hh : HpWf h0) (hr : WdsP w vr roots) : Calls Try.prog 3 #[.agg #[v, .int .i64 h0.base, .int .i64 h0.half, .int .i64 h0.space, .int .i64 h0.top], vr] w (TrueExt w) := by
  have HV := Lib.hid hv; have HR := Lib.hid hr
  obtain ⟨qv, cv, rfl, hv1, hv2, -⟩ := hv.1.at
  obtain ⟨qr, cr, rfl, hr1, hr2, -⟩ := hr.1.at
  rw [List.length_map] at hv1 hr1 HV HR ⊢
  rw [List.length_map]
  unfold maxLen at hv2 hr2
  clear hv hr
  by_cases hbig : 400 < l.length ∨ 20 < roots.length
  · have LG := Lib.hid (fun W (e : Ext w W) => large_flat4 (a := h0.base) (b := h0.half) (c := h0.space) (d := h0.top) (WordSl.of_rows (HV.out.1.ext e)))
    obtain ⟨lb, hlb⟩ : ∃ lb, lb = decide (400 < l.length) := ⟨_, rfl⟩
    rw [← hlb] at LG
    have HLB := Lib.hid hlb
    have HBG := Lib.hid hbig
    clear hlb hbig
    go_enter Try.func3, Try.ntmps3
    go_wp2_with fail
    refine at_alloc1 fun W hE hS b0 => ?_
    refine (LG.out W hE).mono ?_
    rintro e w1 ⟨rfl, hx1⟩
    have HX1 := Lib.hid (hE.trans hx1)
    clear hE hS b0 hx1 LG
    have fin : ∀ w1, Ext w w1 → ∀ (e : Ending) (w2 : World), e = .returned (.bool true) ∧ Ext w1 w2 → e = .returned (.bool true) ∧ Ext w w2 := fun w1 h e w2 ⟨h1, h2⟩ => ⟨h1, h.trans h2⟩
    cases lb with
    | true =>
      go_wp2_with fail
      refine (wakes4 _).mono ?_
      rintro e w2 ⟨rfl, hx2⟩
      have HX2 := Lib.hid (HX1.out.trans hx2)
      clear hx2
      go_wp2
      go_ret
      exact ⟨rfl, HX2.out⟩
    | false =>
      have hr20 : 20 < roots.length := by
        have h1 := of_decide_eq_false HLB.out.symm
        rcases HBG.out with h | h
        · exact absurd h h1
        · exact h
      have d1 : (20 : Int) < (roots.length : Int) := by omega
      go_wp2_with fail
      refine (wakes4 _).mono ?_
      rintro e w2 ⟨rfl, hx2⟩
      have HX2 := Lib.hid (HX1.out.trans hx2)
      clear hx2
      go_wp2
      go_ret
      exact ⟨rfl, HX2.out⟩
  · have hl4 : l.length ≤ 400 := by omega
    have hr20 : roots.length ≤ 20 := by omega
    have d0 : decide (400 < l.length) = false := decide_eq_false (by omega)
    have d1 : decide ((20 : Int) < (roots.length : Int)) = false := decide_eq_false (by omega)
    have LG := Lib.hid (fun W (e : Ext w W) => large_flat4 (a := h0.base) (b := h0.half) (c := h0.space) (d := h0.top) (WordSl.of_rows (HV.out.1.ext e)))
    rw [d0] at LG
    clear hbig d0
    go_enter Try.func3, Try.ntmps3
    go_wp2_with fail
    refine at_alloc1 fun W hE hS b0 => ?_
    refine (LG.out W hE).mono ?_
    rintro e w1 ⟨rfl, hx1⟩
    have HX1 := Lib.hid (hE.trans hx1)
    have B1 := Lib.hid ((Below.block hx1 w.heap.size (by omega)).trans b0)
    clear hE hS b0 hx1 LG
    obtain ⟨z0, z1, z2, z3, z4⟩ := cells5 B1.out
    go_wp2_with fail
    refine (lay_words (WordSl.of_rows (HV.out.1.ext HX1.out)) (by omega)).mono ?_
    rintro e w2 ⟨p, g, bm, q, gq, B, rfl, hB⟩
    have HB := Lib.hid hB
    have B2 := Lib.hid ((Below.block hB.ext w.heap.size (Array.getElem?_eq_some_iff.1 B1.out).1).trans B1.out)
    clear hB B1 z0 z1 z2 z3 z4
    obtain ⟨z0, z1, z2, z3, z4⟩ := cells5 B2.out
    have n0 := (Array.getElem?_eq_some_iff.1 B2.out).1
    go_upto_region 7 with fail
    refine wp_alloc2 fun W4 hE4 hS4 b2 b3 => ?_
    obtain ⟨vR, hR3⟩ := HB.out.r
    have hgw : w.heap.size ≤ g := by have := HB.out.ge.2.1; have := HX1.out.size; omega
    have hX2 : Ext w w2 := HX1.out.trans HB.out.ext
    have hx2s := Below.size hX2
    have K0 := Lib.hid (show Wk w2 W4 p g bm w2.heap.size (w2.heap.size + 1) q (l.length + 10) (rigW l l.length) (rigR (max 1 l.length)) h0 from ⟨HB.out.a.ext hE4, Turn.of_ext hE4, b2, b3, by have := HB.out.a.lt; omega, by have := HB.out.a.lt; omega, by have := HB.out.a.lt; omega, by omega⟩)
    have RF := Lib.hid (hR3.ext hE4)
    have RF0 := Lib.hid hR3
    have HX2 := Lib.hid hX2
    have hsm : ∀ x ∈ rigW l l.length, W64 x := rigW_mem HV.out.2 l.length
    have HSM := Lib.hid hsm
    have hBs := HB.out.size
    clear hE4 hS4 b2 b3 z0 z1 z2 z3 z4 n0 hR3 hsm HB hX2 B2 HX1
    have HT0 := Lib.hid (Nat.le_refl w2.heap.size)
    generalize hg0 : w2.heap.size = t0 at K0 hx2s hBs ⊢
    have HT0 := Lib.hid hg0
    clear hg0
    generalize hg1 : t0 + 1 = t1 at K0 ⊢
    have HT1 := Lib.hid hg1
    clear hg1
    obtain ⟨x0, x1⟩ := cells2 K0.out.two
    obtain ⟨y0, y1, y2, y3⟩ := cells4 K0.out.hp
    have f0 := free_at K0.out.hp (i := 0)
    go_upto_region 8 with fail
    refine wp_fill1 K0.out.hp fun W5 h5 hT5 hS5 => ?_
    have K1 := Lib.hid (K0.out.fill (h' := ⟨3, h0.half, h0.space, h0.top⟩) h5 hT5)
    have RF1 := Lib.hid (RF.out.turn_new RF0.out hT5 (fun b hb => by rw [List.mem_singleton.1 hb]; have := HT0.out; have := HT1.out; omega))
    have HX5 := Lib.hid (show Ext w W5 from Turn.after HX2.out K1.out.t (fun b hb => by have := HT0.out; have := HT1.out; simp only [List.mem_cons, List.not_mem_nil, or_false] at hb; rcases hb with rfl | rfl <;> omega))
    clear hS5 h5 hT5 K0 RF RF0 x0 x1 y0 y1 y2 y3 f0
    obtain ⟨h, hh3⟩ : ∃ h : Hp, h = ⟨3, h0.half, h0.space, h0.top⟩ := ⟨_, rfl⟩
    have MAY := Lib.hid (rmay_is RF1.out h HSM.out (HR.out.1.ext HX5.out) HR.out.2 (by omega))
    rw [hh3] at MAY
    obtain ⟨x0, x1⟩ := cells2 K1.out.two
    obtain ⟨y0, y1, y2, y3⟩ := cells4 K1.out.hp
    go_wp2_with fail
    refine MAY.out.mono ?_
    rintro e w6 ⟨rfl, hx6⟩
    have K2 := Lib.hid (K1.out.ext hx6)
    have HX6 := Lib.hid (HX5.out.trans hx6)
    clear hx6 x0 x1 y0 y1 y2 y3 K1 RF1 MAY HX5
    rw [← hh3]
    cases hm : mayH (rigW l l.length) (rigR (max 1 l.length)) h roots with
    | none =>
      rw [Option.isSome_none]
      clear hm hh3
      go_wp2_with fail
      refine (wakes4 _).mono ?_
      rintro e w7 ⟨rfl, hx7⟩
      have HX7 := Lib.hid (HX6.out.trans hx7)
      clear hx7
      go_wp2
      go_ret
      exact ⟨rfl, HX7.out⟩
    | some Hs =>
      rw [Option.isSome_some]
      have k0 : GOk (l.length + 10) (rigR (max 1 l.length)) ⟨rigW l l.length, h, roots⟩ Hs := ⟨K2.out.a.len, hm, HSM.out, HR.out.2⟩
      rw [hh3] at k0
      obtain ⟨ws1, ws2, r1, r2, sp1, tp1, l1, l2, c1, c2, c3⟩ := twice_facts k0 K2.out.a.good hr20 p g bm
      have C1 := Lib.hid c1; have C2 := Lib.hid c2; have C3 := Lib.hid c3
      have hstay : RowStay w6 g (.slice qr roots.length cr) (roots.map wordC) := fun V tV => HR.out.1.ext (Turn.after HX6.out tV (fun b hb => by rw [List.mem_singleton.1 hb]; exact hgw))
      have HST := Lib.hid hstay
      clear k0 hm hh3 c1 c2 c3 hstay l1 l2
      obtain ⟨x0, x1⟩ := cells2 K2.out.two
      obtain ⟨y0, y1, y2, y3⟩ := cells4 K2.out.hp
      go_wp2_with fail
      refine (C1.out _ _ _ K2.out.a HST.out).mono ?_
      rintro e w7 ⟨q1, cc1, rfl, hA7, hO7, hT7⟩
      have K3 := Lib.hid (K2.out.put hA7 hT7)
      have O7 := Lib.hid hO7
      have hg6 : g < w6.heap.size := K2.out.a.lt.2.1
      clear hA7 hO7 hT7 K2 x0 x1 y0 y1 y2 y3 HST
      go_upto_region 11 with fail
      refine wp_alloc1 fun W8 hE8 hS8 b8 => ?_
      have K4 := Lib.hid (K3.out.ext hE8)
      have O8 := Lib.hid (O7.out.ext hE8)
      have BA8 := Lib.hid b8
      have hga : w7.heap.size ≠ g := by have := K3.out.a.lt.2.1; omega
      clear hE8 hS8 b8 K3 O7
      generalize w7.heap.size = tA at *
      obtain ⟨x0, x1⟩ := cells2 K4.out.two
      obtain ⟨y0, y1, y2, y3⟩ := cells4 BA8.out
      go_wp2_with fail
      refine (C2.out _ _ _ K4.out.a (O8.out.rowStay hg6)).mono ?_
      rintro e w9 ⟨q2, cc2, rfl, hA9, hO9, hT9⟩
      have K5 := Lib.hid (K4.out.put hA9 hT9)
      have O9 := Lib.hid hO9
      have BA9 := Lib.hid (hT9.keep BA8.out hga)
      have hg8 : g < W8.heap.size := K4.out.a.lt.2.1
      clear hA9 hO9 hT9 K4 O8 BA8 x0 x1 y0 y1 y2 y3
      go_upto_region 12 with fail
      refine wp_alloc1 fun W10 hE10 hS10 b10 => ?_
      have K6 := Lib.hid (K5.out.ext hE10)
      have O10 := Lib.hid (O9.out.ext hE10)
      have BA10 := Lib.hid ((Below.block hE10 _ (Array.getElem?_eq_some_iff.1 BA9.out).1).trans BA9.out)
      have BB10 := Lib.hid b10
      have hgb : w9.heap.size ≠ g := by have := K5.out.a.lt.2.1; omega
      have K6' := Lib.hid (show g < W10.heap.size from K6.out.a.lt.2.1)
      clear hE10 hS10 b10 K5 O9 BA9
      generalize w9.heap.size = tB at *
      obtain ⟨x0, x1⟩ := cells2 K6.out.two
      go_wp2_with fail
      refine (words_own K6.out.a (by omega)).mono ?_
      rintro e w11 ⟨qw1, lw1, cw1, rfl, hws1, hx11⟩
      have K7 := Lib.hid (K6.out.ext hx11)
      have O11 := Lib.hid (O10.out.ext hx11)
      have BA11 := Lib.hid ((Below.block hx11 _ (Array.getElem?_eq_some_iff.1 BA10.out).1).trans BA10.out)
      have BB11 := Lib.hid ((Below.block hx11 _ (Array.getElem?_eq_some_iff.1 BB10.out).1).trans BB10.out)
      have WS11 := Lib.hid hws1
      clear hx11 hws1 K6 O10 BA10 BB10 x0 x1
      obtain ⟨x0, x1⟩ := cells2 K7.out.two
      obtain ⟨y0, y1, y2, y3⟩ := cells4 BB11.out
      go_wp2_with fail
      refine (C3.out _ _ _ K7.out.a (O11.out.rowStay hg8)).mono ?_
      rintro e w12 ⟨q3, cc3, rfl, hA12, hO12, hT12⟩
      have K8 := Lib.hid (K7.out.put hA12 hT12)
      have O12 := Lib.hid hO12
      have BA12 := Lib.hid (hT12.keep BA11.out hga)
      have BB12 := Lib.hid (hT12.keep BB11.out hgb)
      have hg10 : g < W10.heap.size := K6'.out
      have P12 := Lib.hid (O11.out.turn hT12 (fun b hb hm => by have h1 := (O11.out.own b hb).1; rw [List.mem_singleton.1 hm] at h1; omega))
      have WS12 := Lib.hid (WS11.out.turn hT12 (fun b hb hm => by have h1 := (WS11.out.own b hb).1; rw [List.mem_singleton.1 hm] at h1; omega))
      have hg11 : g < w11.heap.size := K7.out.a.lt.2.1
      clear hA12 hO12 hT12 K7 O11 BA11 BB11 WS11 x0 x1 y0 y1 y2 y3
      go_upto_region 14 with fail
      refine wp_alloc1 fun W13 hE13 hS13 b13 => ?_
      have K9 := Lib.hid (K8.out.ext hE13)
      have O13 := Lib.hid (O12.out.ext hE13)
      have P13 := Lib.hid (P12.out.ext hE13)
      have WS13 := Lib.hid (WS12.out.ext hE13)
      have BA13 := Lib.hid ((Below.block hE13 _ (Array.getElem?_eq_some_iff.1 BA12.out).1).trans BA12.out)
      have BB13 := Lib.hid ((Below.block hE13 _ (Array.getElem?_eq_some_iff.1 BB12.out).1).trans BB12.out)
      have BC13 := Lib.hid b13
      have hgc : w12.heap.size ≠ g := by have := K8.out.a.lt.2.1; omega
      clear hE13 hS13 b13 K8 O12 P12 WS12 BA12 BB12
      generalize w12.heap.size = tC at *
      obtain ⟨x0, x1⟩ := cells2 K9.out.two
      obtain ⟨y0, y1, y2, y3⟩ := cells4 BC13.out
      go_wp2_with fail
      refine (C2.out _ _ _ K9.out.a (O13.out.rowStay hg11)).mono ?_
      rintro e w14 ⟨q4, cc4, rfl, hA14, hO14, hT14⟩
      have K10 := Lib.hid (K9.out.put hA14 hT14)
      have O14 := Lib.hid hO14
      have BA14 := Lib.hid (hT14.keep BA13.out hga)
      have BB14 := Lib.hid (hT14.keep BB13.out hgb)
      have P14 := Lib.hid (P13.out.turn hT14 (fun b hb hm => by have h1 := (P13.out.own b hb).1; rw [List.mem_singleton.1 hm] at h1; omega))
      have WS14 := Lib.hid (WS13.out.turn hT14 (fun b hb hm => by have h1 := (WS13.out.own b hb).1; rw [List.mem_singleton.1 hm] at h1; omega))
      clear hA14 hO14 hT14 K9 O13 BA13 BB13 BC13 P13 WS13 x0 x1 y0 y1 y2 y3
      go_upto_region 15 with fail
      refine wp_alloc1 fun W15 hE15 hS15 b15 => ?_
      have K11 := Lib.hid (K10.out.ext hE15)
      have O15 := Lib.hid (O14.out.ext hE15)
      have P15 := Lib.hid (P14.out.ext hE15)
      have WS15 := Lib.hid (WS14.out.ext hE15)
      have BA15 := Lib.hid ((Below.block hE15 _ (Array.getElem?_eq_some_iff.1 BA14.out).1).trans BA14.out)
      have BB15 := Lib.hid ((Below.block hE15 _ (Array.getElem?_eq_some_iff.1 BB14.out).1).trans BB14.out)
      have BD15 := Lib.hid b15
      clear hE15 hS15 b15 K10 O14 P14 WS14 BA14 BB14
      generalize w14.heap.size = tD at *
      obtain ⟨x0, x1⟩ := cells2 K11.out.two
      go_wp2_with fail
      refine (words_own K11.out.a (by omega)).mono ?_
      rintro e w16 ⟨qw2, lw2, cw2, rfl, hws2, hx16⟩
      have K12 := Lib.hid (K11.out.ext hx16)
      have O16 := Lib.hid (O15.out.ext hx16)
      have P16 := Lib.hid (P15.out.ext hx16)
      have WS16 := Lib.hid (WS15.out.ext hx16)
      have WT16 := Lib.hid hws2
      have BA16 := (Below.block hx16 _ (Array.getElem?_eq_some_iff.1 BA15.out).1).trans BA15.out
      have BB16 := (Below.block hx16 _ (Array.getElem?_eq_some_iff.1 BB15.out).1).trans BB15.out
      have BD16 := (Below.block hx16 _ (Array.getElem?_eq_some_iff.1 BD15.out).1).trans BD15.out
      have BE16 := K12.out.hp
      clear hx16 hws2 K11 O15 P15 WS15 BA15 BB15 BD15 x0 x1
      obtain ⟨a0, a1, a2, a3⟩ := cells4 BA16
      obtain ⟨c0, c1, c2, c3⟩ := cells4 BB16
      obtain ⟨e0, e1, e2, e3⟩ := cells4 BD16
      obtain ⟨y0, y1, y2, y3⟩ := cells4 BE16
      go_wp2_with fail
      refine (keep_words (WordSl.of_rows P16.out.p) (WordSl.of_rows O16.out.p)).mono ?_
      rintro e w17 ⟨rfl, hx17⟩
      rw [show decide (r2 = r2) = true by simp]
      have K13 := Lib.hid (K12.out.ext hx17)
      have WS17 := Lib.hid (WS16.out.ext hx17)
      have WT17 := Lib.hid (WT16.out.ext hx17)
      have BA17 := (Below.block hx17 _ (Array.getElem?_eq_some_iff.1 BA16).1).trans BA16
      have BB17 := (Below.block hx17 _ (Array.getElem?_eq_some_iff.1 BB16).1).trans BB16
      clear hx17 K12 O16 P16 WS16 WT16 BA16 BB16 BD16 BE16 a0 a1 a2 a3 c0 c1 c2 c3 e0 e1 e2 e3 y0 y1 y2 y3
      obtain ⟨a0, a1, a2, a3⟩ := cells4 BA17
      obtain ⟨c0, c1, c2, c3⟩ := cells4 BB17
      go_wp2_with fail
      refine (keep_words (WordSl.of_rows WS17.out.p) (WordSl.of_rows WT17.out.p)).mono ?_
      rintro e w18 ⟨rfl, hx18⟩
      rw [show decide (wordsAt ws2 (rigR (max 1 l.length)) 3 = wordsAt ws2 (rigR (max 1 l.length)) 3) = true by simp]
      have K14 := Lib.hid (K13.out.ext hx18)
      have BA18 := (Below.block hx18 _ (Array.getElem?_eq_some_iff.1 BA17).1).trans BA17
      have BB18 := (Below.block hx18 _ (Array.getElem?_eq_some_iff.1 BB17).1).trans BB17
      clear hx18 K13 WS17 WT17 BA17 BB17 a0 a1 a2 a3 c0 c1 c2 c3
      obtain ⟨a0, a1, a2, a3⟩ := cells4 BA18
      obtain ⟨c0, c1, c2, c3⟩ := cells4 BB18
      go_wp2_with fail
      refine (wakes4 _).mono ?_
      rintro e w19 ⟨rfl, hx19⟩
      have K15 := Lib.hid (K14.out.ext hx19)
      clear hx19 K14 a0 a1 a2 a3 c0 c1 c2 c3 BA18 BB18
      go_wp2
      go_ret
      refine ⟨rfl, Turn.after HX2.out K15.out.t (fun b hb => ?_)⟩
      have h2 := HT0.out
      have h3 := HT1.out
      simp only [List.mem_cons, List.not_mem_nil, or_false] at hb
      rcases hb with rfl | rfl <;> omega
end Go.Proofs.Ytinakendlpomnaa
/- GcTwice: the walk, as the row's reading hands it. -/
namespace Go.Proofs.Ytinakendlpomnaa
open Go Go.RowKit Go.Maps Arena
theorem twice_walk' {w : World} {v vr : Value} {x : RawI} {l : List Int} (h : v = .agg (rawC x).toArray ∧ RawP w x) (hr : WdsP w vr l) : Calls Try.prog 3 #[v, vr] w (TrueExt w) := by
  obtain ⟨rfl, hp⟩ := h
  exact twice_walk hp.p hp.h hr
end Go.Proofs.Ytinakendlpomnaa
