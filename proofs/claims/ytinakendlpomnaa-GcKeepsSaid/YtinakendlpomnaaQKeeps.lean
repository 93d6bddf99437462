/- Proved here: the contracts and laws of GcM, GcV, RowIn, ObjIn, GcN, GcU, GcSA, GcSC, GcSB, GcSD of this claim, each beneath its own remark; conditions: those that each theorem names. -/
import Derived.Test.YtinakendlpomnaaM9
import Derived.Test.YtinakendlpomnaaM6
import Derived.Test.YtinakendlpomnaaM7
import Derived.Test.YtinakendlpomnaaM3
import Derived.Test.YtinakendlpomnaaM1
import Derived.Test.YtinakendlpomnaaM5
import Derived.Test.YtinakendlpomnaaM4
import Derived.IntWalk
import Derived.Deep.CutBlock
/- The reference's May. -/
namespace Go.Proofs.Ytinakendlpomnaa
open Go.RowKit Go.Maps Arena
set_option maxHeartbeats 4000000
set_option maxRecDepth 100000
theorem rmay_is {w : World} {q gq B n : Nat} {ws : List Int} {vR : Value} {R : List (Nat × Nat)} (H : RefAt w q gq B n ws vR R) (h : Hp) (hW : ∀ x ∈ ws, W64 x) {qr : Option Addr} {c : Nat} {roots : List Int} (hr : RowsP w (.slice qr roots.length c) 1 (roots.map wordC)) (hr64 : ∀ x ∈ roots, W64 x) (hrl : roots.length ≤ 100000) :
    Calls Try.prog 9 #[.pointer (some ⟨q, 0, none⟩), .agg #[.int .i64 h.base, .int .i64 h.half, .int .i64 h.space, .int .i64 h.top], .slice qr roots.length c] w fun e w' => e = .returned (.bool (mayH ws R h roots).isSome) ∧ Ext w w' := by
  have HA := Lib.hid (fun W (e : Ext w W) => rall_is (H.ext e) h hW)
  have hpl : ∀ L, allH ws R h = some L → L.length ≤ 100000 := by
    intro L hL
    obtain ⟨ht, _⟩ := allH_there hL
    have h1 := allH_ok H.good H.len hL
    have h2 := sizeF_ge L
    have h3 := h1.size
    obtain ⟨⟨a1, a2, _⟩, _⟩ := thereB_ok ht
    omega
  have HR := Lib.hid hr; have HR64 := Lib.hid hr64
  cases hall : allH ws R h with
  | none =>
    rw [hall] at HA
    have hm : (mayH ws R h roots).isSome = false := by unfold mayH; rw [hall]; rfl
    rw [hm]
    clear H hW hr hr64 hpl hall hm
    go_enter Try.func9, Try.ntmps9
    go_wp2_with fail
    refine at_alloc1 fun W hE hS b0 => ?_
    refine (HA.out W hE).mono ?_
    rintro e w1 ⟨rfl, hx1⟩
    have HX := Lib.hid (hE.trans hx1)
    clear hE hS b0 hx1
    unfold zeroPV
    go_upto_region 2 with fail
    refine wp_alloc1 fun W2 hE2 hS2 b2 => ?_
    have HX2 := Lib.hid (HX.out.trans hE2)
    obtain ⟨z0, z1⟩ := cells2 b2
    clear hE2 hS2
    generalize w1.heap.size = bp at *
    go_wp2_with fail
    go_loopw [8] (fun i wr => i = .int .i64 0 ∧ wr = W2) (fun _ _ => 0)
    case atStart => exact ⟨rfl, rfl⟩
    case round =>
      obtain ⟨rfl, rfl⟩ := hrel
      by_cases h0 : 0 < roots.length
      · have i1 : (0 : Int) < (roots.length : Int) := by omega
        go_wp2_with fail
        go_ret
        exact ⟨rfl, HX2.out⟩
      · have i1 : ¬ (0 : Int) < (roots.length : Int) := by omega
        go_wp2_with fail
        go_ret
        exact ⟨rfl, HX2.out⟩
  | some L =>
    rw [hall] at HA
    have hLl := hpl L hall
    have hm : (mayH ws R h roots).isSome = roots.all (fieldOK (L.map (·.1)) (firstN h)) := by
      unfold mayH
      rw [hall]
      simp only
      split <;> simp_all
    rw [hm]
    generalize firstN h = first at *
    clear H hW hr hr64 hpl hall hm
    go_enter Try.func9, Try.ntmps9
    go_wp2_with fail
    refine at_alloc1 fun W hE hS b0 => ?_
    refine (HA.out W hE).mono ?_
    rintro e w1 ⟨q2, c2, rfl, ho, hx1⟩
    have HX := Lib.hid (hE.trans hx1)
    have HO := Lib.hid ho.p
    clear hE hS b0 hx1 ho
    go_upto_region 2 with fail
    refine wp_alloc1 fun W2 hE2 hS2 b2 => ?_
    have HX2 := Lib.hid (HX.out.trans hE2)
    have HO2 := Lib.hid (HO.out.ext hE2)
    have HB2 := Lib.hid b2
    clear hE2 hS2 b2 HO HX
    generalize w1.heap.size = bp at *
    obtain ⟨z0, z1⟩ := cells2 HB2.out
    go_wp2_with fail
    go_loopw [8] (fun i wr => ∃ k : Nat, k ≤ roots.length ∧ i = .int .i64 k ∧ Hid ((roots.take k).all (fieldOK (L.map (·.1)) first) = true) ∧ Ext W2 wr) (fun i _ => roots.length - (Go.RowKit.intOf i).toNat)
    case atStart => exact ⟨0, Nat.zero_le _, rfl, Lib.hid rfl, by first | exact Ext.refl _ | exact Ext.drew _⟩
    case round =>
      obtain ⟨k, hk, rfl, HFA, hxk⟩ := hrel
      have HXK := Lib.hid hxk
      clear hxk z0 z1
      obtain ⟨z0, z1⟩ := cells2 ((Below.block HXK.out bp (Array.getElem?_eq_some_iff.1 HB2.out).1).trans HB2.out)
      by_cases hlt : k < roots.length
      · obtain ⟨x, hx⟩ : ∃ x, roots[k]? = some x := ⟨_, List.getElem?_eq_getElem hlt⟩
        have hx64 := HR64.out x (List.mem_of_getElem? hx)
        obtain ⟨q3, c3, hv3, _, _, hcell⟩ := ((HR.out.ext HX2.out).ext HXK.out).at
        rw [List.length_map] at hv3
        obtain ⟨rfl, -, rfl⟩ := Value.slice.inj hv3
        obtain ⟨bb, off, rfl, hcc⟩ := hcell k (wordC x) (by rw [List.getElem?_map, hx]; rfl)
        have hcx := hcc 0 _ rfl
        rw [Nat.add_zero, Nat.mul_one] at hcx
        have IS := Lib.hid (fun W (e : Ext W2 W) => ris_is (ok := true) hx64 W (HO2.out.ext e) hLl)
        have hnext : fieldOK (L.map (·.1)) first x = true → (roots.take (k + 1)).all (fieldOK (L.map (·.1)) first) = true := by
          intro hf
          obtain ⟨h1, rfl⟩ := List.getElem?_eq_some_iff.1 hx
          rw [List.take_succ_eq_append_getElem h1, List.all_append, HFA.out]
          simp [hf]
        have hbad : fieldOK (L.map (·.1)) first x = false → roots.all (fieldOK (L.map (·.1)) first) = false := by
          intro hf
          rw [List.all_eq_false]
          exact ⟨x, List.mem_of_getElem? hx, by rw [hf]; simp⟩
        obtain ⟨fo, hfo⟩ : ∃ fo, fo = fieldOK (L.map (·.1)) first x := ⟨_, rfl⟩
        rw [← hfo] at IS hnext hbad
        have HNX := Lib.hid hnext; have HBD := Lib.hid hbad
        clear hnext hbad hfo hx hcc hcell hv3 hx64
        go_upto_region 5 with fail
        refine wp_region_noPanic ?_
        refine wp_region_last 6 (S := (fun w' => w'.cell? ⟨bp, 0, none⟩ = some (.slice q2 L.length c2) ∧ w'.cell? ⟨bp, 1, none⟩ = some (.bool true) ∧ w'.cell? ⟨bb, off + k, none⟩ = some (.int .u64 x))) (by kernel_rfl) (by kernel_rfl) _ rfl ?_ (fun hHeld => ?_)
        · (first | with_reducible exact ⟨(Ext.drew _).cell z0, (Ext.drew _).cell z1, (Ext.drew _).cell hcx⟩ | with_reducible exact ⟨hx9'.cell z0, hx9'.cell z1, hx9'.cell hcx⟩)
        simp only [List.take_succ_cons, List.take_zero]
        refine wpAnyH_take (i := 0) (v := ?v1) rfl (by kernel_rfl) (by kernel_rfl) (by kernel_rfl) (fun _ _ _ h => h) (Or.inl ⟨by rfl, ?y1⟩) (by assumption) ?r1
        case y1 => intro w hSw; (try dsimp only at hSw); go_simp; (try with_reducible rfl)
        (try simp only [Act.put, List.setIfInBounds_toArray, List.set_cons_zero, List.set_cons_succ, List.getElem_toArray, List.getElem_cons_zero, List.getElem_cons_succ])
        refine wpAnyH_take (i := 1) (v := ?v2) rfl (by kernel_rfl) (by kernel_rfl) (by kernel_rfl) (fun _ _ _ h => h) (Or.inl ⟨by rfl, ?y2⟩) (by assumption) ?r2
        case y2 => intro w hSw; (try dsimp only at hSw); go_simp; (try with_reducible rfl)
        (try simp only [Act.put, List.setIfInBounds_toArray, List.set_cons_zero, List.set_cons_succ, List.getElem_toArray, List.getElem_cons_zero, List.getElem_cons_succ])
        refine wpAnyH_take (i := 2) (v := ?v3) rfl (by kernel_rfl) (by kernel_rfl) (by kernel_rfl) (fun _ _ _ h => h) (Or.inl ⟨by rfl, ?y3⟩) (by assumption) ?r3
        case y3 => intro w hSw; (try dsimp only at hSw); go_simp; (try with_reducible rfl)
        (try simp only [Act.put, List.setIfInBounds_toArray, List.set_cons_zero, List.set_cons_succ, List.getElem_toArray, List.getElem_cons_zero, List.getElem_cons_succ])
        refine wpAnyH_take (i := 3) (v := ?v4) rfl (by kernel_rfl) (by kernel_rfl) (by kernel_rfl) (fun _ _ _ h => h) (Or.inl ⟨by rfl, ?y4⟩) (by assumption) ?r4
        case y4 => intro w hSw; (try dsimp only at hSw); go_simp; (try with_reducible rfl)
        (try simp only [Act.put, List.setIfInBounds_toArray, List.set_cons_zero, List.set_cons_succ, List.getElem_toArray, List.getElem_cons_zero, List.getElem_cons_succ])
        refine wpAnyH_take (i := 4) (v := ?v5) rfl (by kernel_rfl) (by kernel_rfl) (by kernel_rfl) (fun _ _ _ h => h) (Or.inl ⟨by rfl, ?y5⟩) (by assumption) ?r5
        case y5 => intro w hSw; (try dsimp only at hSw); go_simp; (try with_reducible rfl)
        (try simp only [Act.put, List.setIfInBounds_toArray, List.set_cons_zero, List.set_cons_succ, List.getElem_toArray, List.getElem_cons_zero, List.getElem_cons_succ])
        refine wpAnyH_ready (rs := [5]) (by kernel_rfl) (by simp) ?_
        refine AllReadyH.cons rfl (fun K hK => ?_) AllReadyH.nil
        go_simp
        refine (IS.out _ (HXK.out.trans (Ext.drew _))).mono ?_
        rintro e w9 ⟨rfl, hx9⟩
        have hx9' : Ext wr w9 := (Ext.drew wr).trans hx9
        refine hK.out _ _ ?s6 (fun hHeld => ?k6)
        case s6 => ((try dsimp only); (first | with_reducible exact ⟨(Ext.drew _).cell z0, (Ext.drew _).cell z1, (Ext.drew _).cell hcx⟩ | with_reducible exact ⟨hx9'.cell z0, hx9'.cell z1, hx9'.cell hcx⟩))
        clear hK K
        (try simp only [Act.put, List.setIfInBounds_toArray, List.set_cons_zero, List.set_cons_succ, List.getElem_toArray, List.getElem_cons_zero, List.getElem_cons_succ])
        refine wpAnyH_done (by kernel_rfl) ?_ _
        show wpList _ _ _ _ _ _
        have HX9 := Lib.hid (HXK.out.trans hx9')
        clear hx9 hx9' hHeld
        cases fo with
        | true =>
          go_wp2
          refine NoPanic.normal ?_
          go_wp2
          exact ⟨⟨k + 1, by omega, by go_num, Lib.hid (HNX.out (by first | rfl | trivial)), HX9.out⟩, by simp [Go.RowKit.intOf]; omega⟩
        | false =>
          go_wp2
          refine NoPanic.normal ?_
          go_wp2
          go_ret
          rw [HBD.out (by first | rfl | trivial)]
          exact ⟨rfl, HX2.out.trans HX9.out⟩
      · obtain rfl : k = roots.length := by omega
        go_wp2_with fail
        go_ret
        have := HFA.out
        rw [List.take_length] at this
        rw [this]
        exact ⟨rfl, HX2.out.trans HXK.out⟩
end Go.Proofs.Ytinakendlpomnaa
/- Three collections are one; the live words, the roots. Plain. -/
namespace Go.Proofs.Ytinakendlpomnaa
open Go.RowKit Go.Maps Arena
set_option maxRecDepth 100000
theorem phi_sizes (f : Int → Int) (Fin : List (Nat × Ob)) (G : List (Nat × Ob)) : sizeF (G.map (phi f Fin)) = sizeF G := by
  induction G with
  | nil => rfl
  | cons y G ih =>
    simp only [List.map_cons, sizeF]
    rw [ih]
    unfold phi
    rw [mapO_words]
theorem newHs_size (o0 o1 : Nat) (F : List (Nat × Ob)) : sizeF (newHs o0 o1 F) = sizeF F := phi_sizes _ _ _
section
variable {o0 o1 H : Nat} {Hs F : List (Nat × Ob)}
/-- behind a collection a collection may be, and leans on the same -/
theorem Gc.next (g : Gc o0 o1 H Hs F) : Gc o1 o0 H (newHs o0 o1 F) (newHs o0 o1 F) := by
  have hpl : ∀ y ∈ F, offF F y.1 + wordsO y.2 ≤ sizeF F := fun y hy => by
    obtain ⟨i, hi, rfl⟩ := List.getElem_of_mem hy
    rw [offF_at g.fin (List.getElem?_eq_getElem hi)]
    have e5 : sizeF F = sizeF (F.take i) + sizeF (F.drop i) := by rw [← sizeF_app, List.take_append_drop]
    rw [List.drop_eq_getElem_cons hi] at e5
    simp only [sizeF] at e5
    omega
  have hap : (newHs o0 o1 F).Pairwise fun a b => a.1 + wordsO a.2 ≤ b.1 := by
    refine List.pairwise_iff_getElem.2 fun i j hi hj hij => ?_
    have e : ∀ i (hi : i < F.length) (hi' : i < (newHs o0 o1 F).length), (newHs o0 o1 F)[i] = phi (newW o0 o1 F) F F[i] := fun i hi hi' => List.getElem_map ..
    have hi2 := hi
    have hj2 := hj
    rw [newHs_len] at hi2 hj2
    rw [e i hi2, e j hj2]
    have hi := hi2
    have hj := hj2
    show offF F (F[i]).1 + wordsO (mapO _ (F[i]).2) ≤ offF F (F[j]).1
    rw [mapO_words, offF_at g.fin (List.getElem?_eq_getElem hi), offF_at g.fin (List.getElem?_eq_getElem hj)]
    have e5 : sizeF (F.take j) = sizeF (F.take (i + 1)) + sizeF ((F.take j).drop (i + 1)) := by
      rw [← sizeF_app]
      congr 1
      conv => lhs; rw [← List.take_append_drop (i + 1) (F.take j)]
      rw [List.take_take, Nat.min_eq_left (by omega)]
    rw [List.take_succ_eq_append_getElem hi, sizeF_app] at e5
    simp only [sizeF] at e5
    omega
  have hsz := g.size
  have hfix : ∀ y ∈ F, ∀ x ∈ y.2.fields, W64 x ∧ fieldOK (Hs.map (·.1)) o0 x = true ∧ ClosedAt o0 Hs F x := fun y hy x hx => ⟨(g.ok y (g.fin.sub y hy) x hx).1, (g.ok y (g.fin.sub y hy) x hx).2, g.cl y hy x hx⟩
  refine ⟨⟨hap, fun z hz => ?_, fun z hz => ?_, by rw [newHs_size]; exact hsz⟩, ⟨fun y hy => hy, hap.imp fun {a b} h => by have := wordsO_pos a.2; omega⟩, fun z hz v hv u hu => ?_, fun z hz v hv => ?_, g.small.2, g.small.1⟩
  · obtain ⟨y, hy, rfl⟩ := List.mem_map.1 hz
    have := hpl y hy
    unfold phi
    rw [mapO_words]
    dsimp only
    omega
  · obtain ⟨y, hy, rfl⟩ := List.mem_map.1 hz
    unfold phi
    rw [mapO_may]
    exact g.hs.may y (g.fin.sub y hy)
  · exact inF_true.2 ⟨u, (getL_some hu).1, rfl⟩
  · obtain ⟨y, hy, rfl⟩ := List.mem_map.1 hz
    obtain ⟨x, hx, rfl⟩ := List.mem_map.1 hv
    obtain ⟨h1, h2, h3⟩ := hfix y hy x hx
    refine ⟨(g.newInt h1 h2 h3).2, ?_⟩
    rcases ok_cases h2 h1 with hi | ⟨u, hu⟩
    · rw [newW_int hi]; unfold fieldOK; rw [hi]; rfl
    · have huF := g.mem hu h3
      obtain ⟨e1, e2, e3⟩ := g.new_of hu huF
      have e4 := offF_lt huF
      have := g.small
      unfold fieldOK
      rw [e1]
      simp only [Bool.or_eq_true, Bool.and_eq_true, decide_eq_true_eq, List.any_eq_true]
      exact .inr ⟨by omega, offF F u.1, List.mem_map.2 ⟨_, List.mem_map.2 ⟨u, huF, rfl⟩, rfl⟩, by omega⟩
/-- a good word, of what is moved -/
def Wd (o0 : Nat) (Hs F : List (Nat × Ob)) (x : Int) : Prop := W64 x ∧ fieldOK (Hs.map (·.1)) o0 x = true ∧ ClosedAt o0 Hs F x
theorem Gc.wd (g : Gc o0 o1 H Hs F) {x : Int} (h : Wd o0 Hs F x) : Wd o1 (newHs o0 o1 F) (newHs o0 o1 F) (newW o0 o1 F x) := by
  obtain ⟨h1, h2, h3⟩ := h
  refine ⟨(g.newInt h1 h2 h3).2, ?_, fun u hu => inF_true.2 ⟨u, (getL_some hu).1, rfl⟩⟩
  rcases ok_cases h2 h1 with hi | ⟨u, hu⟩
  · rw [newW_int hi]; unfold fieldOK; rw [hi]; rfl
  · have huF := g.mem hu h3
    obtain ⟨e1, e2, e3⟩ := g.new_of hu huF
    have e4 := offF_lt huF
    have := g.small
    have := g.size
    unfold fieldOK
    rw [e1]
    simp only [Bool.or_eq_true, Bool.and_eq_true, decide_eq_true_eq, List.any_eq_true]
    exact .inr ⟨by omega, offF F u.1, List.mem_map.2 ⟨_, List.mem_map.2 ⟨u, huF, rfl⟩, rfl⟩, by omega⟩
/-- where an object stands behind two collections, there it stands -/
theorem off_new (g : Gc o0 o1 H Hs F) {y : Nat × Ob} (hy : y ∈ F) : offF (newHs o0 o1 F) (offF F y.1) = offF F y.1 := by
  obtain ⟨i, hi, rfl⟩ := List.getElem_of_mem hy
  have h1 := offF_at g.next.fin (i := i) (y := phi (newW o0 o1 F) F F[i]) (by unfold newHs; rw [List.getElem?_map, List.getElem?_eq_getElem hi]; rfl)
  have h2 : (phi (newW o0 o1 F) F F[i]).1 = offF F (F[i]).1 := rfl
  rw [h2] at h1
  rw [h1, offF_at g.fin (List.getElem?_eq_getElem hi)]
  unfold newHs
  rw [← List.map_take, phi_sizes]
theorem Gc.twice (g : Gc o0 o1 H Hs F) {x : Int} (h : Wd o0 Hs F x) {y : Nat × Ob} (hg : getL o0 Hs x = some y) : newW o1 o0 (newHs o0 o1 F) (newW o0 o1 F x) = ((2 * (o0 + offF F y.1) : Nat) : Int) := by
  have hyF := g.mem hg h.2.2
  have h1 := newW_of (o1 := o0) (F := newHs o0 o1 F) (g.get_new hg hyF)
  rw [h1]
  have h2 : (phi (newW o0 o1 F) F y).1 = offF F y.1 := rfl
  rw [h2, off_new g hyF]
theorem Gc.thrice (g : Gc o0 o1 H Hs F) {x : Int} (h : Wd o0 Hs F x) : newW o0 o1 (newHs o1 o0 (newHs o0 o1 F)) (newW o1 o0 (newHs o0 o1 F) (newW o0 o1 F x)) = newW o0 o1 F x := by
  rcases ok_cases h.2.1 h.1 with hi | ⟨y, hy⟩
  · rw [newW_int hi, newW_int hi, newW_int hi]
  · have hyF := g.mem hy h.2.2
    have hw1 := g.wd h
    have hget := g.get_new hy hyF
    have h3 := g.next.twice hw1 hget
    have h4 := g.new_of hy hyF
    have h2 : (phi (newW o0 o1 F) F y).1 = offF F y.1 := rfl
    rw [h3, h2, off_new g hyF, h4.1]
/-- behind three collections the objects are what they were behind the first -/
theorem Gc.same (g : Gc o0 o1 H Hs F) : newHs o0 o1 (newHs o1 o0 (newHs o0 o1 F)) = newHs o0 o1 F := by
  have h1 : ∀ y ∈ F, phi (newW o0 o1 (newHs o1 o0 (newHs o0 o1 F))) (newHs o1 o0 (newHs o0 o1 F)) (phi (newW o1 o0 (newHs o0 o1 F)) (newHs o0 o1 F) (phi (newW o0 o1 F) F y)) = phi (newW o0 o1 F) F y := by
    intro y hy
    have hm : phi (newW o0 o1 F) F y ∈ newHs o0 o1 F := List.mem_map.2 ⟨y, hy, rfl⟩
    have e1 : offF (newHs o0 o1 F) (offF F y.1) = offF F y.1 := off_new g hy
    have e2 := off_new g.next hm
    have e3 : (phi (newW o0 o1 F) F y).1 = offF F y.1 := rfl
    rw [e3, e1] at e2
    have e4 : ∀ (a : Nat) (o : Ob) (f f' : Int → Int) (G G' : List (Nat × Ob)), phi f' G' (phi f G (a, o)) = (offF G' (offF G a), mapO f' (mapO f o)) := fun _ _ _ _ _ _ => rfl
    have e5 : phi (newW o0 o1 F) F y = (offF F y.1, mapO (newW o0 o1 F) y.2) := rfl
    rw [e5, e4, e1, e2]
    congr 1
    have hf : ∀ x ∈ y.2.fields, Wd o0 Hs F x := fun x hx => ⟨(g.ok y (g.fin.sub y hy) x hx).1, (g.ok y (g.fin.sub y hy) x hx).2, g.cl y hy x hx⟩
    unfold mapO
    congr 1
    dsimp only
    rw [List.map_map, List.map_map]
    exact List.map_congr_left fun x hx => g.thrice (hf x hx)
  conv => lhs; unfold newHs
  rw [List.map_map, show newHs o0 o1 F = F.map (phi (newW o0 o1 F) F) from rfl, List.map_map]
  exact List.map_congr_left fun y hy => h1 y hy
end
/-! ### a collection, of all -/
structure Gst where
  ws : List Int
  h : Hp
  roots : List Int
/-- a state, its objects, what is live -/
structure GOk (n : Nat) (R : List (Nat × Nat)) (s : Gst) (Hs : List (Nat × Ob)) : Prop where
  len : s.ws.length = n
  may : mayH s.ws R s.h s.roots = some Hs
  w64 : ∀ x ∈ s.ws, W64 x
  r64 : ∀ x ∈ s.roots, W64 x
def gF (s : Gst) (Hs : List (Nat × Ob)) : List (Nat × Ob) := liveF (firstN s.h) Hs s.roots
def gNext (s : Gst) (Hs : List (Nat × Ob)) : Gst := ⟨collWs s.ws s.h (gF s Hs), collH s.h (gF s Hs), s.roots.map (newW (firstN s.h) (otherN s.h) (gF s Hs))⟩
def gHs (s : Gst) (Hs : List (Nat × Ob)) : List (Nat × Ob) := newHs (firstN s.h) (otherN s.h) (gF s Hs)
section
variable {n : Nat} {R : List (Nat × Nat)} {s : Gst} {Hs : List (Nat × Ob)}
theorem GOk.all (k : GOk n R s Hs) : allH s.ws R s.h = some Hs := (mayH_some k.may).1
theorem GOk.nums (k : GOk n R s Hs) (hg : Arena.Good n R) : ∃ ba H sp, HpN s.h ba H sp n R := hpN_of hg (allH_there k.all).1
theorem GOk.gc (k : GOk n R s Hs) (hg : Arena.Good n R) {ba H sp : Nat} (N : HpN s.h ba H sp n R) : Gc (firstN s.h) (otherN s.h) H Hs (gF s Hs) := gc_of hg k.len k.w64 k.all N s.roots
theorem GOk.root (k : GOk n R s Hs) : ∀ x ∈ s.roots, Wd (firstN s.h) Hs (gF s Hs) x := fun x hx => ⟨k.r64 x hx, (mayH_some k.may).2 x hx, (live_closed _ _ _).1 x hx⟩
theorem gNext_first (s : Gst) (Hs : List (Nat × Ob)) : firstN (gNext s Hs).h = otherN s.h := rfl
theorem GOk.other (k : GOk n R s Hs) (hg : Arena.Good n R) : otherN (gNext s Hs).h = firstN s.h := by
  obtain ⟨ba, H, sp, N⟩ := k.nums hg
  unfold otherN firstN gNext collH
  dsimp only
  congr 1
  rw [show 1 - (1 - s.h.space) = s.h.space by omega]
theorem GOk.next (k : GOk n R s Hs) (hg : Arena.Good n R) : GOk n R (gNext s Hs) (gHs s Hs) := by
  obtain ⟨ba, H, sp, N⟩ := k.nums hg
  have g := k.gc hg N
  have hl := collWs_len (roots := s.roots) hg k.len k.w64 k.all
  have ha := coll_all (roots := s.roots) hg k.len k.w64 k.all
  refine ⟨hl.1, ?_, hl.2, fun x hx => ?_⟩
  · unfold mayH
    have : allH (gNext s Hs).ws R (gNext s Hs).h = some (gHs s Hs) := ha
    rw [this]
    simp only
    rw [if_pos]
    refine List.all_eq_true.2 fun x hx => ?_
    obtain ⟨v, hv, rfl⟩ := List.mem_map.1 hx
    exact (g.wd (k.root v hv)).2.1
  · obtain ⟨v, hv, rfl⟩ := List.mem_map.1 hx
    exact (g.wd (k.root v hv)).1
/-- behind a collection all is live -/
theorem GOk.live (k : GOk n R s Hs) (hg : Arena.Good n R) : gF (gNext s Hs) (gHs s Hs) = gHs s Hs := by
  obtain ⟨ba, H, sp, N⟩ := k.nums hg
  exact live_new (k.gc hg N) fun x hx => ⟨k.r64 x hx, (mayH_some k.may).2 x hx⟩
theorem GOk.top (k : GOk n R s Hs) (hg : Arena.Good n R) : sizeF (gF (gNext s Hs) (gHs s Hs)) = sizeF (gF s Hs) := by rw [k.live hg]; exact newHs_size _ _ _
theorem regW_regW {ws V V' : List Int} {ba : Nat} (h : ba + V.length ≤ ws.length) (h' : V'.length = V.length) : regW (regW ws ba V) ba V' = regW ws ba V' := by
  unfold regW
  rw [List.take_append_of_le_length (by rw [List.length_take]; omega), List.take_take, Nat.min_self, h']
  congr 2
  rw [← List.append_assoc, List.drop_append_of_le_length (by rw [List.length_append, List.length_take]; omega), List.drop_of_length_le (by rw [List.length_append, List.length_take]; omega), List.nil_append]
/-- three collections come to what one comes to -/
theorem GOk.three (k : GOk n R s Hs) (hg : Arena.Good n R) : gNext (gNext (gNext s Hs) (gHs s Hs)) (gHs (gNext s Hs) (gHs s Hs)) = gNext s Hs ∧ gHs (gNext (gNext s Hs) (gHs s Hs)) (gHs (gNext s Hs) (gHs s Hs)) = gHs s Hs := by
  obtain ⟨ba, H, sp, N⟩ := k.nums hg
  have g := k.gc hg N
  have k1 := k.next hg
  have k2 := k1.next hg
  have l1 := k.live hg
  have l2 := k1.live hg
  have o1 := k.other hg
  have o2 := k1.other hg
  have f1 := gNext_first s Hs
  have f2 := gNext_first (gNext s Hs) (gHs s Hs)
  have eH1 : gHs s Hs = newHs (firstN s.h) (otherN s.h) (gF s Hs) := rfl
  have eH2 : gHs (gNext s Hs) (gHs s Hs) = newHs (otherN s.h) (firstN s.h) (gHs s Hs) := by
    unfold gHs at l1 ⊢
    rw [f1, o1, l1]
  have e3 : gHs (gNext (gNext s Hs) (gHs s Hs)) (gHs (gNext s Hs) (gHs s Hs)) = gHs s Hs := by
    have : gHs (gNext (gNext s Hs) (gHs s Hs)) (gHs (gNext s Hs) (gHs s Hs)) = newHs (firstN s.h) (otherN s.h) (gHs (gNext s Hs) (gHs s Hs)) := by
      conv => lhs; unfold gHs
      rw [show newHs (firstN (gNext s Hs).h) (otherN (gNext s Hs).h) (gF (gNext s Hs) (newHs (firstN s.h) (otherN s.h) (gF s Hs))) = gHs (gNext s Hs) (gHs s Hs) from rfl]
      rw [show newHs (firstN s.h) (otherN s.h) (gF s Hs) = gHs s Hs from rfl]
      rw [f2, o2, f1, o1, l2]
    rw [this, eH2, eH1]
    exact g.same
  refine ⟨?_, e3⟩
  have hsz1 : sizeF (gHs s Hs) = sizeF (gF s Hs) := newHs_size _ _ _
  have hsz2 : sizeF (gHs (gNext s Hs) (gHs s Hs)) = sizeF (gF s Hs) := by rw [eH2, newHs_size, hsz1]
  -- the heaps
  have hh : (gNext (gNext (gNext s Hs) (gHs s Hs)) (gHs (gNext s Hs) (gHs s Hs))).h = (gNext s Hs).h := by
    show (⟨s.h.base, s.h.half, 1 - (1 - (1 - s.h.space)), ((sizeF (gF (gNext (gNext s Hs) (gHs s Hs)) (gHs (gNext s Hs) (gHs s Hs))) : Nat) : Int)⟩ : Hp) = ⟨s.h.base, s.h.half, 1 - s.h.space, ((sizeF (gF s Hs) : Nat) : Int)⟩
    rw [l2, hsz2, show 1 - (1 - (1 - s.h.space)) = 1 - s.h.space by omega]
  have hroots : (gNext (gNext (gNext s Hs) (gHs s Hs)) (gHs (gNext s Hs) (gHs s Hs))).roots = (gNext s Hs).roots := by
    show ((s.roots.map _).map _).map _ = s.roots.map _
    rw [l2, l1, f2, o2, f1, o1, List.map_map, List.map_map, eH2, eH1]
    exact List.map_congr_left fun x hx => g.thrice (k.root x hx)
  have hws : (gNext (gNext (gNext s Hs) (gHs s Hs)) (gHs (gNext s Hs) (gHs s Hs))).ws = (gNext s Hs).ws := by
    have hV : ∀ (s : Gst) (Hs : List (Nat × Ob)) (_ : GOk n R s Hs), (collV s.h (gF s Hs)).length = lenAt R s.h.base ∧ s.h.base.toNat + lenAt R s.h.base ≤ n := by
      intro s Hs k
      obtain ⟨ba, H, sp, N⟩ := k.nums hg
      have g := k.gc hg N
      have := gcB_len g (newW (sp * H) ((1 - sp) * H) (gF s Hs))
      rw [N.coll, mkV_len (H := H) (by simp) this, N.base, N.reg.l, Int.toNat_natCast]
      exact ⟨rfl, N.reg.fit⟩
    have v0 := hV s Hs k
    have v1 := hV _ _ k1
    have v2 := hV _ _ k2
    have b1 : (gNext s Hs).h.base = s.h.base := rfl
    have b2 : (gNext (gNext s Hs) (gHs s Hs)).h.base = s.h.base := rfl
    rw [b1] at v1
    rw [b2] at v2
    show regW (regW (regW s.ws s.h.base.toNat (collV s.h (gF s Hs))) s.h.base.toNat (collV (gNext s Hs).h (gF (gNext s Hs) (gHs s Hs)))) s.h.base.toNat (collV (gNext (gNext s Hs) (gHs s Hs)).h (gF (gNext (gNext s Hs) (gHs s Hs)) (gHs (gNext s Hs) (gHs s Hs)))) = regW s.ws s.h.base.toNat (collV s.h (gF s Hs))
    have kl := k.len
    rw [regW_regW (ws := s.ws) (by rw [v0.1]; omega) (by rw [v1.1, v0.1]), regW_regW (ws := s.ws) (by rw [v1.1]; omega) (by rw [v2.1, v1.1])]
    congr 1
    rw [l2]
    unfold collV
    rw [f2, o2, f1, o1]
    have es : (gNext (gNext s Hs) (gHs s Hs)).h.space = s.h.space := by
      show 1 - (1 - s.h.space) = s.h.space
      omega
    have eh : (gNext (gNext s Hs) (gHs s Hs)).h.half = s.h.half := rfl
    rw [es, eh]
    congr 1
    unfold gcB
    rw [hsz2]
    congr 2
    -- the objects
    have e4 := e3
    have : gHs (gNext (gNext s Hs) (gHs s Hs)) (gHs (gNext s Hs) (gHs s Hs)) = newHs (firstN s.h) (otherN s.h) (gHs (gNext s Hs) (gHs s Hs)) := by
      conv => lhs; unfold gHs
      rw [show newHs (firstN (gNext s Hs).h) (otherN (gNext s Hs).h) (gF (gNext s Hs) (newHs (firstN s.h) (otherN s.h) (gF s Hs))) = gHs (gNext s Hs) (gHs s Hs) from rfl]
      rw [show newHs (firstN s.h) (otherN s.h) (gF s Hs) = gHs s Hs from rfl]
      rw [f2, o2, f1, o1, l2]
    rw [this, eH1] at e4
    have e5 := congrArg (fun L : List (Nat × Ob) => L.map (·.2)) e4
    unfold newHs at e5
    simp only [List.map_map] at e5
    rw [eH1]
    unfold newHs
    exact e5
  cases hA : gNext (gNext (gNext s Hs) (gHs s Hs)) (gHs (gNext s Hs) (gHs s Hs)) with
  | mk a b c =>
    rw [hA] at hh hroots hws
    dsimp only at hh hroots hws
    rw [hh, hroots, hws]
end
end Go.Proofs.Ytinakendlpomnaa
/- A row of rows among the arguments: general. -/
namespace Go.Proofs.Ytinakendlpomnaa
open Go Go.ChangeShapes Go.WideShapes Go.ChangeAt Go.RowKit Go.Deep
set_option maxHeartbeats 4000000
set_option maxRecDepth 100000
theorem flat_inv {s : Nat} (hs : 1 ≤ s) : ∀ (l : List (List Value)), (∀ cs ∈ l, cs.length = s) → ∀ (j : Nat) (u : Value), l.flatten[j]? = some u → ∃ i f cs, j = i * s + f ∧ l[i]? = some cs ∧ cs[f]? = some u
  | [], _, j, u, h => by simp at h
  | c :: l, hl, j, u, h => by
    have hc := hl c (.head _)
    rw [List.flatten_cons] at h
    by_cases hj : j < s
    · rw [List.getElem?_append_left (by omega)] at h
      exact ⟨0, j, c, by omega, rfl, h⟩
    · rw [List.getElem?_append_right (by omega), hc] at h
      obtain ⟨i, f, cs, h1, h2, h3⟩ := flat_inv hs l (fun cs hm => hl cs (.tail _ hm)) (j - s) u h
      exact ⟨i + 1, f, cs, by rw [Nat.add_mul]; omega, h2, h3⟩
theorem rows_p {w : World} {v : Value} {s : Nat} {l : List (List Value)} (hs : 1 ≤ s) (h : RowsSl w v s l) (h1 : Rows1 s l) (hn : l ≠ []) : RowsP w v s l := by
  obtain ⟨q, c, rfl, h2, h3, h4⟩ := h
  refine ⟨h1, .inr ?_⟩
  obtain ⟨cs0, hcs0⟩ : ∃ cs, l[0]? = some cs := by cases l with | nil => exact absurd rfl hn | cons a l => exact ⟨a, rfl⟩
  obtain ⟨_, b, off, rfl, _⟩ := h4 0 cs0 hcs0
  refine ⟨b, off, c, rfl, h2, h3, fun j u hu => ?_⟩
  obtain ⟨i, f, cs, rfl, hi, hf⟩ := flat_inv hs l (fun cs hm => (h1 cs hm).1) j u hu
  obtain ⟨_, b', off', e, hc⟩ := h4 i cs hi
  obtain ⟨rfl, rfl, _⟩ := Addr.mk.inj (Option.some.inj e)
  rw [← Nat.add_assoc]
  exact hc f u hf
/-- one cell that reads as a slice -/
theorem rows_cell {H : Type} {enc : TypeId × Value → H} {P : Program} {w : World} {t e : TypeId} {s : Nat} {cs : List Value} (ht : P.underlying t = some (.slice e)) (hs : P.cellsOf e = s) (h1 : 1 ≤ s)
    (h : ReadsAs enc P w t cs) : ∃ v l, cs = [v] ∧ RowsSl w v s l ∧ (l = [] → EmptyV v) ∧ ∀ cs ∈ l, ReadsAs enc P w e cs := by
  obtain ⟨fuel, x, hf⟩ := h
  rcases open_slice ht hf with ⟨hcs, _⟩ | ⟨a, len, cap, m, n, D, Pl, hcs, _, hlc, hcm, hm, _, hel⟩
  · exact ⟨_, [], hcs, ⟨none, 0, rfl, Nat.le_refl _, Nat.zero_le _, fun i cs h => by simp at h⟩, fun _ => .inl rfl, fun cs h => by cases h⟩
  · simp only [if_true] at hm
    rw [hs] at hel
    rw [hm] at hel
    obtain ⟨V, hV⟩ := choose_lt (n := cap) (p := fun i cs => w.cells? 0 (a.add (i * s)) s = some cs ∧ DataW.trod enc P w 0 (fun _ => true) true n e cs = some (D i, Pl i)) (fun i hi => hel i hi)
    have hl : ((List.range len).map V).length = len := by simp
    refine ⟨_, (List.range len).map V, hcs, ⟨some a, cap, by rw [hl], by rw [hl]; exact hlc, hcm, fun i cs hi => ?_⟩, fun he => ?_, fun cs hcs => ?_⟩
    · have hil : i < len := by have := (List.getElem?_eq_some_iff.1 hi).1; simpa using this
      have hcs : V i = cs := by simpa [hil] using hi
      subst hcs
      obtain ⟨_, hlen, hcell⟩ := World.cells?_some (hV i (by omega)).1
      obtain ⟨_, hlen0, hcell0⟩ := World.cells?_some (hV 0 (by omega)).1
      have hc0 := hcell0 0 (by omega)
      rw [List.getElem?_eq_getElem (by omega : 0 < (V 0).length), Go.Deep.add_add] at hc0
      obtain ⟨b, off, spot⟩ := a
      have hspot : spot = none := by simpa [Addr.add] using World.cell?_spot hc0
      subst hspot
      refine ⟨hlen, b, off, rfl, fun f u hu => ?_⟩
      have hfl : f < s := by rw [← hlen]; exact (List.getElem?_eq_some_iff.1 hu).1
      have := hcell f hfl
      rw [Go.Deep.add_add, add_plain, hu] at this
      rw [Nat.add_assoc]
      exact this
    · have h0 : len = 0 := by have := congrArg List.length he; simpa using this
      subst h0
      exact .inr ⟨a, cap, rfl, hcm⟩
    · obtain ⟨i, hi, rfl⟩ := List.mem_map.1 hcs
      have hil := List.mem_range.1 hi
      exact ⟨n, _, (hV i (by omega)).2⟩
/-- rows whose cells are all of a form -/
theorem choose_form {α : Type} [Inhabited α] (f : α → List Value) : ∀ (l : List (List Value)), (∀ cs ∈ l, ∃ x, cs = f x) → ∃ M : List α, l = M.map f
  | [], _ => ⟨[], rfl⟩
  | c :: l, h => by
    obtain ⟨x, rfl⟩ := h c (.head _)
    obtain ⟨M, rfl⟩ := choose_form f l (fun cs hm => h cs (.tail _ hm))
    exact ⟨x :: M, rfl⟩
end Go.Proofs.Ytinakendlpomnaa
/- Objects, rows of words, heaps, steps among the arguments, as a walk wants them. -/
namespace Go.Proofs.Ytinakendlpomnaa
open Go Go.ChangeShapes Go.WideShapes Go.ChangeAt Go.RowKit Go.Deep Arena
set_option maxHeartbeats 4000000
set_option maxRecDepth 100000
theorem w64_of_wf {x : Int} (h : (Lit.int .u64 x).wf = true) : W64 x := by
  have h3 : IntKind.u64.min ≤ x ∧ x ≤ IntKind.u64.max := by simpa [Lit.wf] using h
  have e1 : IntKind.u64.min = 0 := by decide
  have e2 : IntKind.u64.max = 18446744073709551615 := by decide
  unfold W64
  omega
theorem word_reads {H : Type} {enc : TypeId × Value → H} {w : World} {cs : List Value} (h : ReadsAs enc Try.prog w 44 cs) : ∃ x : {x : Int // W64 x}, cs = wordC x.1 := by
  obtain ⟨n, y, h⟩ := h
  obtain ⟨a, rfl, _, hw⟩ := DataW.trod_int Try.underlying44 h
  exact ⟨⟨a, w64_of_wf hw⟩, rfl⟩
instance : Inhabited {x : Int // W64 x} := ⟨⟨0, w64_zero⟩⟩
/-- a slice of words that came in -/
def WdsP (w : World) (v : Value) (l : List Int) : Prop := RowsP w v 1 (l.map wordC) ∧ ∀ x ∈ l, W64 x
theorem WdsP.ext {w w' : World} {v : Value} {l : List Int} (h : WdsP w v l) (e : Ext w w') : WdsP w' v l := ⟨h.1.ext e, h.2⟩
theorem words_reads {H : Type} {enc : TypeId × Value → H} {w : World} {cs : List Value} (h : ReadsAs enc Try.prog w 22 cs) : ∃ v l, cs = [v] ∧ WdsP w v l := by
  obtain ⟨v, l, rfl, hr, he, hl⟩ := rows_cell Try.underlying22 (show Try.prog.cellsOf 44 = 1 by kernel_rfl) (by omega) h
  obtain ⟨M, rfl⟩ := choose_form (fun x : {x : Int // W64 x} => wordC x.1) l (fun cs hm => word_reads (hl cs hm))
  refine ⟨v, M.map (·.1), rfl, ?_, fun x hx => ?_⟩
  · rw [List.map_map]
    cases M with
    | nil => exact ⟨Rows1.nil 1, .inl ⟨he rfl, rfl⟩⟩
    | cons x M => exact rows_p (by omega) hr (fun cs hm => by obtain ⟨y, _, rfl⟩ := List.mem_map.1 hm; exact ⟨rfl, fun u hu => by rw [List.mem_singleton.1 hu]; rfl⟩) (by simp)
  · obtain ⟨y, _, rfl⟩ := List.mem_map.1 hx
    exact y.2
theorem open_words {H : Type} {enc : TypeId × Value → H} {W : World} {v : Value} {d : DataW H} {ps : List MemPlace} {base : Nat} (hval : Value.okWide Try.prog W .any base 22 v) (h : DataW.Trod enc Try.prog W 0 (fun _ => true) true 22 v d ps) : ∃ l, WdsP W v l := by
  obtain ⟨a0, len, cap, rfl⟩ := okWide_slice Try.underlying22 hval
  obtain ⟨fuel, hf⟩ := h
  obtain ⟨v', l, e, hp⟩ := words_reads ⟨fuel, _, hf⟩
  obtain rfl : v' = _ := (List.cons.inj e).1.symm
  exact ⟨l, hp⟩
/-- an object that came in -/
structure ObI where
  o : Ob
  v : Value
def obiC (x : ObI) : List Value := [.int .i64 x.o.kind, .int .i64 x.o.tag, x.v, .string x.o.text]
structure ObiP (w : World) (x : ObI) : Prop where
  p : WdsP w x.v x.o.fields
  text : x.o.text.size ≤ maxLen
  kind : (Lit.int .i64 x.o.kind).wf = true
  tag : (Lit.int .i64 x.o.tag).wf = true
theorem ObiP.ext {w w' : World} {x : ObI} (h : ObiP w x) (e : Ext w w') : ObiP w' x := ⟨h.p.ext e, h.text, h.kind, h.tag⟩
theorem obj_reads {H : Type} {enc : TypeId × Value → H} {w : World} {cs : List Value} (h : ReadsAs enc Try.prog w 48 cs) : ∃ x, cs = obiC x ∧ ObiP w x := by
  obtain ⟨n, y, h⟩ := h
  obtain ⟨xs, k, rfl, _, hlen, hxl, hf⟩ := DataW.trod_struct Try.underlying48 h
  have hc : Try.prog.cellsOf 48 = 4 := by kernel_rfl
  rw [hc] at hlen
  match cs, hlen, xs, hxl with
  | [v0, v1, v2, v3], _, [y0, y1, y2, y3], _ =>
    have g0 := hf 0 _ rfl
    have g1 := hf 1 _ rfl
    have g2 := hf 2 _ rfl
    have g3 := hf 3 _ rfl
    have ci : Try.prog.cellsOf 3 = 1 := by kernel_rfl
    have ci6 : Try.prog.cellsOf 22 = 1 := by kernel_rfl
    have cs1 : Try.prog.cellsOf 9 = 1 := by kernel_rfl
    simp [ci, ci6, cs1] at g0 g1 g2 g3
    obtain ⟨a0, e0, _, w0⟩ := DataW.trod_int Try.underlying3 g0
    obtain ⟨a1, e1, _, w1⟩ := DataW.trod_int Try.underlying3 g1
    obtain ⟨v, l, e2, hp⟩ := words_reads ⟨_, _, g2⟩
    obtain ⟨a3, e3, _, w3⟩ := DataW.trod_string Try.underlying9 g3
    simp at e0 e1 e2 e3
    subst e0; subst e1; subst e2; subst e3
    exact ⟨⟨⟨a0, a1, l, a3⟩, v2⟩, rfl, hp, by first | exact w3 | simpa [Lit.wf] using w3, w0, w1⟩
theorem open_obj {H : Type} {enc : TypeId × Value → H} {W : World} {v : Value} {d : DataW H} {ps : List MemPlace} {base : Nat} (hval : Value.okWide Try.prog W .any base 48 v) (h : DataW.Trod enc Try.prog W 0 (fun _ => true) true 48 v d ps) : ∃ x, v = .agg (obiC x).toArray ∧ ObiP W x := by
  obtain ⟨cs, rfl, _⟩ := okWide_struct Try.underlying48 hval
  obtain ⟨fuel, hf⟩ := h
  obtain ⟨x, e, hp⟩ := obj_reads ⟨fuel, _, hf⟩
  refine ⟨x, ?_, hp⟩
  rw [← e]
  rfl
/-- objects that came in, side by side -/
def ObsP (w : World) (v : Value) (L : List ObI) : Prop := RowsSl w v 4 (L.map obiC) ∧ ∀ x ∈ L, ObiP w x
theorem ObsP.ext {w w' : World} {v : Value} {L : List ObI} (h : ObsP w v L) (e : Ext w w') : ObsP w' v L := ⟨h.1.ext e, fun x hx => (h.2 x hx).ext e⟩
theorem choose_with {α : Type} (p : α → Prop) (f : α → List Value) : ∀ (l : List (List Value)), (∀ cs ∈ l, ∃ x, cs = f x ∧ p x) → ∃ M : List α, l = M.map f ∧ ∀ x ∈ M, p x
  | [], _ => ⟨[], rfl, fun x h => by cases h⟩
  | c :: l, h => by
    obtain ⟨x, rfl, hx⟩ := h c (.head _)
    obtain ⟨M, rfl, hM⟩ := choose_with p f l (fun cs hm => h cs (.tail _ hm))
    exact ⟨x :: M, rfl, fun y hy => by rcases List.mem_cons.1 hy with rfl | hy; exact hx; exact hM y hy⟩
/-- a region's words and a heap that came in -/
structure RawI where
  v : Value
  l : List Int
  h : Hp
def rawC (x : RawI) : List Value := [x.v, .int .i64 x.h.base, .int .i64 x.h.half, .int .i64 x.h.space, .int .i64 x.h.top]
structure HpWf (h : Hp) : Prop where
  half : (Lit.int .i64 h.half).wf = true
  space : (Lit.int .i64 h.space).wf = true
  top : (Lit.int .i64 h.top).wf = true
structure RawP (w : World) (x : RawI) : Prop where
  p : WdsP w x.v x.l
  h : HpWf x.h
theorem open_raw {H : Type} {enc : TypeId × Value → H} {W : World} {v : Value} {d : DataW H} {ps : List MemPlace} {base : Nat} (hval : Value.okWide Try.prog W .any base 26 v) (h : DataW.Trod enc Try.prog W 0 (fun _ => true) true 26 v d ps) : ∃ x, v = .agg (rawC x).toArray ∧ RawP W x := by
  obtain ⟨cs, rfl, _⟩ := okWide_struct Try.underlying26 hval
  obtain ⟨fuel, hf⟩ := h
  obtain ⟨xs, k, _, _, hlen, hxl, hf⟩ := DataW.trod_struct Try.underlying26 hf
  have hc : Try.prog.cellsOf 26 = 5 := by kernel_rfl
  rw [hc] at hlen
  obtain ⟨cs⟩ := cs
  simp only [Value.cells] at hlen hf
  match cs, hlen, xs, hxl with
  | [v0, v1, v2, v3, v4], _, [y0, y1], _ =>
    have g0 := hf 0 _ rfl
    have g1 := hf 1 _ rfl
    have ci : Try.prog.cellsOf 22 = 1 := by kernel_rfl
    have ch : Try.prog.cellsOf 24 = 4 := by kernel_rfl
    simp [ci, ch] at g0 g1
    obtain ⟨v, l, e0, hp⟩ := words_reads ⟨_, _, g0⟩
    simp at e0
    subst e0
    obtain ⟨zs, m, _, _, _, hzl, hg⟩ := DataW.trod_struct Try.underlying24 g1
    match zs, hzl with
    | [z0, z1, z2, z3], _ =>
      have k0 := hg 0 _ rfl
      have k1 := hg 1 _ rfl
      have k2 := hg 2 _ rfl
      have k3 := hg 3 _ rfl
      have cn : Try.prog.cellsOf 3 = 1 := by kernel_rfl
      simp [cn] at k0 k1 k2 k3
      obtain ⟨a0, e0, _, w0⟩ := DataW.trod_int Try.underlying3 k0
      obtain ⟨a1, e1, _, w1⟩ := DataW.trod_int Try.underlying3 k1
      obtain ⟨a2, e2, _, w2⟩ := DataW.trod_int Try.underlying3 k2
      obtain ⟨a3, e3, _, w3⟩ := DataW.trod_int Try.underlying3 k3
      simp at e0 e1 e2 e3
      subst e0; subst e1; subst e2; subst e3
      exact ⟨⟨v0, l, ⟨a0, a1, a2, a3⟩⟩, rfl, hp, w1, w2, w3⟩
end Go.Proofs.Ytinakendlpomnaa
/- GcTwice: the walk. -/
namespace Go.Proofs.Ytinakendlpomnaa
open Go.RowKit Go.Maps Arena
set_option maxHeartbeats 8000000
set_option maxRecDepth 100000
/-- one collection of a state that may be -/
theorem coll_step {w : World} {p g bm n : Nat} {R : List (Nat × Nat)} {s : Gst} {Hs : List (Nat × Ob)} (k : GOk n R s Hs) (H : ArenaAt w p g bm n s.ws R) (hw : (Lit.int .i64 s.h.base).wf = true) {q : Option Addr} {c : Nat} (hr : RowStay w g (.slice q s.roots.length c) (s.roots.map wordC)) (hrl : s.roots.length ≤ 100000) :
    Calls Try.prog 10 #[.pointer (some ⟨p, 0, none⟩), .agg #[.int .i64 s.h.base, .int .i64 s.h.half, .int .i64 s.h.space, .int .i64 s.h.top], .slice q s.roots.length c] w fun e w' => ∃ q c, e = .returned (.tuple #[.agg #[.int .i64 s.h.base, .int .i64 s.h.half, .int .i64 (gNext s Hs).h.space, .int .i64 (gNext s Hs).h.top], .slice q s.roots.length c, .bool true]) ∧ ArenaAt w' p g bm n (gNext s Hs).ws R ∧
      OwnP w' w.heap.size 44 (.slice q s.roots.length c) 1 ((gNext s Hs).roots.map wordC) ∧ Turn [g] w w' := by
  refine (coll_is H s.h hw k.w64 hr k.r64 hrl).mono fun e w' he => ?_
  unfold CollSaid at he
  rw [k.may] at he
  exact he
/-- what one collection makes of a heap -/
def CStep (p g bm n : Nat) (R : List (Nat × Nat)) (half : Int) (m : Nat) (ws : List Int) (sp tp : Int) (r : List Int) (ws' : List Int) (sp' tp' : Int) (r' : List Int) : Prop :=
  ∀ W q c, ArenaAt W p g bm n ws R → RowStay W g (.slice q m c) (r.map wordC) → Calls Try.prog 10 #[.pointer (some ⟨p, 0, none⟩), .agg #[.int .i64 3, .int .i64 half, .int .i64 sp, .int .i64 tp], .slice q m c] W fun e w' =>
    ∃ q c, e = .returned (.tuple #[.agg #[.int .i64 3, .int .i64 half, .int .i64 sp', .int .i64 tp'], .slice q m c, .bool true]) ∧ ArenaAt w' p g bm n ws' R ∧ OwnP w' W.heap.size 44 (.slice q m c) 1 (r'.map wordC) ∧ Turn [g] W w'
theorem cstep_of {n : Nat} {R : List (Nat × Nat)} {s : Gst} {Hs : List (Nat × Ob)} (k : GOk n R s Hs) (p g bm : Nat) (h3 : s.h.base = 3) (hl : s.roots.length ≤ 20) : CStep p g bm n R s.h.half s.roots.length s.ws s.h.space s.h.top s.roots (gNext s Hs).ws (gNext s Hs).h.space (gNext s Hs).h.top (gNext s Hs).roots := by
  intro W q c H hr
  have := coll_step k H (by rw [h3]; decide) hr (by omega)
  rw [h3] at this
  exact this
theorem twice_facts {n : Nat} {R : List (Nat × Nat)} {ws roots : List Int} {half sp tp : Int} {Hs : List (Nat × Ob)} (k0 : GOk n R ⟨ws, ⟨3, half, sp, tp⟩, roots⟩ Hs) (hg : Arena.Good n R) (hl : roots.length ≤ 20) (p g bm : Nat) :
    ∃ ws1 ws2 r1 r2 sp1 tp1, r1.length = roots.length ∧ r2.length = roots.length ∧ CStep p g bm n R half roots.length ws sp tp roots ws1 sp1 tp1 r1 ∧ CStep p g bm n R half roots.length ws1 sp1 tp1 r1 ws2 sp tp1 r2 ∧ CStep p g bm n R half roots.length ws2 sp tp1 r2 ws1 sp1 tp1 r1 := by
  have k1 := k0.next hg
  have k2 := k1.next hg
  obtain ⟨hc1, hc2⟩ := k0.three hg
  have ht := k0.top hg
  have l1 : (gNext ⟨ws, ⟨3, half, sp, tp⟩, roots⟩ Hs).roots.length = roots.length := by unfold gNext; dsimp only; rw [List.length_map]
  have l2 : (gNext (gNext ⟨ws, ⟨3, half, sp, tp⟩, roots⟩ Hs) (gHs ⟨ws, ⟨3, half, sp, tp⟩, roots⟩ Hs)).roots.length = roots.length := by
    unfold gNext
    dsimp only
    rw [List.length_map, List.length_map]
  have c0 := cstep_of k0 p g bm rfl hl
  have c1 := cstep_of k1 p g bm rfl (by omega)
  have c2 := cstep_of k2 p g bm rfl (by omega)
  rw [l1] at c1
  rw [l2, hc1] at c2
  have e1 : (gNext (gNext ⟨ws, ⟨3, half, sp, tp⟩, roots⟩ Hs) (gHs ⟨ws, ⟨3, half, sp, tp⟩, roots⟩ Hs)).h.space = sp := by show 1 - (1 - sp) = sp; omega
  have e2 : (gNext (gNext ⟨ws, ⟨3, half, sp, tp⟩, roots⟩ Hs) (gHs ⟨ws, ⟨3, half, sp, tp⟩, roots⟩ Hs)).h.top = (gNext ⟨ws, ⟨3, half, sp, tp⟩, roots⟩ Hs).h.top := by
    show ((sizeF (gF (gNext ⟨ws, ⟨3, half, sp, tp⟩, roots⟩ Hs) (gHs ⟨ws, ⟨3, half, sp, tp⟩, roots⟩ Hs)) : Nat) : Int) = ((sizeF (gF ⟨ws, ⟨3, half, sp, tp⟩, roots⟩ Hs) : Nat) : Int)
    rw [ht]
  rw [e1, e2] at c1 c2
  exact ⟨_, _, _, _, _, _, l1, l2, c0, c1, c2⟩
theorem words_own {w : World} {p g bm n m : Nat} {ws : List Int} (H : ArenaAt w p g bm n ws (rigR m)) (hm : 1 ≤ m) : Calls Try.prog 11 #[.pointer (some ⟨p, 0, none⟩), .int .i64 3] w fun e w' => ∃ q l c, e = .returned (.tuple #[.slice q l c, .bool true]) ∧ OwnP w' w.heap.size 44 (.slice q l c) 1 ((wordsAt ws (rigR m) 3).map wordC) ∧ Ext w w' := by
  refine (words_yes H (r := (3, m)) (by simp [rigR])).mono ?_
  rintro e w' ⟨v, rfl, ho, hx⟩
  have hl : (wordsAt ws (rigR m) 3).length = m := by rw [wordsAt_len H.good H.len, rig_len]
  have ho2 : OwnP w' w.heap.size 44 v 1 ((wordsAt ws (rigR m) 3).map wordC) := by
    refine ⟨fun cs hc => by obtain ⟨y, _, rfl⟩ := List.mem_map.1 hc; exact ⟨rfl, fun u hu => by rw [List.mem_singleton.1 hu]; rfl⟩, ?_⟩
    rw [flat_words, List.length_map, hl]
    have e1 : wordsAt ws (rigR m) 3 = (ws.drop 3).take m := by unfold wordsAt; rw [rig_len]; rfl
    rw [e1]
    exact ho
  obtain ⟨q, c, rfl, _, _⟩ := ho2.len
  exact ⟨q, _, c, rfl, ho2, hx⟩
theorem large_flat4 {w : World} {v : Value} {l : List Int} {a b c d : Int} (hv : WordSl w v l) : Calls Try.prog 6 #[.agg #[v, .int .i64 a, .int .i64 b, .int .i64 c, .int .i64 d]] w fun e w' => e = .returned (.bool (decide (400 < l.length))) ∧ Ext w w' := by
  obtain ⟨qv, cv, rfl, hd1, hd2, hcell⟩ := hv
  unfold maxLen at hd2
  clear hcell
  by_cases h : 400 < l.length
  · rw [decide_eq_true h]
    have i1 : (400 : Int) < (l.length : Int) := by omega
    clear h
    go_enter Try.func6, Try.ntmps6
    go_wp2_with fail
    go_ret
    exact ⟨rfl, Ext.alloc _ _⟩
  · rw [decide_eq_false h]
    have i1 : ¬ (400 : Int) < (l.length : Int) := by omega
    clear h
    go_enter Try.func6, Try.ntmps6
    go_wp2_with fail
    go_ret
    exact ⟨rfl, Ext.alloc _ _⟩
theorem twice_walk {w : World} {v vr : Value} {l roots : List Int} {h0 : Hp} (hv : WdsP w v l) (hh : HpWf h0) (hr : WdsP w vr roots) : Calls Try.prog 3 #[.agg #[v, .int .i64 h0.base, .int .i64 h0.half, .int .i64 h0.space, .int .i64 h0.top], vr] w (TrueExt w) := by
  have HV := Lib.hid hv; have HR := Lib.hid hr
  obtain ⟨qv, cv, rfl, hv1, hv2, -⟩ := hv.1.at
  obtain ⟨qr, cr, rfl, hr1, hr2, -⟩ := hr.1.at
  rw [List.length_map] at hv1 hr1 HV HR ⊢
  rw [List.length_map]
  unfold maxLen at hv2 hr2
  clear hv hr
  by_cases hbig : 400 < l.length ∨ 20 < roots.length
  · have LG := Lib.hid (fun W (e : Ext w W) => large_flat4 (a := h0.base) (b := h0.half) (c := h0.space) (d := h0.top) (WordSl.of_rows (HV.out.1.ext e)))
    obtain ⟨lb, hlb⟩ : ∃ lb, lb = decide (400 < l.length) := ⟨_, rfl⟩
    rw [← hlb] at LG
    have HLB := Lib.hid hlb
    have HBG := Lib.hid hbig
    clear hlb hbig
    go_enter Try.func3, Try.ntmps3
    go_wp2_with fail
    refine at_alloc1 fun W hE hS b0 => ?_
    refine (LG.out W hE).mono ?_
    rintro e w1 ⟨rfl, hx1⟩
    have HX1 := Lib.hid (hE.trans hx1)
    clear hE hS b0 hx1 LG
    have fin : ∀ w1, Ext w w1 → ∀ (e : Ending) (w2 : World), e = .returned (.bool true) ∧ Ext w1 w2 → e = .returned (.bool true) ∧ Ext w w2 := fun w1 h e w2 ⟨h1, h2⟩ => ⟨h1, h.trans h2⟩
    cases lb with
    | true =>
      go_wp2_with fail
      refine (wakes4 _).mono ?_
      rintro e w2 ⟨rfl, hx2⟩
      have HX2 := Lib.hid (HX1.out.trans hx2)
      clear hx2
      go_wp2
      go_ret
      exact ⟨rfl, HX2.out⟩
    | false =>
      have hr20 : 20 < roots.length := by
        have h1 := of_decide_eq_false HLB.out.symm
        rcases HBG.out with h | h
        · exact absurd h h1
        · exact h
      have d1 : (20 : Int) < (roots.length : Int) := by omega
      go_wp2_with fail
      refine (wakes4 _).mono ?_
      rintro e w2 ⟨rfl, hx2⟩
      have HX2 := Lib.hid (HX1.out.trans hx2)
      clear hx2
      go_wp2
      go_ret
      exact ⟨rfl, HX2.out⟩
  · have hl4 : l.length ≤ 400 := by omega
    have hr20 : roots.length ≤ 20 := by omega
    have d0 : decide (400 < l.length) = false := decide_eq_false (by omega)
    have d1 : decide ((20 : Int) < (roots.length : Int)) = false := decide_eq_false (by omega)
    have LG := Lib.hid (fun W (e : Ext w W) => large_flat4 (a := h0.base) (b := h0.half) (c := h0.space) (d := h0.top) (WordSl.of_rows (HV.out.1.ext e)))
    rw [d0] at LG
    clear hbig d0
    go_enter Try.func3, Try.ntmps3
    go_wp2_with fail
    refine at_alloc1 fun W hE hS b0 => ?_
    refine (LG.out W hE).mono ?_
    rintro e w1 ⟨rfl, hx1⟩
    have HX1 := Lib.hid (hE.trans hx1)
    have B1 := Lib.hid ((Below.block hx1 w.heap.size (by omega)).trans b0)
    clear hE hS b0 hx1 LG
    obtain ⟨z0, z1, z2, z3, z4⟩ := cells5 B1.out
    go_wp2_with fail
    refine (lay_words (WordSl.of_rows (HV.out.1.ext HX1.out)) (by omega)).mono ?_
    rintro e w2 ⟨p, g, bm, q, gq, B, rfl, hB⟩
    have HB := Lib.hid hB
    have B2 := Lib.hid ((Below.block hB.ext w.heap.size (Array.getElem?_eq_some_iff.1 B1.out).1).trans B1.out)
    clear hB B1 z0 z1 z2 z3 z4
    obtain ⟨z0, z1, z2, z3, z4⟩ := cells5 B2.out
    have n0 := (Array.getElem?_eq_some_iff.1 B2.out).1
    go_upto_region 7 with fail
    refine wp_alloc2 fun W4 hE4 hS4 b2 b3 => ?_
    obtain ⟨vR, hR3⟩ := HB.out.r
    have hgw : w.heap.size ≤ g := by have := HB.out.ge.2.1; have := HX1.out.size; omega
    have hX2 : Ext w w2 := HX1.out.trans HB.out.ext
    have hx2s := Below.size hX2
    have K0 := Lib.hid (show Wk w2 W4 p g bm w2.heap.size (w2.heap.size + 1) q (l.length + 10) (rigW l l.length) (rigR (max 1 l.length)) h0 from ⟨HB.out.a.ext hE4, Turn.of_ext hE4, b2, b3, by have := HB.out.a.lt; omega, by have := HB.out.a.lt; omega, by have := HB.out.a.lt; omega, by omega⟩)
    have RF := Lib.hid (hR3.ext hE4)
    have RF0 := Lib.hid hR3
    have HX2 := Lib.hid hX2
    have hsm : ∀ x ∈ rigW l l.length, W64 x := rigW_mem HV.out.2 l.length
    have HSM := Lib.hid hsm
    have hBs := HB.out.size
    clear hE4 hS4 b2 b3 z0 z1 z2 z3 z4 n0 hR3 hsm HB hX2 B2 HX1
    have HT0 := Lib.hid (Nat.le_refl w2.heap.size)
    generalize hg0 : w2.heap.size = t0 at K0 hx2s hBs ⊢
    have HT0 := Lib.hid hg0
    clear hg0
    generalize hg1 : t0 + 1 = t1 at K0 ⊢
    have HT1 := Lib.hid hg1
    clear hg1
    obtain ⟨x0, x1⟩ := cells2 K0.out.two
    obtain ⟨y0, y1, y2, y3⟩ := cells4 K0.out.hp
    have f0 := free_at K0.out.hp (i := 0)
    go_upto_region 8 with fail
    refine wp_fill1 K0.out.hp fun W5 h5 hT5 hS5 => ?_
    have K1 := Lib.hid (K0.out.fill (h' := ⟨3, h0.half, h0.space, h0.top⟩) h5 hT5)
    have RF1 := Lib.hid (RF.out.turn_new RF0.out hT5 (fun b hb => by rw [List.mem_singleton.1 hb]; have := HT0.out; have := HT1.out; omega))
    have HX5 := Lib.hid (show Ext w W5 from Turn.after HX2.out K1.out.t (fun b hb => by have := HT0.out; have := HT1.out; simp only [List.mem_cons, List.not_mem_nil, or_false] at hb; rcases hb with rfl | rfl <;> omega))
    clear hS5 h5 hT5 K0 RF RF0 x0 x1 y0 y1 y2 y3 f0
    obtain ⟨h, hh3⟩ : ∃ h : Hp, h = ⟨3, h0.half, h0.space, h0.top⟩ := ⟨_, rfl⟩
    have MAY := Lib.hid (rmay_is RF1.out h HSM.out (HR.out.1.ext HX5.out) HR.out.2 (by omega))
    rw [hh3] at MAY
    obtain ⟨x0, x1⟩ := cells2 K1.out.two
    obtain ⟨y0, y1, y2, y3⟩ := cells4 K1.out.hp
    go_wp2_with fail
    refine MAY.out.mono ?_
    rintro e w6 ⟨rfl, hx6⟩
    have K2 := Lib.hid (K1.out.ext hx6)
    have HX6 := Lib.hid (HX5.out.trans hx6)
    clear hx6 x0 x1 y0 y1 y2 y3 K1 RF1 MAY HX5
    rw [← hh3]
    cases hm : mayH (rigW l l.length) (rigR (max 1 l.length)) h roots with
    | none =>
      rw [Option.isSome_none]
      clear hm hh3
      go_wp2_with fail
      refine (wakes4 _).mono ?_
      rintro e w7 ⟨rfl, hx7⟩
      have HX7 := Lib.hid (HX6.out.trans hx7)
      clear hx7
      go_wp2
      go_ret
      exact ⟨rfl, HX7.out⟩
    | some Hs =>
      rw [Option.isSome_some]
      have k0 : GOk (l.length + 10) (rigR (max 1 l.length)) ⟨rigW l l.length, h, roots⟩ Hs := ⟨K2.out.a.len, hm, HSM.out, HR.out.2⟩
      rw [hh3] at k0
      obtain ⟨ws1, ws2, r1, r2, sp1, tp1, l1, l2, c1, c2, c3⟩ := twice_facts k0 K2.out.a.good hr20 p g bm
      have C1 := Lib.hid c1; have C2 := Lib.hid c2; have C3 := Lib.hid c3
      have hstay : RowStay w6 g (.slice qr roots.length cr) (roots.map wordC) := fun V tV => HR.out.1.ext (Turn.after HX6.out tV (fun b hb => by rw [List.mem_singleton.1 hb]; exact hgw))
      have HST := Lib.hid hstay
      clear k0 hm hh3 c1 c2 c3 hstay l1 l2
      obtain ⟨x0, x1⟩ := cells2 K2.out.two
      obtain ⟨y0, y1, y2, y3⟩ := cells4 K2.out.hp
      go_wp2_with fail
      refine (C1.out _ _ _ K2.out.a HST.out).mono ?_
      rintro e w7 ⟨q1, cc1, rfl, hA7, hO7, hT7⟩
      have K3 := Lib.hid (K2.out.put hA7 hT7)
      have O7 := Lib.hid hO7
      have hg6 : g < w6.heap.size := K2.out.a.lt.2.1
      clear hA7 hO7 hT7 K2 x0 x1 y0 y1 y2 y3 HST
      go_upto_region 11 with fail
      refine wp_alloc1 fun W8 hE8 hS8 b8 => ?_
      have K4 := Lib.hid (K3.out.ext hE8)
      have O8 := Lib.hid (O7.out.ext hE8)
      have BA8 := Lib.hid b8
      have hga : w7.heap.size ≠ g := by have := K3.out.a.lt.2.1; omega
      clear hE8 hS8 b8 K3 O7
      generalize w7.heap.size = tA at *
      obtain ⟨x0, x1⟩ := cells2 K4.out.two
      obtain ⟨y0, y1, y2, y3⟩ := cells4 BA8.out
      go_wp2_with fail
      refine (C2.out _ _ _ K4.out.a (O8.out.rowStay hg6)).mono ?_
      rintro e w9 ⟨q2, cc2, rfl, hA9, hO9, hT9⟩
      have K5 := Lib.hid (K4.out.put hA9 hT9)
      have O9 := Lib.hid hO9
      have BA9 := Lib.hid (hT9.keep BA8.out hga)
      have hg8 : g < W8.heap.size := K4.out.a.lt.2.1
      clear hA9 hO9 hT9 K4 O8 BA8 x0 x1 y0 y1 y2 y3
      go_upto_region 12 with fail
      refine wp_alloc1 fun W10 hE10 hS10 b10 => ?_
      have K6 := Lib.hid (K5.out.ext hE10)
      have O10 := Lib.hid (O9.out.ext hE10)
      have BA10 := Lib.hid ((Below.block hE10 _ (Array.getElem?_eq_some_iff.1 BA9.out).1).trans BA9.out)
      have BB10 := Lib.hid b10
      have hgb : w9.heap.size ≠ g := by have := K5.out.a.lt.2.1; omega
      have K6' := Lib.hid (show g < W10.heap.size from K6.out.a.lt.2.1)
      clear hE10 hS10 b10 K5 O9 BA9
      generalize w9.heap.size = tB at *
      obtain ⟨x0, x1⟩ := cells2 K6.out.two
      go_wp2_with fail
      refine (words_own K6.out.a (by omega)).mono ?_
      rintro e w11 ⟨qw1, lw1, cw1, rfl, hws1, hx11⟩
      have K7 := Lib.hid (K6.out.ext hx11)
      have O11 := Lib.hid (O10.out.ext hx11)
      have BA11 := Lib.hid ((Below.block hx11 _ (Array.getElem?_eq_some_iff.1 BA10.out).1).trans BA10.out)
      have BB11 := Lib.hid ((Below.block hx11 _ (Array.getElem?_eq_some_iff.1 BB10.out).1).trans BB10.out)
      have WS11 := Lib.hid hws1
      clear hx11 hws1 K6 O10 BA10 BB10 x0 x1
      obtain ⟨x0, x1⟩ := cells2 K7.out.two
      obtain ⟨y0, y1, y2, y3⟩ := cells4 BB11.out
      go_wp2_with fail
      refine (C3.out _ _ _ K7.out.a (O11.out.rowStay hg8)).mono ?_
      rintro e w12 ⟨q3, cc3, rfl, hA12, hO12, hT12⟩
      have K8 := Lib.hid (K7.out.put hA12 hT12)
      have O12 := Lib.hid hO12
      have BA12 := Lib.hid (hT12.keep BA11.out hga)
      have BB12 := Lib.hid (hT12.keep BB11.out hgb)
      have hg10 : g < W10.heap.size := K6'.out
      have P12 := Lib.hid (O11.out.turn hT12 (fun b hb hm => by have h1 := (O11.out.own b hb).1; rw [List.mem_singleton.1 hm] at h1; omega))
      have WS12 := Lib.hid (WS11.out.turn hT12 (fun b hb hm => by have h1 := (WS11.out.own b hb).1; rw [List.mem_singleton.1 hm] at h1; omega))
      have hg11 : g < w11.heap.size := K7.out.a.lt.2.1
      clear hA12 hO12 hT12 K7 O11 BA11 BB11 WS11 x0 x1 y0 y1 y2 y3
      go_upto_region 14 with fail
      refine wp_alloc1 fun W13 hE13 hS13 b13 => ?_
      have K9 := Lib.hid (K8.out.ext hE13)
      have O13 := Lib.hid (O12.out.ext hE13)
      have P13 := Lib.hid (P12.out.ext hE13)
      have WS13 := Lib.hid (WS12.out.ext hE13)
      have BA13 := Lib.hid ((Below.block hE13 _ (Array.getElem?_eq_some_iff.1 BA12.out).1).trans BA12.out)
      have BB13 := Lib.hid ((Below.block hE13 _ (Array.getElem?_eq_some_iff.1 BB12.out).1).trans BB12.out)
      have BC13 := Lib.hid b13
      have hgc : w12.heap.size ≠ g := by have := K8.out.a.lt.2.1; omega
      clear hE13 hS13 b13 K8 O12 P12 WS12 BA12 BB12
      generalize w12.heap.size = tC at *
      obtain ⟨x0, x1⟩ := cells2 K9.out.two
      obtain ⟨y0, y1, y2, y3⟩ := cells4 BC13.out
      go_wp2_with fail
      refine (C2.out _ _ _ K9.out.a (O13.out.rowStay hg11)).mono ?_
      rintro e w14 ⟨q4, cc4, rfl, hA14, hO14, hT14⟩
      have K10 := Lib.hid (K9.out.put hA14 hT14)
      have O14 := Lib.hid hO14
      have BA14 := Lib.hid (hT14.keep BA13.out hga)
      have BB14 := Lib.hid (hT14.keep BB13.out hgb)
      have P14 := Lib.hid (P13.out.turn hT14 (fun b hb hm => by have h1 := (P13.out.own b hb).1; rw [List.mem_singleton.1 hm] at h1; omega))
      have WS14 := Lib.hid (WS13.out.turn hT14 (fun b hb hm => by have h1 := (WS13.out.own b hb).1; rw [List.mem_singleton.1 hm] at h1; omega))
      clear hA14 hO14 hT14 K9 O13 BA13 BB13 BC13 P13 WS13 x0 x1 y0 y1 y2 y3
      go_upto_region 15 with fail
      refine wp_alloc1 fun W15 hE15 hS15 b15 => ?_
      have K11 := Lib.hid (K10.out.ext hE15)
      have O15 := Lib.hid (O14.out.ext hE15)
      have P15 := Lib.hid (P14.out.ext hE15)
      have WS15 := Lib.hid (WS14.out.ext hE15)
      have BA15 := Lib.hid ((Below.block hE15 _ (Array.getElem?_eq_some_iff.1 BA14.out).1).trans BA14.out)
      have BB15 := Lib.hid ((Below.block hE15 _ (Array.getElem?_eq_some_iff.1 BB14.out).1).trans BB14.out)
      have BD15 := Lib.hid b15
      clear hE15 hS15 b15 K10 O14 P14 WS14 BA14 BB14
      generalize w14.heap.size = tD at *
      obtain ⟨x0, x1⟩ := cells2 K11.out.two
      go_wp2_with fail
      refine (words_own K11.out.a (by omega)).mono ?_
      rintro e w16 ⟨qw2, lw2, cw2, rfl, hws2, hx16⟩
      have K12 := Lib.hid (K11.out.ext hx16)
      have O16 := Lib.hid (O15.out.ext hx16)
      have P16 := Lib.hid (P15.out.ext hx16)
      have WS16 := Lib.hid (WS15.out.ext hx16)
      have WT16 := Lib.hid hws2
      have BA16 := (Below.block hx16 _ (Array.getElem?_eq_some_iff.1 BA15.out).1).trans BA15.out
      have BB16 := (Below.block hx16 _ (Array.getElem?_eq_some_iff.1 BB15.out).1).trans BB15.out
      have BD16 := (Below.block hx16 _ (Array.getElem?_eq_some_iff.1 BD15.out).1).trans BD15.out
      have BE16 := K12.out.hp
      clear hx16 hws2 K11 O15 P15 WS15 BA15 BB15 BD15 x0 x1
      obtain ⟨a0, a1, a2, a3⟩ := cells4 BA16
      obtain ⟨c0, c1, c2, c3⟩ := cells4 BB16
      obtain ⟨e0, e1, e2, e3⟩ := cells4 BD16
      obtain ⟨y0, y1, y2, y3⟩ := cells4 BE16
      go_wp2_with fail
      refine (keep_words (WordSl.of_rows P16.out.p) (WordSl.of_rows O16.out.p)).mono ?_
      rintro e w17 ⟨rfl, hx17⟩
      rw [show decide (r2 = r2) = true by simp]
      have K13 := Lib.hid (K12.out.ext hx17)
      have WS17 := Lib.hid (WS16.out.ext hx17)
      have WT17 := Lib.hid (WT16.out.ext hx17)
      have BA17 := (Below.block hx17 _ (Array.getElem?_eq_some_iff.1 BA16).1).trans BA16
      have BB17 := (Below.block hx17 _ (Array.getElem?_eq_some_iff.1 BB16).1).trans BB16
      clear hx17 K12 O16 P16 WS16 WT16 BA16 BB16 BD16 BE16 a0 a1 a2 a3 c0 c1 c2 c3 e0 e1 e2 e3 y0 y1 y2 y3
      obtain ⟨a0, a1, a2, a3⟩ := cells4 BA17
      obtain ⟨c0, c1, c2, c3⟩ := cells4 BB17
      go_wp2_with fail
      refine (keep_words (WordSl.of_rows WS17.out.p) (WordSl.of_rows WT17.out.p)).mono ?_
      rintro e w18 ⟨rfl, hx18⟩
      rw [show decide (wordsAt ws2 (rigR (max 1 l.length)) 3 = wordsAt ws2 (rigR (max 1 l.length)) 3) = true by simp]
      have K14 := Lib.hid (K13.out.ext hx18)
      have BA18 := (Below.block hx18 _ (Array.getElem?_eq_some_iff.1 BA17).1).trans BA17
      have BB18 := (Below.block hx18 _ (Array.getElem?_eq_some_iff.1 BB17).1).trans BB17
      clear hx18 K13 WS17 WT17 BA17 BB17 a0 a1 a2 a3 c0 c1 c2 c3
      obtain ⟨a0, a1, a2, a3⟩ := cells4 BA18
      obtain ⟨c0, c1, c2, c3⟩ := cells4 BB18
      go_wp2_with fail
      refine (wakes4 _).mono ?_
      rintro e w19 ⟨rfl, hx19⟩
      have K15 := Lib.hid (K14.out.ext hx19)
      clear hx19 K14 a0 a1 a2 a3 c0 c1 c2 c3 BA18 BB18
      go_wp2
      go_ret
      refine ⟨rfl, Turn.after HX2.out K15.out.t (fun b hb => ?_)⟩
      have h2 := HT0.out
      have h3 := HT1.out
      simp only [List.mem_cons, List.not_mem_nil, or_false] at hb
      rcases hb with rfl | rfl <;> omega
end Go.Proofs.Ytinakendlpomnaa
/- What words lead to, as a text; the same behind a collection. Plain. -/
namespace Go.Proofs.Ytinakendlpomnaa
open Go.RowKit Go.Maps Arena
set_option maxRecDepth 100000
theorem read_at {V : List Int} {p : Nat} {o : Ob} (hm : mayO o = true) (h : ∀ k, k < wordsO o → V[p + k]? = (layO o)[k]?) : readS (V.drop p) = some o := by
  have hl := layO_len hm
  have e : V.drop p = layO o ++ V.drop (p + wordsO o) := by
    apply List.ext_getElem?
    intro k
    rw [List.getElem?_drop]
    by_cases hk : k < wordsO o
    · rw [List.getElem?_append_left (by omega), h k hk]
    · rw [List.getElem?_append_right (by omega), List.getElem?_drop, hl]
      congr 1
      omega
  rw [e]
  exact readS_lay hm _
def zeroOb : Ob := ⟨0, 0, [], ByteArray.empty⟩
def u8 (x : Int) : UInt8 := UInt8.ofNat (x % 256).toNat
/-- a number's four bytes -/
def int4 (w : Int) : List UInt8 := let v := (intKindWrap w) / 2; [u8 v, u8 (v / 256), u8 (v / 65536), u8 (v / 16777216)]
where intKindWrap (w : Int) : Int := if w < 9223372036854775808 then w else w - 18446744073709551616
/-- what a word leads to, so deep -/
def shapeF (get : Int → Option Ob) : Nat → Int → List UInt8
  | 0, w => if isIntW w then 105 :: int4 w else
      let o := (get w).getD zeroOb
      (40 :: u8 o.kind :: u8 o.tag :: u8 o.fields.length :: o.text.data.toList) ++ [41]
  | d + 1, w => if isIntW w then 105 :: int4 w else
      let o := (get w).getD zeroOb
      o.fields.foldl (fun s f => if s.length < 4000 then s ++ shapeF get d f else s) (40 :: u8 o.kind :: u8 o.tag :: u8 o.fields.length :: o.text.data.toList) ++ [41]
/-- words that lead to the same, by a change of words -/
theorem shape_same {get get' : Int → Option Ob} {f : Int → Int} {C : Int → Prop} (hi : ∀ w, C w → isIntW w = true → f w = w) (hn : ∀ w, C w → isIntW (f w) = isIntW w)
    (hg : ∀ w, C w → isIntW w = false → ∃ o, get w = some o ∧ get' (f w) = some (mapO f o) ∧ ∀ x ∈ o.fields, C x) : ∀ (d : Nat) (w : Int), C w → shapeF get' d (f w) = shapeF get d w := by
  intro d
  induction d with
  | zero =>
    intro w hw
    unfold shapeF
    rw [hn w hw]
    cases hb : isIntW w with
    | true => rw [hi w hw hb, if_pos rfl, if_pos rfl]
    | false =>
      obtain ⟨o, h1, h2, _⟩ := hg w hw hb
      rw [h1, h2]
      simp [mapO]
  | succ d ih =>
    intro w hw
    unfold shapeF
    rw [hn w hw]
    cases hb : isIntW w with
    | true => rw [hi w hw hb, if_pos rfl, if_pos rfl]
    | false =>
      obtain ⟨o, h1, h2, h3⟩ := hg w hw hb
      rw [h1, h2]
      simp only [Bool.false_eq_true, if_false, Option.getD_some]
      congr 1
      have e : ∀ (l : List Int) (s : List UInt8), (∀ x ∈ l, C x) → (l.map f).foldl (fun s x => if s.length < 4000 then s ++ shapeF get' d x else s) s = l.foldl (fun s x => if s.length < 4000 then s ++ shapeF get d x else s) s := by
        intro l
        induction l with
        | nil => intro s _; rfl
        | cons x l ih2 =>
          intro s hl
          simp only [List.map_cons, List.foldl_cons]
          rw [ih x (hl x (.head _))]
          exact ih2 _ fun z hz => hl z (.tail _ hz)
      have := e o.fields (40 :: u8 o.kind :: u8 o.tag :: u8 o.fields.length :: o.text.data.toList) h3
      simp only [mapO, List.length_map]
      exact this
/-- how long such a text may be -/
theorem shape_len {get : Int → Option Ob} (ht : ∀ w o, get w = some o → o.text.size ≤ 400) : ∀ (d : Nat) (w : Int), (shapeF get d w).length ≤ 4500 * (d + 1) := by
  have h0 : ∀ w, ((get w).getD zeroOb).text.data.toList.length ≤ 400 := by
    intro w
    rw [Array.length_toList]
    cases hg : get w with
    | none => simp [zeroOb]
    | some o => exact ht w o hg
  intro d
  induction d with
  | zero =>
    intro w
    unfold shapeF
    have := h0 w
    split
    · simp only [int4, List.length_cons, List.length_nil]; omega
    · simp only [List.length_append, List.length_cons, List.length_nil]
      omega
  | succ d ih =>
    intro w
    unfold shapeF
    have := h0 w
    split
    · simp only [int4, List.length_cons, List.length_nil]; omega
    · simp only [List.length_append, List.length_cons, List.length_nil]
      have e : ∀ (l : List Int) (s : List UInt8), s.length ≤ 4000 + 4500 * (d + 1) → (l.foldl (fun s f => if s.length < 4000 then s ++ shapeF get d f else s) s).length ≤ 4000 + 4500 * (d + 1) := by
        intro l
        induction l with
        | nil => intro s h; exact h
        | cons x l ih2 =>
          intro s h
          simp only [List.foldl_cons]
          refine ih2 _ ?_
          split
          · have := ih x
            rw [List.length_append]
            omega
          · exact h
      have := e ((get w).getD zeroOb).fields (40 :: u8 ((get w).getD zeroOb).kind :: u8 ((get w).getD zeroOb).tag :: u8 (((get w).getD zeroOb).fields.length : Int) :: ((get w).getD zeroOb).text.data.toList) (by simp only [List.length_cons]; omega)
      omega
/-- the object of a word, in a row of words -/
def getV (V : List Int) (w : Int) : Option Ob := readS (V.drop (w / 2).toNat)
/-- before a collection, and behind it -/
theorem shape_coll {n : Nat} {ws : List Int} {R : List (Nat × Nat)} {h : Hp} {Hs : List (Nat × Ob)} {roots : List Int} (hg : Arena.Good n R) (hl : ws.length = n) (hW : ∀ x ∈ ws, W64 x) (hm : mayH ws R h roots = some Hs) (hr : ∀ x ∈ roots, W64 x) :
    ∀ (d : Nat), ∀ x ∈ roots, shapeF (getV (collV h (liveF (firstN h) Hs roots))) d (newW (firstN h) (otherN h) (liveF (firstN h) Hs roots) x) = shapeF (getV (wordsAt ws R h.base)) d x := by
  obtain ⟨ha, hok⟩ := mayH_some hm
  obtain ⟨ht, hS⟩ := allH_there ha
  obtain ⟨ba, H, sp, N⟩ := hpN_of hg ht
  have g := gc_of hg hl hW ha N roots
  have hc := live_closed (firstN h) Hs roots
  generalize liveF (firstN h) Hs roots = F at g hc ⊢
  obtain ⟨A, B, hA, hB, hws, hsemi, hVV⟩ := N.split hl
  have hwrd := allH_words hg hl hW ha hsemi
  have hsz := g.size
  have hgl := gcB_len g (newW (sp * H) ((1 - sp) * H) F)
  intro d x hx
  refine shape_same (C := fun w => W64 w ∧ fieldOK (Hs.map (·.1)) (firstN h) w = true ∧ ClosedAt (firstN h) Hs F w) (fun w _ hi => newW_int hi) (fun w hw => (g.newInt hw.1 hw.2.1 hw.2.2).1) (fun w hw hi => ?_) d x ⟨hr x hx, hok x hx, hc.1 x hx⟩
  obtain ⟨hw1, hw2, hw3⟩ := hw
  rcases ok_cases hw2 hw1 with h1 | ⟨y, hy⟩
  · rw [h1] at hi; cases hi
  · have hyF := g.mem hy hw3
    obtain ⟨e1, e2, e3⟩ := g.new_of hy hyF
    obtain ⟨hyH, e4, _, _⟩ := getL_some hy
    have hmy := g.hs.may y hyH
    have hfit := g.hs.fit y hyH
    refine ⟨y.2, ?_, ?_, fun v hv => ⟨(g.ok y hyH v hv).1, (g.ok y hyH v hv).2, g.cl y hyF v hv⟩⟩
    · unfold getV
      rw [hVV, show (w / 2).toNat = sp * H + y.1 by rw [← N.first]; omega]
      refine read_at hmy fun k hk => ?_
      have h5 := mkV_getA (A := A) (B := B) N.one hA hB (i := y.1 + k) (by omega)
      have h6 := hwrd y hyH k hk
      rw [← h6]
      have l1 : sp * H + (y.1 + k) < (mkV sp A B).length := by rw [mkV_len hA hB]; have := sp_le (H := H) N.one; omega
      rw [Nat.add_assoc, List.getElem?_eq_getElem l1, List.getElem?_eq_getElem (by omega : y.1 + k < A.length)]
      rw [List.getD_eq_getElem?_getD, List.getD_eq_getElem?_getD, List.getElem?_eq_getElem l1, List.getElem?_eq_getElem (by omega : y.1 + k < A.length)] at h5
      exact congrArg some h5
    · unfold getV
      have hoff : offF F y.1 + wordsO y.2 ≤ sizeF F := by
        obtain ⟨i, hi, rfl⟩ := List.getElem_of_mem hyF
        rw [offF_at g.fin (List.getElem?_eq_getElem hi)]
        have e5 : sizeF F = sizeF (F.take i) + sizeF (F.drop i) := by rw [← sizeF_app, List.take_append_drop]
        rw [List.drop_eq_getElem_cons hi] at e5
        simp only [sizeF] at e5
        omega
      rw [e1, N.coll, show (((2 * (otherN h + offF F y.1) : Nat) : Int) / 2).toNat = (1 - sp) * H + offF F y.1 by rw [← N.other]; omega, N.first, N.other]
      refine read_at (by rw [mapO_may]; exact hmy) fun k hk => ?_
      rw [mapO_words] at hk
      obtain ⟨i, hi, rfl⟩ := List.getElem_of_mem hyF
      have h5 := mkV_getB (A := List.replicate H 0) (B := gcB H (newW (sp * H) ((1 - sp) * H) F) F) N.one (by simp) hgl (i := offF F (F[i]).1 + k) (by omega)
      have l1 : (1 - sp) * H + (offF F (F[i]).1 + k) < (mkV sp (List.replicate H 0) (gcB H (newW (sp * H) ((1 - sp) * H) F) F)).length := by rw [mkV_len (H := H) (by simp) hgl]; have := sp_le (sp := 1 - sp) (H := H) (by omega); omega
      have hml : ∀ o ∈ F.map (fun y => mapO (newW (sp * H) ((1 - sp) * H) F) y.2), mayO o = true := fun o ho => by
        obtain ⟨z, hz, rfl⟩ := List.mem_map.1 ho
        rw [mapO_may]
        exact g.hs.may z (g.fin.sub z hz)
      have h6 := layL_get hml (i := i) (o := mapO (newW (sp * H) ((1 - sp) * H) F) (F[i]).2) (by rw [List.getElem?_map, List.getElem?_eq_getElem hi]; rfl) (k := k) (by rw [mapO_words]; exact hk)
      have hs7 : ∀ G : List (Nat × Ob), sizeL (G.map fun y => mapO (newW (sp * H) ((1 - sp) * H) F) y.2) = sizeF G := by
        intro G
        induction G with
        | nil => rfl
        | cons z G ih => simp only [List.map_cons, sizeL, sizeF, mapO_words, ih]
      rw [← List.map_take, hs7, ← offF_at g.fin (List.getElem?_eq_getElem hi)] at h6
      rw [← h6, Nat.add_assoc, List.getElem?_eq_getElem l1]
      rw [List.getD_eq_getElem?_getD, List.getD_eq_getElem?_getD, List.getElem?_eq_getElem l1, List.getElem?_eq_getElem (by omega : offF F (F[i]).1 + k < (gcB H (newW (sp * H) ((1 - sp) * H) F) F).length)] at h5
      have l2 : offF F (F[i]).1 + k < (layL (F.map fun y => mapO (newW (sp * H) ((1 - sp) * H) F) y.2)).length := by rw [layL_size g]; omega
      have e7 : (gcB H (newW (sp * H) ((1 - sp) * H) F) F)[offF F (F[i]).1 + k]? = (layL (F.map fun y => mapO (newW (sp * H) ((1 - sp) * H) F) y.2))[offF F (F[i]).1 + k]? := by
        unfold gcB
        rw [List.getElem?_append_left l2]
      rw [← e7, List.getElem?_eq_getElem (by omega : offF F (F[i]).1 + k < (gcB H (newW (sp * H) ((1 - sp) * H) F) F).length)]
      exact congrArg some h5
end Go.Proofs.Ytinakendlpomnaa
/- The reference's Value; what a word leads to, as a text (shape). -/
namespace Go.Proofs.Ytinakendlpomnaa
open Go.RowKit Go.Maps Arena
set_option maxHeartbeats 4000000
set_option maxRecDepth 100000
/-- a number's word's number -/
def valW (w : Int) : Int := (int4.intKindWrap w) / 2
theorem wrap_val {x : Int} (h0 : 0 ≤ x) (h1 : x < 18446744073709551616) : wrap64 x / 2 = valW x := by
  unfold valW int4.intKindWrap
  unfold wrap64
  split <;> omega
theorem refval_yes {x : Int} (hx : W64 x) (hi : isIntW x = true) (w : World) : Calls Try.prog 41 #[.int .u64 x] w fun e w' => e = .returned (.int .i64 (valW x)) ∧ w = w' := by
  have HI := Lib.hid (fun W => refIsInt_is hx W)
  rw [hi] at HI
  obtain ⟨h0, h1⟩ := hx
  go_enter Try.func41, Try.ntmps41
  go_wp2_with fail
  refine (HI.out _).mono ?_
  rintro e w1 ⟨rfl, rfl⟩
  go_wp2
  go_ret
  refine ⟨?_, rfl⟩
  show Ending.returned (.int .i64 (wrap64 x / 2)) = _
  rw [wrap_val h0 h1]
theorem atsaid_obj {r : Option Ob} {w : World} {e : Ending} {w' : World} (h : AtSaid r w e w') : ∃ q c b, e = .returned (.agg #[.int .i64 (r.getD zeroOb).kind, .int .i64 (r.getD zeroOb).tag, .slice q (r.getD zeroOb).fields.length c, .string (r.getD zeroOb).text, .bool b]) ∧
    OwnP w' w.heap.size 44 (.slice q (r.getD zeroOb).fields.length c) 1 ((r.getD zeroOb).fields.map wordC) ∧ Ext w w' := by
  cases r with
  | none =>
    obtain ⟨rfl, hx⟩ := h
    exact ⟨none, 0, false, rfl, OwnP.nil _ _ _ _, hx⟩
  | some o =>
    obtain ⟨q, c, rfl, ho, hx⟩ := h
    exact ⟨q, c, true, rfl, ho, hx⟩
theorem lit_bytes {W : World} {g : Nat} (S : List UInt8) {T : TypeId} {B : Nat} (h : W.heap[g]? = some (.cells (S.map fun x => Value.int .u8 (x.toNat : Int)).toArray T (0, 0))) (hl : S.length ≤ 1000) (hB : B ≤ g) : OwnP W B T (.slice (some ⟨g, 0, none⟩) S.length S.length) 1 (S.map byteC) := by
  have := OwnP.of_form (w := W) (base := B) (cap := S.length) (l := S.map byteC) (s := 1) (byteC_rows S) hB h (by rw [List.length_map]; omega) (by unfold maxLen; omega) (by simp) (by
    rw [List.length_map, Nat.mul_one, List.take_of_length_le (by simp), byteC_flat])
  rw [List.length_map] at this
  exact this
theorem u8_nat (x : Int) : ((u8 x).toNat : Int) = x % 256 := by
  unfold u8
  have h1 := Int.emod_nonneg x (show (256 : Int) ≠ 0 by omega)
  have h2 := Int.emod_lt_of_pos x (show (0 : Int) < 256 by omega)
  obtain ⟨n, hn⟩ := Int.eq_ofNat_of_zero_le h1
  rw [hn] at h2 ⊢
  rw [Int.toNat_natCast, UInt8.toNat_ofNat', Nat.mod_eq_of_lt (by omega)]
theorem bytes_lit {W : World} {g : Nat} (S : List UInt8) {T : TypeId} (h : W.heap[g]? = some (.cells (S.map fun x => Value.int .u8 (x.toNat : Int)).toArray T (0, 0))) (hl : S.length ≤ 1000) : (convert 83 9 (.slice (some ⟨g, 0, none⟩) S.length S.length)).run Try.prog W = .ok (.string ⟨S.toArray⟩) W :=
  (lit_bytes S h hl (Nat.zero_le _)).p.string
theorem shape_int {x : Int} (hx : W64 x) (hi : isIntW x = true) (v : Value) (d : Nat) (hd : d ≤ 6) (w : World) (get : Int → Option Ob) : Calls Try.prog 17 #[.int .u64 x, v, .int .i64 d] w fun e w' => e = .returned (.string ⟨(shapeF get d x).toArray⟩) ∧ Ext w w' := by
  have HI := Lib.hid (fun W => refIsInt_is hx W)
  have HV := Lib.hid (fun W => refval_yes hx hi W)
  rw [hi] at HI
  have he : shapeF get d x = 105 :: [u8 (valW x), u8 (valW x / 256), u8 (valW x / 65536), u8 (valW x / 16777216)] := by
    unfold shapeF
    cases d with
    | zero => simp only [hi, if_true]; rfl
    | succ d => simp only [hi, if_true]; rfl
  rw [he]
  clear he
  have hb : -4611686018427387904 ≤ valW x ∧ valW x < 4611686018427387904 := by
    have := hx.1; have := hx.2
    unfold valW int4.intKindWrap
    split <;> omega
  generalize valW x = y at *
  obtain ⟨hb1, hb2⟩ := hb
  have hcv : (convert 83 9 (.slice (some ⟨w.heap.size, 0, none⟩) 4 4)).run Try.prog (w.alloc (.cells #[.int .u8 (y % 256), .int .u8 (y / 256 % 256), .int .u8 (y / 65536 % 256), .int .u8 (y / 16777216 % 256)] 5)) = .ok (.string ⟨#[u8 y, u8 (y / 256), u8 (y / 65536), u8 (y / 16777216)]⟩) (w.alloc (.cells #[.int .u8 (y % 256), .int .u8 (y / 256 % 256), .int .u8 (y / 65536 % 256), .int .u8 (y / 16777216 % 256)] 5)) := by
    refine bytes_lit [u8 y, u8 (y / 256), u8 (y / 65536), u8 (y / 16777216)] (T := 5) ?_ (by simp)
    rw [heap_alloc_new]
    simp only [List.map_cons, List.map_nil, u8_nat]
  go_enter Try.func17, Try.ntmps17
  go_wp2_with fail
  refine (HI.out _).mono ?_
  rintro e w1 ⟨rfl, rfl⟩
  go_wp2_with fail
  refine (HV.out _).mono ?_
  rintro e w1 ⟨rfl, rfl⟩
  go_wp2
  go_ret
  exact ⟨rfl, Ext.alloc _ _⟩
def stepF (get : Int → Option Ob) (d : Nat) (s : List UInt8) (f : Int) : List UInt8 := if s.length < 4000 then s ++ shapeF get d f else s
/-- what the fields that are left make of a text -/
def restF (get : Int → Option Ob) (d : Nat) (L : List Int) (s : List UInt8) : List UInt8 := match d with | 0 => s | d + 1 => L.foldl (stepF get d) s
def headF (o : Ob) : List UInt8 := 40 :: u8 o.kind :: u8 o.tag :: u8 o.fields.length :: o.text.data.toList
theorem shape_rest (get : Int → Option Ob) (d : Nat) {x : Int} (hi : isIntW x = false) : shapeF get d x = restF get d ((get x).getD zeroOb).fields (headF ((get x).getD zeroOb)) ++ [41] := by
  cases d with
  | zero => unfold shapeF restF headF; rw [hi]; rfl
  | succ d => unfold shapeF restF headF; rw [hi]; rfl
theorem rest_full (get : Int → Option Ob) (d : Nat) : ∀ (L : List Int) (s : List UInt8), 4000 ≤ s.length → restF get d L s = s := by
  intro L
  cases d with
  | zero => intro s _; rfl
  | succ d =>
    show ∀ s : List UInt8, 4000 ≤ s.length → L.foldl (stepF get d) s = s
    induction L with
    | nil => intro s _; rfl
    | cons f L ih =>
      intro s hs
      rw [List.foldl_cons]
      have : stepF get d s f = s := by unfold stepF; rw [if_neg (by omega)]
      rw [this]
      exact ih s hs
theorem rest_step (get : Int → Option Ob) (d : Nat) (f : Int) (L : List Int) (s : List UInt8) (h : s.length < 4000) : restF get (d + 1) (f :: L) s = restF get (d + 1) L (s ++ shapeF get d f) := by
  show (f :: L).foldl (stepF get d) s = L.foldl (stepF get d) _
  rw [List.foldl_cons]
  congr 1
  unfold stepF
  rw [if_pos h]
theorem rest_nil (get : Int → Option Ob) (d : Nat) (s : List UInt8) : restF get d [] s = s := by cases d <;> rfl
def ShapeAt (get : Int → Option Ob) (d : Nat) (F : List Int) (tot : List UInt8) (k : Nat) (sb : ByteArray) : Prop := sb.data.toList.length ≤ 40000 ∧ restF get d (F.drop k) sb.data.toList = tot
theorem shape_done {sb : ByteArray} {tot : List UInt8} (h : tot = sb.data.toList) : sb ++ (⟨#[41]⟩ : ByteArray) = ⟨(tot ++ [41]).toArray⟩ := by
  subst h
  apply ByteArray.ext
  apply Array.toList_inj.1
  simp
theorem shape_text {S : List Int} (_h : ∀ x ∈ S, W64 x) (d : Nat) (f : Int) : (shapeF (getV S) d f).length ≤ 4500 * (d + 1) := by
  refine shape_len (fun w o hg => ?_) d f
  have := (readS_words hg).2.2
  unfold mayO at this
  exact (mayK_bounds this).2.2.2.2.2.1
theorem shape_obj1 {n c : Nat} {q : Option Addr} {S : List Int} (hS : S.length = n) (h64 : ∀ x ∈ S, W64 x) (hn : n ≤ 100000) (d : Nat) (hd : d ≤ 6) {x : Int} (hx : W64 x) (hi : isIntW x = false) {w : World} (hR : RowsP w (.slice q n c) 1 (S.map wordC))
    (ih : ∀ f, W64 f → 0 < d → ∀ W, Ext w W → Calls Try.prog 17 #[.int .u64 f, .slice q n c, .int .i64 ((d : Int) - 1)] W fun e w' => e = .returned (.string ⟨(shapeF (getV S) (d - 1) f).toArray⟩) ∧ Ext W w') :
    Calls Try.prog 17 #[.int .u64 x, .slice q n c, .int .i64 d] w fun e w' => e = .returned (.string ⟨(shapeF (getV S) d x).toArray⟩) ∧ Ext w w' := by
  have HI := Lib.hid (fun W => refIsInt_is hx W)
  have HA := Lib.hid (fun W => refAt_is hx W)
  rw [hi] at HI HA
  obtain ⟨at_, hat⟩ : ∃ at_ : Int, at_ = if false = true ∨ 4294967296 ≤ x / 2 then -1 else x / 2 := ⟨_, rfl⟩
  rw [← hat] at HA
  have hAT : (∀ W, Ext w W → Calls Try.prog 16 #[.slice q n c, .int .i64 at_] W (AtSaid (getV S x) W)) := fun W e => by
    subst hS
    unfold getV
    have hx2 := hx.1
    rw [hat]
    by_cases hf : 4294967296 ≤ x / 2
    · rw [if_pos (.inr hf), List.drop_eq_nil_of_le (by omega)]
      exact at_out (.inl (by omega)) W
    · rw [if_neg (by simp; omega)]
      have := refat_is (q := q) (c := c) (S := S) (x / 2).toNat W (hR.ext e) h64 hn
      rw [Int.toNat_of_nonneg (by omega)] at this
      exact this
  have HAT := Lib.hid hAT
  rw [shape_rest _ _ hi]
  clear hi hat hAT
  have ho64 : ∀ f ∈ ((getV S x).getD zeroOb).fields, W64 f := by
    intro f hf
    cases hg : getV S x with
    | none => rw [hg] at hf; cases hf
    | some o =>
      rw [hg] at hf
      exact h64 f (List.mem_of_mem_drop (readS_fields hg f hf))
  have hol : ((getV S x).getD zeroOb).fields.length ≤ 400 ∧ ((getV S x).getD zeroOb).text.size ≤ 400 := by
    cases hg : getV S x with
    | none => exact ⟨Nat.zero_le _, Nat.zero_le _⟩
    | some o =>
      have := (readS_words hg).2.2
      unfold mayO at this
      obtain ⟨b1, b2, b3, b4, b5, b6, b7, b8⟩ := mayK_bounds this
      exact ⟨by show o.fields.length ≤ 400; omega, by show o.text.size ≤ 400; omega⟩
  generalize hob : getV S x = ob at *
  obtain ⟨o, ho⟩ : ∃ o, o = ob.getD zeroOb := ⟨_, rfl⟩
  rw [← ho] at ho64 hol ⊢
  obtain ⟨hol1, hol2⟩ := hol
  have HO := Lib.hid ho
  obtain ⟨tot, htot⟩ : ∃ tot, tot = restF (getV S) d o.fields (headF o) := ⟨_, rfl⟩
  rw [← htot]
  have HT := Lib.hid htot
  clear htot
  have H64 := Lib.hid ho64
  have h64 := Lib.hid h64
  have HR := Lib.hid hR
  have IH := Lib.hid ih
  clear hob ho ho64 hR ih hx
  go_enter Try.func17, Try.ntmps17
  go_wp2_with fail
  refine (HI.out _).mono ?_
  rintro e w1 ⟨rfl, rfl⟩
  go_wp2_with fail
  refine (HA.out _).mono ?_
  rintro e w1 ⟨rfl, rfl⟩
  go_wp2_with fail
  refine (HAT.out _ (Ext.refl _)).mono ?_
  intro e w1 he
  obtain ⟨qf, cf, b, rfl, hof, hx1⟩ := atsaid_obj he
  rw [← HO.out] at hof ⊢
  have HF := Lib.hid hof; have HX1 := Lib.hid hx1
  clear he hof hx1 HAT HA HI
  have hfl1 : ∀ (a b : Int) (q : Option Addr) (l c : Nat) (s : ByteArray) (t : Bool) (W : World), (Instr.field 50 (.agg #[.int .i64 a, .int .i64 b, .slice q l c, .string s, .bool t]) 0).run Try.prog W = .ok (.agg #[.int .i64 a, .int .i64 b, .slice q l c, .string s]) W := fun _ _ _ _ _ _ _ _ => by kernel_rfl
  go_upto_region 5 with fail
  clear hfl1
  refine wp_alloc1 fun W5 hE5 hS5 b5 => ?_
  have HF5 := Lib.hid (HF.out.ext hE5); have HX5 := Lib.hid (HX1.out.trans hE5)
  have hgF : w1.heap.size < W5.heap.size := by omega
  have HN := Lib.hid (show w.heap.size ≤ w1.heap.size from Below.size HX1.out)
  generalize hb8 : w1.heap.size = b8 at b5 hgF HN ⊢
  obtain ⟨y0, y1, y2, y3⟩ := cells4 b5
  have B5 := Lib.hid b5
  have hcv : (convert 83 9 (.slice (some ⟨W5.heap.size, 0, none⟩) 3 3)).run Try.prog (W5.alloc (.cells #[.int .u8 (o.kind % 256), .int .u8 (o.tag % 256), .int .u8 ((o.fields.length : Int) % 256)] 5)) = .ok (.string ⟨#[u8 o.kind, u8 o.tag, u8 o.fields.length]⟩) (W5.alloc (.cells #[.int .u8 (o.kind % 256), .int .u8 (o.tag % 256), .int .u8 ((o.fields.length : Int) % 256)] 5)) := by
    refine bytes_lit [u8 o.kind, u8 o.tag, u8 o.fields.length] (T := 5) ?_ (by simp)
    rw [heap_alloc_new]
    simp only [List.map_cons, List.map_nil, u8_nat]
  clear hb8 HF HX1 b5 hE5 hS5
  go_wp2
  clear hcv y0 y1 y2 y3
  have Hhd : (⟨#[40]⟩ : ByteArray) ++ ⟨#[u8 o.kind, u8 o.tag, u8 o.fields.length]⟩ ++ o.text = ⟨(headF o).toArray⟩ := by
    apply ByteArray.ext
    simp [headF]
  have HHD := Lib.hid Hhd
  clear Hhd
  go_loopw [9, 10] (fun sv iv wx => ∃ (k : Nat) (sb : ByteArray), k ≤ o.fields.length ∧ iv = .int .i64 k ∧ sv = .string sb ∧ ShapeAt (getV S) d o.fields tot k sb ∧ Ext W5 wx) (fun _ v _ => o.fields.length - (Go.RowKit.intOf v).toNat)
  case atStart =>
    refine ⟨0, _, Nat.zero_le _, rfl, rfl, ⟨?_, ?_⟩, by first | exact Ext.alloc _ _ | exact (Ext.alloc _ _).trans (Ext.drew _)⟩
    · rw [HHD.out]
      simp [headF]
      omega
    · rw [HHD.out, HT.out]
      simp
  case round =>
    obtain ⟨k, sb, hk, rfl, rfl, hsh, hex⟩ := hrel
    have HSH := Lib.hid hsh; have HEX := Lib.hid hex
    have hsz := hsh.1
    have hsz2 : sb.size ≤ 40000 := by rw [ByteArray.size, ← Array.length_toList]; exact hsz
    clear hsh hex hsz
    have b8' := (Below.block HEX.out _ hgF).trans B5.out
    obtain ⟨y0, y1, y2, y3⟩ := cells4 b8'
    clear b8' y0 y1 y3
    by_cases h1 : k < o.fields.length
    · have i1 : (k : Int) < (o.fields.length : Int) := by omega
      by_cases h2 : 0 < d
      · have i2 : (0 : Int) < (d : Int) := by omega
        by_cases h3 : sb.size < 4000
        · obtain ⟨gf, rfl, -, hcf, -⟩ := (HF5.out.ext HEX.out).cell (i := k) (f := 0) (cs := wordC (o.fields[k])) (u := .int .u64 (o.fields[k])) (by rw [List.getElem?_map, List.getElem?_eq_getElem h1]; rfl) rfl
          rw [Nat.add_zero, Nat.mul_one] at hcf
          have HC := Lib.hid (fun W (e : Ext w W) => IH.out o.fields[k] (H64.out _ (List.getElem_mem h1)) h2 W e)
          have HK := Lib.hid (show o.fields[k] = o.fields[k] from rfl)
          obtain ⟨fk, hfk⟩ : ∃ fk, fk = o.fields[k] := ⟨_, rfl⟩
          rw [← hfk] at hcf HC
          have HFK := Lib.hid hfk
          clear hfk HK
          have i3 : (sb.size : Int) < 4000 := by omega
          go_wp2_with fail
          refine (HC.out _ (HX5.out.trans HEX.out)).mono ?_
          rintro e w9 ⟨rfl, hx9⟩
          have hTL := shape_text h64.out (d - 1) fk
          obtain ⟨sf, hsf⟩ : ∃ sf : ByteArray, sf = ⟨(shapeF (getV S) (d - 1) fk).toArray⟩ := ⟨_, rfl⟩
          rw [← hsf]
          have hsz3 : sf.size ≤ 40000 := by
            rw [hsf]
            show (shapeF (getV S) (d - 1) fk).toArray.size ≤ 40000
            rw [List.size_toArray]
            omega
          have HSF := Lib.hid hsf
          clear hsf
          have HEX9 := Lib.hid (HEX.out.trans hx9)
          clear hx9
          go_wp2
          refine ⟨⟨k + 1, _, by omega, by go_num, rfl, ?_, HEX9.out⟩, by simp [Go.RowKit.intOf]; omega⟩
          obtain ⟨s1, s2⟩ := HSH.out
          rw [HSF.out]
          obtain ⟨dd, rfl⟩ : ∃ dd, d = dd + 1 := ⟨d - 1, by omega⟩
          rw [Nat.add_sub_cancel] at hTL ⊢
          refine ⟨?_, ?_⟩
          · simp only [ByteArray.data_append, Array.toList_append, List.length_append]
            rw [ByteArray.size, ← Array.length_toList] at h3
            omega
          · rw [List.drop_eq_getElem_cons h1, rest_step _ _ _ _ _ (by rw [Array.length_toList]; exact h3), ← HFK.out] at s2
            simp only [ByteArray.data_append, Array.toList_append]
            exact s2
        · have i3 : ¬ (sb.size : Int) < 4000 := by omega
          have hdone : sb ++ (⟨#[41]⟩ : ByteArray) = ⟨(tot ++ [41]).toArray⟩ := shape_done (HSH.out.2.symm.trans (rest_full _ _ _ _ (by rw [Array.length_toList]; show 4000 ≤ sb.size; omega)))
          have HDN := Lib.hid hdone
          clear hdone
          go_wp2
          go_ret
          exact ⟨by rw [← HDN.out]; rfl, HX5.out.trans HEX.out⟩
      · have i2 : ¬ (0 : Int) < (d : Int) := by omega
        obtain rfl : d = 0 := by omega
        have hdone : sb ++ (⟨#[41]⟩ : ByteArray) = ⟨(tot ++ [41]).toArray⟩ := shape_done HSH.out.2.symm
        have HDN := Lib.hid hdone
        clear hdone
        go_wp2
        go_ret
        exact ⟨by rw [← HDN.out]; rfl, HX5.out.trans HEX.out⟩
    · have i1 : ¬ (k : Int) < (o.fields.length : Int) := by omega
      obtain rfl : k = o.fields.length := by omega
      have hdone : sb ++ (⟨#[41]⟩ : ByteArray) = ⟨(tot ++ [41]).toArray⟩ := shape_done (by have := HSH.out.2; rw [List.drop_length, rest_nil] at this; exact this.symm)
      have HDN := Lib.hid hdone
      clear hdone
      go_wp2
      go_ret
      exact ⟨by rw [← HDN.out]; rfl, HX5.out.trans HEX.out⟩
/-- what a word leads to, so deep -/
theorem shape_is {n c : Nat} {q : Option Addr} {S : List Int} (hS : S.length = n) (h64 : ∀ x ∈ S, W64 x) (hn : n ≤ 100000) : ∀ (d : Nat), d ≤ 6 → ∀ {x : Int}, W64 x → ∀ {w : World}, RowsP w (.slice q n c) 1 (S.map wordC) →
    Calls Try.prog 17 #[.int .u64 x, .slice q n c, .int .i64 d] w fun e w' => e = .returned (.string ⟨(shapeF (getV S) d x).toArray⟩) ∧ Ext w w' := by
  intro d
  induction d with
  | zero =>
    intro hd x hx w hR
    cases hi : isIntW x with
    | true => exact shape_int hx hi _ _ hd w _
    | false => exact shape_obj1 hS h64 hn 0 hd hx hi hR (fun _ _ h => absurd h (Nat.lt_irrefl 0))
  | succ d ih =>
    intro hd x hx w hR
    cases hi : isIntW x with
    | true => exact shape_int hx hi _ _ hd w _
    | false =>
      refine shape_obj1 hS h64 hn (d + 1) hd hx hi hR fun f hf _ W e => ?_
      rw [show ((d + 1 : Nat) : Int) - 1 = (d : Int) by omega]
      exact ih (by omega) hf (hR.ext e)
end Go.Proofs.Ytinakendlpomnaa
/- What a collection keeps: words, shapes, which roots are one. Plain. -/
namespace Go.Proofs.Ytinakendlpomnaa
open Go.RowKit Go.Maps Arena
set_option maxRecDepth 100000
theorem words_read {n : Nat} {ws : List Int} {R : List (Nat × Nat)} {h : Hp} {Hs : List (Nat × Ob)} {y : Nat × Ob} (_hg : Arena.Good n R) (_hl : ws.length = n) (ha : allH ws R h = some Hs) (hy : y ∈ Hs) : readS ((wordsAt ws R h.base).drop (firstN h + y.1)) = some y.2 := by
  obtain ⟨ht, hS⟩ := allH_there ha
  obtain ⟨hobj, _⟩ := allS_some hS
  have hrd := objs_reads hobj y hy
  have e : (wordsAt ws R h.base).drop (firstN h + y.1) = (semi ws R h).drop y.1 ++ ((wordsAt ws R h.base).drop (firstN h)).drop (max y.1 (semi ws R h).length) := by
    have e1 : (wordsAt ws R h.base).drop (firstN h) = semi ws R h ++ ((wordsAt ws R h.base).drop (firstN h)).drop (semi ws R h).length := by
      unfold semi
      generalize (wordsAt ws R h.base).drop (firstN h) = L
      rw [List.length_take]
      by_cases hc : h.top.toNat ≤ L.length
      · rw [Nat.min_eq_left hc, List.take_append_drop]
      · rw [Nat.min_eq_right (by omega), List.drop_length, List.take_of_length_le (by omega), List.append_nil]
    generalize semi ws R h = X at e1 ⊢
    rw [← List.drop_drop]
    generalize (wordsAt ws R h.base).drop (firstN h) = L at e1 ⊢
    conv => lhs; rw [e1]
    by_cases hc : y.1 ≤ X.length
    · rw [List.drop_append_of_le_length hc, Nat.max_eq_right hc]
    · rw [List.drop_append, List.drop_drop, List.drop_eq_nil_of_le (by omega : X.length ≤ y.1), Nat.max_eq_left (by omega), show X.length + (y.1 - X.length) = y.1 by omega]
  rw [e]
  exact readS_app hrd _
section
variable {n : Nat} {R : List (Nat × Nat)} {s : Gst} {Hs : List (Nat × Ob)}
theorem GOk.newWords (k : GOk n R s Hs) (hg : Arena.Good n R) : wordsAt (gNext s Hs).ws R s.h.base = collV s.h (gF s Hs) := by
  obtain ⟨ba, H, sp, N⟩ := k.nums hg
  have g := k.gc hg N
  have hgl := gcB_len g (newW (sp * H) ((1 - sp) * H) (gF s Hs))
  show wordsAt (collWs s.ws s.h (gF s Hs)) R s.h.base = _
  rw [N.collWs, N.base, N.reg.words k.len (mkV_len (by simp) hgl), N.coll]
/-- how many words, and which of them are 0 -/
theorem GOk.zeros (k : GOk n R s Hs) (hg : Arena.Good n R) : ((wordsAt (gNext s Hs).ws R s.h.base).length : Int) = 2 * s.h.half ∧
    ∀ i : Nat, i < (wordsAt (gNext s Hs).ws R s.h.base).length → ¬ ((1 - s.h.space) * s.h.half ≤ (i : Int) ∧ (i : Int) < (1 - s.h.space) * s.h.half + ((sizeF (gF s Hs) : Nat) : Int)) → (wordsAt (gNext s Hs).ws R s.h.base)[i]? = some 0 := by
  rw [k.newWords hg]
  obtain ⟨ba, H, sp, N⟩ := k.nums hg
  have g := k.gc hg N
  have hgl := gcB_len g (newW (sp * H) ((1 - sp) * H) (gF s Hs))
  have hV := mkV_len (sp := sp) (A := List.replicate H 0) (B := gcB H (newW (sp * H) ((1 - sp) * H) (gF s Hs)) (gF s Hs)) (H := H) (by simp) hgl
  have hll := layL_size g (newW (sp * H) ((1 - sp) * H) (gF s Hs))
  have hsz := g.size
  rw [N.coll, N.half, N.space, hV]
  refine ⟨by omega, fun i hi hn => ?_⟩
  have hone := N.one
  generalize newW (sp * H) ((1 - sp) * H) (gF s Hs) = f at *
  have hgd : ∀ j, j < H → sizeF (gF s Hs) ≤ j → (gcB H f (gF s Hs)).getD j 0 = 0 := by
    intro j hj hs
    unfold gcB
    rw [List.getD_eq_getElem?_getD, List.getElem?_append_right (by omega), List.getElem?_replicate]
    split <;> rfl
  have hrd : ∀ j, (List.replicate H (0 : Int)).getD j 0 = 0 := by
    intro j
    rw [List.getD_eq_getElem?_getD, List.getElem?_replicate]
    split <;> rfl
  have key : (mkV sp (List.replicate H 0) (gcB H f (gF s Hs))).getD i 0 = 0 := by
    have hsp : sp = 0 ∨ sp = 1 := by omega
    rcases hsp with rfl | rfl
    · by_cases hiH : i < H
      · have := mkV_getA (sp := 0) (A := List.replicate H 0) (B := gcB H f (gF s Hs)) (H := H) (by omega) (by simp) hgl hiH
        rw [show 0 * H + i = i by omega] at this
        rw [this]
        exact hrd i
      · have := mkV_getB (sp := 0) (A := List.replicate H 0) (B := gcB H f (gF s Hs)) (H := H) (by omega) (by simp) hgl (i := i - H) (by omega)
        rw [show (1 - 0) * H + (i - H) = i by omega] at this
        rw [this]
        exact hgd _ (by omega) (by
          have e1 : (1 - ((0 : Nat) : Int)) * (H : Int) = H := by simp
          rw [e1] at hn
          omega)
    · by_cases hiH : i < H
      · have := mkV_getB (sp := 1) (A := List.replicate H 0) (B := gcB H f (gF s Hs)) (H := H) (by omega) (by simp) hgl (i := i) (by omega)
        rw [show (1 - 1) * H + i = i by omega] at this
        rw [this]
        exact hgd _ (by omega) (by
          have e1 : (1 - ((1 : Nat) : Int)) * (H : Int) = 0 := by simp
          rw [e1] at hn
          omega)
      · have := mkV_getA (sp := 1) (A := List.replicate H 0) (B := gcB H f (gF s Hs)) (H := H) (by omega) (by simp) hgl (i := i - H) (by omega)
        rw [show 1 * H + (i - H) = i by omega] at this
        rw [this]
        exact hrd _
  rw [List.getD_eq_getElem?_getD, List.getElem?_eq_getElem (by omega)] at key
  rw [List.getElem?_eq_getElem (by omega)]
  exact congrArg some key
/-- a root's new word -/
def gW (s : Gst) (Hs : List (Nat × Ob)) (x : Int) : Int := newW (firstN s.h) (otherN s.h) (gF s Hs) x
theorem gNext_roots (s : Gst) (Hs : List (Nat × Ob)) : (gNext s Hs).roots = s.roots.map (gW s Hs) := rfl
theorem GOk.rootW (k : GOk n R s Hs) (hg : Arena.Good n R) {x : Int} (hx : x ∈ s.roots) : isIntW (gW s Hs x) = isIntW x ∧ W64 (gW s Hs x) := by
  obtain ⟨ba, H, sp, N⟩ := k.nums hg
  have g := k.gc hg N
  obtain ⟨h1, h2, h3⟩ := k.root x hx
  exact g.newInt h1 h2 h3
theorem GOk.rootAt (k : GOk n R s Hs) (hg : Arena.Good n R) {x : Int} (hx : x ∈ s.roots) (hi : isIntW x = false) : gW s Hs x / 2 < 4294967296 ∧ ∃ o, readS ((wordsAt (gNext s Hs).ws R s.h.base).drop (gW s Hs x / 2).toNat) = some o := by
  have k1 := k.next hg
  have hx1 : gW s Hs x ∈ (gNext s Hs).roots := by rw [gNext_roots]; exact List.mem_map.2 ⟨x, hx, rfl⟩
  obtain ⟨h1, h2, h3⟩ := k1.root _ hx1
  rcases ok_cases h2 h1 with h | ⟨y, hy⟩
  · rw [(k.rootW hg hx).1, hi] at h; cases h
  · obtain ⟨e1, e2, e3, e4⟩ := getL_some hy
    refine ⟨e4, y.2, ?_⟩
    have := words_read hg k1.len k1.all e1
    rw [show (gNext s Hs).h.base = s.h.base from rfl] at this
    rw [← e2, Int.toNat_natCast]
    exact this
theorem GOk.shape (k : GOk n R s Hs) (hg : Arena.Good n R) (d : Nat) {x : Int} (hx : x ∈ s.roots) : shapeF (getV (wordsAt (gNext s Hs).ws R s.h.base)) d (gW s Hs x) = shapeF (getV (wordsAt s.ws R s.h.base)) d x := by
  rw [k.newWords hg]
  exact shape_coll hg k.len k.w64 k.may k.r64 d x hx
theorem GOk.one (k : GOk n R s Hs) (hg : Arena.Good n R) {x y : Int} (hx : x ∈ s.roots) (hy : y ∈ s.roots) : gW s Hs x = gW s Hs y ↔ x = y := by
  refine ⟨fun e => ?_, fun e => by rw [e]⟩
  obtain ⟨ba, H, sp, N⟩ := k.nums hg
  have g := k.gc hg N
  obtain ⟨a1, a2, a3⟩ := k.root x hx
  obtain ⟨b1, b2, b3⟩ := k.root y hy
  have ix := (k.rootW hg hx).1
  have iy := (k.rootW hg hy).1
  rcases ok_cases a2 a1 with h | ⟨u, hu⟩
  · rw [← e, ix] at iy
    rw [h] at iy
    unfold gW at e
    rw [newW_int h, newW_int iy.symm] at e
    exact e
  · have huF := g.mem hu a3
    obtain ⟨c1, c2, c3⟩ := g.new_of hu huF
    rcases ok_cases b2 b1 with h | ⟨v, hv⟩
    · rw [e, iy, h] at ix
      obtain ⟨_, _, i3, _⟩ := getL_some hu
      rw [i3] at ix
      cases ix
    · have hvF := g.mem hv b3
      obtain ⟨d1, d2, d3⟩ := g.new_of hv hvF
      unfold gW at e
      rw [c1, d1] at e
      have e2 : offF (gF s Hs) u.1 = offF (gF s Hs) v.1 := by omega
      have e3 := offF_inj (inF_true.2 ⟨u, huF, rfl⟩) (inF_true.2 ⟨v, hvF, rfl⟩) e2
      obtain ⟨_, f2, f3, _⟩ := getL_some hu
      obtain ⟨_, g2, g3, _⟩ := getL_some hv
      have f4 : x % 2 ≠ 1 := by unfold isIntW at f3; exact of_decide_eq_false f3
      have g4 : y % 2 ≠ 1 := by unfold isIntW at g3; exact of_decide_eq_false g3
      have h0 := a1.1
      have h1 := b1.1
      omega
end
end Go.Proofs.Ytinakendlpomnaa
/- GcKeeps: the walk. -/
namespace Go.Proofs.Ytinakendlpomnaa
open Go Go.RowKit Go.Deep Go.Maps Arena
set_option maxHeartbeats 8000000
set_option maxRecDepth 100000
/-- what a walk of GcKeeps leans on, of a heap that may be -/
structure KF (R : List (Nat × Nat)) (p g bm n : Nat) (half sp tp : Int) (roots ws : List Int) (V1 : List Int) (f : Int → Int) (ws1 : List Int) (top1 : Nat) : Prop where
  words : V1 = wordsAt ws1 R 3
  len : (V1.length : Int) = 2 * half
  lo : 8 ≤ half
  hi : half ≤ 2000
  sp0 : 0 ≤ sp
  sp1 : sp ≤ 1
  top : (top1 : Int) ≤ half
  zero : ∀ i : Nat, i < V1.length → ¬ ((1 - sp) * half ≤ (i : Int) ∧ (i : Int) < (1 - sp) * half + (top1 : Int)) → V1[i]? = some 0
  ints : ∀ x ∈ roots, isIntW (f x) = isIntW x ∧ W64 (f x)
  at_ : ∀ x ∈ roots, isIntW x = false → f x / 2 < 4294967296 ∧ ∃ o, readS (V1.drop (f x / 2).toNat) = some o
  shape : ∀ x ∈ roots, shapeF (getV V1) 6 (f x) = shapeF (getV (wordsAt ws R 3)) 6 x
  one : ∀ x ∈ roots, ∀ y ∈ roots, f x = f y ↔ x = y
  v64 : ∀ x ∈ V1, W64 x
  live : ∀ W q c, ArenaAt W p g bm n ws R → RowsP W (.slice q roots.length c) 1 (roots.map wordC) → Calls Try.prog 13 #[.pointer (some ⟨p, 0, none⟩), .agg #[.int .i64 3, .int .i64 half, .int .i64 sp, .int .i64 tp], .slice q roots.length c] W fun e w' => e = .returned (.tuple #[.int .i64 (top1 : Int), .bool true]) ∧ Ext W w'
  coll : CStep p g bm n R half roots.length ws sp tp roots ws1 (1 - sp) top1 (roots.map f)
  live1 : ∀ W q c, ArenaAt W p g bm n ws1 R → RowsP W (.slice q roots.length c) 1 ((roots.map f).map wordC) → Calls Try.prog 13 #[.pointer (some ⟨p, 0, none⟩), .agg #[.int .i64 3, .int .i64 half, .int .i64 (1 - sp), .int .i64 (top1 : Int)], .slice q roots.length c] W fun e w' => e = .returned (.tuple #[.int .i64 (top1 : Int), .bool true]) ∧ Ext W w'
  coll1 : ∃ ws2 r2, CStep p g bm n R half roots.length ws1 (1 - sp) top1 (roots.map f) ws2 sp top1 r2 ∧
    ∀ W, ArenaAt W p g bm n ws2 R → Calls Try.prog 18 #[.pointer (some ⟨p, 0, none⟩), .agg #[.int .i64 3, .int .i64 half, .int .i64 sp, .int .i64 (top1 : Int)]] W fun e w' => e = .returned (.bool true) ∧ Ext W w'
theorem live_of {n : Nat} {R : List (Nat × Nat)} {ws roots : List Int} {h : Hp} {Hs : List (Nat × Ob)} {k : Nat} (hm : mayH ws R h roots = some Hs) (hk : sizeF (liveF (firstN h) Hs roots) = k) (h3 : h.base = 3) (hW : ∀ x ∈ ws, W64 x) (hr64 : ∀ x ∈ roots, W64 x) (hl : roots.length ≤ 20) (p g bm : Nat) :
    ∀ W q c, ArenaAt W p g bm n ws R → RowsP W (.slice q roots.length c) 1 (roots.map wordC) → Calls Try.prog 13 #[.pointer (some ⟨p, 0, none⟩), .agg #[.int .i64 3, .int .i64 h.half, .int .i64 h.space, .int .i64 h.top], .slice q roots.length c] W fun e w' => e = .returned (.tuple #[.int .i64 (k : Int), .bool true]) ∧ Ext W w' := by
  intro W q c H hr
  have := live_is H h (by rw [h3]; decide) hW hr hr64 (by omega)
  unfold liveN at this
  rw [hm, h3] at this
  dsimp only at this
  rw [hk] at this
  exact this
theorem wordsAt_mem64 {ws : List Int} {R : List (Nat × Nat)} {x : Int} (h : ∀ y ∈ ws, W64 y) : ∀ y ∈ wordsAt ws R x, W64 y := fun y hy => by
  unfold wordsAt at hy
  exact h y (List.mem_of_mem_drop (List.mem_of_mem_take hy))
theorem keeps_facts {n : Nat} {R : List (Nat × Nat)} {ws roots : List Int} {half sp tp : Int} {Hs : List (Nat × Ob)} (k0 : GOk n R ⟨ws, ⟨3, half, sp, tp⟩, roots⟩ Hs) (hg : Arena.Good n R) (hl : roots.length ≤ 20) (p g bm : Nat) : ∃ V1 f ws1 top1, KF R p g bm n half sp tp roots ws V1 f ws1 top1 := by
  have k1 := k0.next hg
  have k2 := k1.next hg
  obtain ⟨ba, H, spn, N⟩ := k0.nums hg
  have hgc := k0.gc hg N
  have hsz := hgc.size
  have hN1 : half = (H : Int) := N.half
  have hN2 : sp = (spn : Int) := N.space
  have hN3 := N.lo; have hN4 := N.hi; have hN5 := N.one
  have ht := k0.top hg
  have htt : sizeF (liveF (firstN (gNext ⟨ws, ⟨3, half, sp, tp⟩, roots⟩ Hs).h) (gHs ⟨ws, ⟨3, half, sp, tp⟩, roots⟩ Hs) (gNext ⟨ws, ⟨3, half, sp, tp⟩, roots⟩ Hs).roots) = sizeF (gF ⟨ws, ⟨3, half, sp, tp⟩, roots⟩ Hs) := ht
  have l1 : (gNext ⟨ws, ⟨3, half, sp, tp⟩, roots⟩ Hs).roots.length = roots.length := by rw [gNext_roots, List.length_map]
  have c0 := cstep_of k0 p g bm rfl hl
  have c1 := cstep_of k1 p g bm rfl (by omega)
  rw [l1] at c1
  have e1 : (gNext (gNext ⟨ws, ⟨3, half, sp, tp⟩, roots⟩ Hs) (gHs ⟨ws, ⟨3, half, sp, tp⟩, roots⟩ Hs)).h.space = sp := by show 1 - (1 - sp) = sp; omega
  have e2 : (gNext (gNext ⟨ws, ⟨3, half, sp, tp⟩, roots⟩ Hs) (gHs ⟨ws, ⟨3, half, sp, tp⟩, roots⟩ Hs)).h.top = ((sizeF (gF ⟨ws, ⟨3, half, sp, tp⟩, roots⟩ Hs) : Nat) : Int) := by
    show ((sizeF (gF (gNext ⟨ws, ⟨3, half, sp, tp⟩, roots⟩ Hs) (gHs ⟨ws, ⟨3, half, sp, tp⟩, roots⟩ Hs)) : Nat) : Int) = _
    rw [ht]
  rw [e1, e2] at c1
  have z := k0.zeros hg
  have hL1 := live_of (n := n) k1.may htt rfl k1.w64 k1.r64 (by omega) p g bm
  rw [l1] at hL1
  have w1len := wordsAt_mem64 (R := R) (x := 3) k1.w64
  refine ⟨_, gW ⟨ws, ⟨3, half, sp, tp⟩, roots⟩ Hs, (gNext ⟨ws, ⟨3, half, sp, tp⟩, roots⟩ Hs).ws, sizeF (gF ⟨ws, ⟨3, half, sp, tp⟩, roots⟩ Hs),
    rfl, z.1, by omega, by omega, by omega, by omega, by omega, z.2, fun x hx => k0.rootW hg hx, fun x hx hi => k0.rootAt hg hx hi, fun x hx => k0.shape hg 6 hx, fun x hx y hy => k0.one hg hx hy, w1len, live_of (n := n) k0.may rfl rfl k0.w64 k0.r64 hl p g bm, c0, hL1, _, _, c1, fun W HW => ?_⟩
  have := good_is HW ⟨3, half, sp, ((sizeF (gF ⟨ws, ⟨3, half, sp, tp⟩, roots⟩ Hs) : Nat) : Int)⟩ (show (Lit.int .i64 (3 : Int)).wf = true by decide) k2.w64
  have e3 : (gNext (gNext ⟨ws, ⟨3, half, sp, tp⟩, roots⟩ Hs) (gHs ⟨ws, ⟨3, half, sp, tp⟩, roots⟩ Hs)).h = ⟨3, half, sp, ((sizeF (gF ⟨ws, ⟨3, half, sp, tp⟩, roots⟩ Hs) : Nat) : Int)⟩ := by
    have : ∀ h : Hp, h.base = 3 → h.half = half → h.space = sp → h.top = ((sizeF (gF ⟨ws, ⟨3, half, sp, tp⟩, roots⟩ Hs) : Nat) : Int) → h = ⟨3, half, sp, ((sizeF (gF ⟨ws, ⟨3, half, sp, tp⟩, roots⟩ Hs) : Nat) : Int)⟩ := by rintro ⟨a, b, c, d⟩ h1 h2 h3 h4; dsimp only at h1 h2 h3 h4; rw [h1, h2, h3, h4]
    exact this _ rfl rfl e1 e2
  have h2 := k2.all
  rw [e3] at h2
  rw [h2] at this
  exact this
theorem kdone {w w1 W : World} {p g bm t0 t1 q n : Nat} {ws : List Int} {R : List (Nat × Nat)} {h : Hp} (k : Wk w1 W p g bm t0 t1 q n ws R h) (e : Ext w w1) (hg : w.heap.size ≤ g) (h0 : w1.heap.size ≤ t1) : Ext w W :=
  Turn.after e k.t (by
    intro x hx
    have := Below.size e
    simp only [List.mem_cons, List.not_mem_nil, or_false] at hx
    rcases hx with rfl | rfl <;> omega)
theorem ownlow {w w' : World} {base : Nat} {T : TypeId} {v : Value} {s : Nat} {l : List (List Value)} (h : OwnP w base T v s l) {bs : List Nat} (t : Turn bs w w') (hg : ∀ b ∈ bs, b < base) : OwnP w' base T v s l :=
  h.turn t fun b hb hm => by
    have := (h.own b hb).1
    have := hg b hm
    omega
theorem shape6 {n c : Nat} {q : Option Addr} {S : List Int} (hS : S.length = n) (h64 : ∀ x ∈ S, W64 x) (hn : n ≤ 100000) {x : Int} (hx : W64 x) {w : World} (hR : RowsP w (.slice q n c) 1 (S.map wordC)) :
    Calls Try.prog 17 #[.int .u64 x, .slice q n c, .int .i64 6] w fun e w' => e = .returned (.string ⟨(shapeF (getV S) 6 x).toArray⟩) ∧ Ext w w' := shape_is hS h64 hn 6 (Nat.le_refl _) hx hR
theorem keeps_walk {w : World} {v vr : Value} {l roots : List Int} {h0 : Hp} (hv : WdsP w v l) (_hh : HpWf h0) (hr : WdsP w vr roots) : Calls Try.prog 4 #[.agg #[v, .int .i64 h0.base, .int .i64 h0.half, .int .i64 h0.space, .int .i64 h0.top], vr] w (TrueExt w) := by
  have HV := Lib.hid hv; have HR := Lib.hid hr
  obtain ⟨qv, cv, rfl, hv1, hv2, -⟩ := hv.1.at
  obtain ⟨qr, cr, rfl, hr1, hr2, -⟩ := hr.1.at
  rw [List.length_map] at hv1 hr1 HV HR ⊢
  rw [List.length_map]
  unfold maxLen at hv2 hr2
  clear hv hr
  by_cases hbig : 400 < l.length ∨ 20 < roots.length
  · have LG := Lib.hid (fun W (e : Ext w W) => large_flat4 (a := h0.base) (b := h0.half) (c := h0.space) (d := h0.top) (WordSl.of_rows (HV.out.1.ext e)))
    obtain ⟨lb, hlb⟩ : ∃ lb, lb = decide (400 < l.length) := ⟨_, rfl⟩
    rw [← hlb] at LG
    have HLB := Lib.hid hlb
    have HBG := Lib.hid hbig
    clear hlb hbig
    go_enter Try.func4, Try.ntmps4
    go_wp2_with fail
    refine at_alloc1 fun W hE hS b0 => ?_
    refine (LG.out W hE).mono ?_
    rintro e w1 ⟨rfl, hx1⟩
    have HX1 := Lib.hid (hE.trans hx1)
    clear hE hS b0 hx1 LG
    have fin : ∀ w1, Ext w w1 → ∀ (e : Ending) (w2 : World), e = .returned (.bool true) ∧ Ext w1 w2 → e = .returned (.bool true) ∧ Ext w w2 := fun w1 h e w2 ⟨h1, h2⟩ => ⟨h1, h.trans h2⟩
    cases lb with
    | true =>
      go_wp2_with fail
      refine (wakes4 _).mono ?_
      rintro e w2 ⟨rfl, hx2⟩
      have HX2 := Lib.hid (HX1.out.trans hx2)
      clear hx2
      go_wp2
      go_ret
      exact ⟨rfl, HX2.out⟩
    | false =>
      have hr20 : 20 < roots.length := by
        have h1 := of_decide_eq_false HLB.out.symm
        rcases HBG.out with h | h
        · exact absurd h h1
        · exact h
      have d1 : (20 : Int) < (roots.length : Int) := by omega
      go_wp2_with fail
      refine (wakes4 _).mono ?_
      rintro e w2 ⟨rfl, hx2⟩
      have HX2 := Lib.hid (HX1.out.trans hx2)
      clear hx2
      go_wp2
      go_ret
      exact ⟨rfl, HX2.out⟩
  · have hl4 : l.length ≤ 400 := by omega
    have hr20 : roots.length ≤ 20 := by omega
    have d0 : decide (400 < l.length) = false := decide_eq_false (by omega)
    have d1 : decide ((20 : Int) < (roots.length : Int)) = false := decide_eq_false (by omega)
    have LG := Lib.hid (fun W (e : Ext w W) => large_flat4 (a := h0.base) (b := h0.half) (c := h0.space) (d := h0.top) (WordSl.of_rows (HV.out.1.ext e)))
    rw [d0] at LG
    clear hbig d0
    go_enter Try.func4, Try.ntmps4
    go_wp2_with fail
    refine at_alloc1 fun W hE hS b0 => ?_
    refine (LG.out W hE).mono ?_
    rintro e w1 ⟨rfl, hx1⟩
    have HX1 := Lib.hid (hE.trans hx1)
    have B1 := Lib.hid ((Below.block hx1 w.heap.size (by omega)).trans b0)
    clear hE hS b0 hx1 LG
    obtain ⟨z0, z1, z2, z3, z4⟩ := cells5 B1.out
    go_wp2_with fail
    refine (lay_words (WordSl.of_rows (HV.out.1.ext HX1.out)) (by omega)).mono ?_
    rintro e w2 ⟨p, g, bm, q, gq, B, rfl, hB⟩
    have HB := Lib.hid hB
    have B2 := Lib.hid ((Below.block hB.ext w.heap.size (Array.getElem?_eq_some_iff.1 B1.out).1).trans B1.out)
    clear hB B1 z0 z1 z2 z3 z4
    obtain ⟨z0, z1, z2, z3, z4⟩ := cells5 B2.out
    have n0 := (Array.getElem?_eq_some_iff.1 B2.out).1
    go_upto_region 7 with fail
    refine wp_alloc2 fun W4 hE4 hS4 b2 b3 => ?_
    obtain ⟨vR, hR3⟩ := HB.out.r
    have HLT := Lib.hid (show p < q ∧ g < q ∧ bm < q ∧ p < gq ∧ g < gq ∧ bm < gq ∧ gq < w2.heap.size ∧ q < w2.heap.size from by obtain ⟨l1, l2, l3, l4, l5, l6⟩ := HB.out.lt; obtain ⟨m1, m2⟩ := hR3.lt; exact ⟨l1, l2, l3, l4, l5, l6, by omega, by omega⟩)
    have hgw : w.heap.size ≤ g := by have := HB.out.ge.2.1; have := HX1.out.size; omega
    have hX2 : Ext w w2 := HX1.out.trans HB.out.ext
    have hx2s := Below.size hX2
    have K0 := Lib.hid (show Wk w2 W4 p g bm w2.heap.size (w2.heap.size + 1) q (l.length + 10) (rigW l l.length) (rigR (max 1 l.length)) h0 from ⟨HB.out.a.ext hE4, Turn.of_ext hE4, b2, b3, by have := HB.out.a.lt; omega, by have := HB.out.a.lt; omega, by have := HB.out.a.lt; omega, by omega⟩)
    have RF := Lib.hid (hR3.ext hE4)
    have RF0 := Lib.hid hR3
    have HX2 := Lib.hid hX2
    have hsm : ∀ x ∈ rigW l l.length, W64 x := rigW_mem HV.out.2 l.length
    have HSM := Lib.hid hsm
    have hBs := HB.out.size
    clear hE4 hS4 b2 b3 z0 z1 z2 z3 z4 n0 hR3 hsm HB hX2 B2 HX1
    have HT0 := Lib.hid (Nat.le_refl w2.heap.size)
    generalize hg0 : w2.heap.size = t0 at K0 hx2s hBs ⊢
    have HT0 := Lib.hid hg0
    clear hg0
    generalize hg1 : t0 + 1 = t1 at K0 ⊢
    have HT1 := Lib.hid hg1
    clear hg1
    obtain ⟨x0, x1⟩ := cells2 K0.out.two
    obtain ⟨y0, y1, y2, y3⟩ := cells4 K0.out.hp
    have f0 := free_at K0.out.hp (i := 0)
    go_upto_region 8 with fail
    refine wp_fill1 K0.out.hp fun W5 h5 hT5 hS5 => ?_
    have K1 := Lib.hid (K0.out.fill (h' := ⟨3, h0.half, h0.space, h0.top⟩) h5 hT5)
    have RF1 := Lib.hid (RF.out.turn_new RF0.out hT5 (fun b hb => by rw [List.mem_singleton.1 hb]; have := HT0.out; have := HT1.out; omega))
    have HX5 := Lib.hid (show Ext w W5 from Turn.after HX2.out K1.out.t (fun b hb => by have := HT0.out; have := HT1.out; simp only [List.mem_cons, List.not_mem_nil, or_false] at hb; rcases hb with rfl | rfl <;> omega))
    clear hS5 h5 hT5 K0 RF RF0 x0 x1 y0 y1 y2 y3 f0
    obtain ⟨h, hh3⟩ : ∃ h : Hp, h = ⟨3, h0.half, h0.space, h0.top⟩ := ⟨_, rfl⟩
    have hb3 : h.base = 3 := by rw [hh3]
    have hwf : (Lit.int .i64 h.base).wf = true := by rw [hb3]; decide
    cases hm : mayH (rigW l l.length) (rigR (max 1 l.length)) h roots with
    | none =>
      have LV := Lib.hid (fun W (e : Ext W5 W) => live_is (K1.out.a.ext e) h hwf HSM.out (HR.out.1.ext (HX5.out.trans e)) HR.out.2 (by omega))
      unfold liveN at LV
      rw [hm] at LV
      have CN := Lib.hid (fun W (e : Ext W5 W) => coll_no (K1.out.a.ext e) h hwf HSM.out (HR.out.1.ext (HX5.out.trans e)) HR.out.2 (by omega) hm)
      unfold CollSaid zeroHV at CN
      rw [hm] at CN
      have MAY := Lib.hid (fun W (e : Ext W5 W) => rmay_is (RF1.out.ext e) h HSM.out (HR.out.1.ext (HX5.out.trans e)) HR.out.2 (by omega))
      rw [hm] at MAY
      rw [hh3] at LV CN MAY
      clear hm hh3 hb3 hwf RF1
      obtain ⟨x0, x1⟩ := cells2 K1.out.two
      obtain ⟨y0, y1, y2, y3⟩ := cells4 K1.out.hp
      go_wp2_with fail
      refine (LV.out _ (Ext.refl _)).mono ?_
      rintro e w6 ⟨rfl, hx6⟩
      have HX6 := Lib.hid hx6
      have K2 := Lib.hid (K1.out.ext hx6)
      clear hx6 x0 x1 y0 y1 y2 y3 K1 LV
      obtain ⟨x0, x1⟩ := cells2 K2.out.two
      go_wp2_with fail
      refine (words_own K2.out.a (by omega)).mono ?_
      rintro e w7 ⟨qw1, lw1, cw1, rfl, hws1, hx7⟩
      have HX7 := Lib.hid (HX6.out.trans hx7)
      have K3 := Lib.hid (K2.out.ext hx7)
      have WS7 := Lib.hid hws1
      clear hx7 hws1 x0 x1 K2 HX6
      obtain ⟨x0, x1⟩ := cells2 K3.out.two
      obtain ⟨y0, y1, y2, y3⟩ := cells4 K3.out.hp
      go_wp2_with fail
      refine (CN.out _ HX7.out).mono ?_
      rintro e w8 ⟨rfl, hx8⟩
      have HX8 := Lib.hid (HX7.out.trans hx8)
      have K4 := Lib.hid (K3.out.ext hx8)
      have WS8 := Lib.hid (WS7.out.ext hx8)
      clear hx8 x0 x1 y0 y1 y2 y3 K3 HX7 WS7 CN
      go_upto_region 11 with fail
      refine wp_alloc1 fun W9 hE9 hS9 b9 => ?_
      have HX9 := Lib.hid (HX8.out.trans hE9)
      have K5 := Lib.hid (K4.out.ext hE9)
      have WS9 := Lib.hid (WS8.out.ext hE9)
      clear hE9 hS9 b9 K4 HX8 WS8
      obtain ⟨x0, x1⟩ := cells2 K5.out.two
      go_wp2_with fail
      refine (words_own K5.out.a (by omega)).mono ?_
      rintro e w10 ⟨qw2, lw2, cw2, rfl, hws2, hx10⟩
      have HX10 := Lib.hid (HX9.out.trans hx10)
      have K6 := Lib.hid (K5.out.ext hx10)
      have WS10 := Lib.hid (WS9.out.ext hx10)
      have WT10 := Lib.hid hws2
      clear hx10 hws2 x0 x1 K5 HX9 WS9
      obtain ⟨x0, x1⟩ := cells2 K6.out.two
      obtain ⟨y0, y1, y2, y3⟩ := cells4 K6.out.hp
      go_wp2_with fail
      refine (MAY.out _ HX10.out).mono ?_
      rintro e w11 ⟨rfl, hx11⟩
      rw [Option.isSome_none]
      have K7 := Lib.hid (K6.out.ext hx11)
      have WS11 := Lib.hid (WS10.out.ext hx11)
      have WT11 := Lib.hid (WT10.out.ext hx11)
      clear hx11 x0 x1 y0 y1 y2 y3 K6 HX10 WS10 WT10 MAY
      go_wp2_with fail
      refine (keep_words (WordSl.of_rows WS11.out.p) (WordSl.of_rows WT11.out.p)).mono ?_
      rintro e w12 ⟨rfl, hx12⟩
      rw [show decide (wordsAt (rigW l l.length) (rigR (max 1 l.length)) 3 = wordsAt (rigW l l.length) (rigR (max 1 l.length)) 3) = true by simp]
      have K8 := Lib.hid (K7.out.ext hx12)
      clear hx12 K7 WS11 WT11
      go_wp2_with fail
      refine (wakes4 _).mono ?_
      rintro e w13 ⟨rfl, hx13⟩
      have K9 := Lib.hid (K8.out.ext hx13)
      clear hx13 K8
      go_wp2
      go_ret
      refine ⟨rfl, Turn.after HX2.out K9.out.t (fun b hb => ?_)⟩
      have h2 := HT0.out
      have h3 := HT1.out
      simp only [List.mem_cons, List.not_mem_nil, or_false] at hb
      rcases hb with rfl | rfl <;> omega
    | some Hs =>
      have k0 : GOk (l.length + 10) (rigR (max 1 l.length)) ⟨rigW l l.length, h, roots⟩ Hs := ⟨K1.out.a.len, hm, HSM.out, HR.out.2⟩
      have MAY := Lib.hid (fun W (r : RefAt W q gq B (l.length + 10) (rigW l l.length) vR (rigR (max 1 l.length))) (hr : RowsP W (.slice qr roots.length cr) 1 (roots.map wordC)) => rmay_is r h HSM.out hr HR.out.2 (by omega))
      rw [hm] at MAY
      rw [hh3] at k0 MAY
      obtain ⟨V1, f, ws1, top1, kf⟩ := keeps_facts k0 K1.out.a.good hr20 p g bm
      have KF := Lib.hid kf
      have hgw2 : g < w2.heap.size ∧ g < q ∧ g < gq := by have := HLT.out; omega
      have hstay : ∀ W, Ext w W → RowStay W g (.slice qr roots.length cr) (roots.map wordC) := fun W eW V tV => HR.out.1.ext (Turn.after eW tV (fun b hb => by rw [List.mem_singleton.1 hb]; exact hgw))
      have HST := Lib.hid hstay
      clear k0 hm hh3 kf hstay hb3 hwf
      obtain ⟨x0, x1⟩ := cells2 K1.out.two
      obtain ⟨y0, y1, y2, y3⟩ := cells4 K1.out.hp
      go_wp2_with fail
      refine (KF.out.live _ _ _ K1.out.a (HR.out.1.ext HX5.out)).mono ?_
      rintro e w6 ⟨rfl, hx6⟩
      have HX6 := Lib.hid (HX5.out.trans hx6)
      have K2 := Lib.hid (K1.out.ext hx6); have RF2 := Lib.hid (RF1.out.ext hx6)
      clear hx6 x0 x1 y0 y1 y2 y3 K1 RF1 HX5
      obtain ⟨x0, x1⟩ := cells2 K2.out.two
      go_wp2_with fail
      refine (words_own K2.out.a (by omega)).mono ?_
      rintro e w7 ⟨qw1, lw1, cw1, rfl, hws1, hx7⟩
      have K2lt : g < w6.heap.size := K2.out.a.lt.2.1
      obtain ⟨qa, ca, e9, -, -⟩ := hws1.len
      obtain ⟨-, rfl, -⟩ := Value.slice.inj e9
      rw [List.length_map] at hws1 ⊢
      clear e9
      have HX7 := Lib.hid (HX6.out.trans hx7)
      have K3 := Lib.hid (K2.out.ext hx7); have RF3 := Lib.hid (RF2.out.ext hx7)
      have WS7 := Lib.hid hws1
      clear hx7 hws1 x0 x1 K2 HX6 RF2
      obtain ⟨V0, hV0⟩ : ∃ V0, V0 = wordsAt (rigW l l.length) (rigR (max 1 l.length)) 3 := ⟨_, rfl⟩
      have HV0 := Lib.hid hV0
      rw [← hV0] at WS7 ⊢
      have hV0l : V0.length ≤ 100000 := by
        rw [hV0, wordsAt_len K3.out.a.good K3.out.a.len, rig_len]
        omega
      have hV064 : ∀ x ∈ V0, W64 x := by rw [hV0]; exact wordsAt_mem64 HSM.out
      have HV064 := Lib.hid hV064
      clear hV0 hV064
      obtain ⟨x0, x1⟩ := cells2 K3.out.two
      obtain ⟨y0, y1, y2, y3⟩ := cells4 K3.out.hp
      go_wp2_with fail
      refine (KF.out.coll _ _ _ K3.out.a (HST.out _ HX7.out)).mono ?_
      rintro e w8 ⟨q1, cc1, rfl, hA8, hO8, hT8⟩
      have K4 := Lib.hid (K3.out.put hA8 hT8)
      have RF4 := Lib.hid (RF3.out.turn hT8 (by simp; omega) (by simp; omega) (by intro b hb; rw [List.mem_singleton.1 hb]; have := RF3.out.qB; omega))
      have hg7 : g < w7.heap.size := K3.out.a.lt.2.1
      have O8 := Lib.hid (hO8.mono (show g + 1 ≤ w7.heap.size by omega))
      have hw7 : w2.heap.size ≤ w7.heap.size := by have := K3.out.t.size; exact this
      have WS8 := Lib.hid (WS7.out.turn hT8 (fun b hb hm => by
        have h1 := (WS7.out.own b hb).1
        rw [List.mem_singleton.1 hm] at h1
        have := K2lt
        omega))
      clear hA8 hO8 hT8 K3 RF3 WS7 x0 x1 y0 y1 y2 y3 HX7
      go_upto_region 11 with fail
      refine wp_alloc1 fun W9 hE9 hS9 b9 => ?_
      have K5 := Lib.hid (K4.out.ext hE9); have RF5 := Lib.hid (RF4.out.ext hE9)
      have O9 := Lib.hid (O8.out.ext hE9); have WS9 := Lib.hid (WS8.out.ext hE9)
      have BA9 := Lib.hid b9
      have htA : t1 < w8.heap.size := (Array.getElem?_eq_some_iff.1 K4.out.hp).1
      clear hE9 hS9 b9 K4 RF4 O8 WS8
      generalize w8.heap.size = tA at *
      obtain ⟨x0, x1⟩ := cells2 K5.out.two
      go_wp2_with fail
      refine (words_own K5.out.a (by omega)).mono ?_
      rintro e w10 ⟨qw2, lw2, cw2, rfl, hws2, hx10⟩
      rw [← KF.out.words] at hws2
      obtain ⟨qa, ca, e9, -, -⟩ := hws2.len
      obtain ⟨-, rfl, -⟩ := Value.slice.inj e9
      rw [List.length_map] at hws2 ⊢
      have hV1c : V1.length ≤ cw2 ∧ cw2 ≤ maxLen := by
        obtain ⟨_, _, e9, h1, h2⟩ := hws2.len
        rw [List.length_map] at h1
        obtain ⟨_, _, rfl⟩ := Value.slice.inj e9
        exact ⟨h1, h2⟩
      clear e9
      have K6 := Lib.hid (K5.out.ext hx10); have RF6 := Lib.hid (RF5.out.ext hx10)
      have O10 := Lib.hid (O9.out.ext hx10); have WS10 := Lib.hid (WS9.out.ext hx10)
      have BA10 := Lib.hid ((Below.block hx10 _ (Array.getElem?_eq_some_iff.1 BA9.out).1).trans BA9.out)
      have WT10 := Lib.hid (hws2.mono (show g + 1 ≤ W9.heap.size by have := (Array.getElem?_eq_some_iff.1 BA9.out).1; have := K5.out.a.lt.2.1; omega))
      clear hx10 hws2 x0 x1 K5 RF5 O9 WS9 BA9
      have HXA := Lib.hid (kdone K6.out HX2.out hgw (by have := HT0.out; have := HT1.out; omega))
      obtain ⟨x0, x1⟩ := cells2 K6.out.two
      obtain ⟨y0, y1, y2, y3⟩ := cells4 K6.out.hp
      go_wp2_with fail
      refine (MAY.out _ RF6.out (HR.out.1.ext HXA.out)).mono ?_
      rintro e w11 ⟨rfl, hx11⟩
      rw [Option.isSome_some]
      have K7 := Lib.hid (K6.out.ext hx11)
      have O11 := Lib.hid (O10.out.ext hx11); have WS11 := Lib.hid (WS10.out.ext hx11); have WT11 := Lib.hid (WT10.out.ext hx11)
      have BA11 := Lib.hid ((Below.block hx11 _ (Array.getElem?_eq_some_iff.1 BA10.out).1).trans BA10.out)
      have HX11 := Lib.hid (HXA.out.trans hx11)
      clear hx11 K6 RF6 O10 WS10 WT10 BA10 x0 x1 y0 y1 y2 y3 MAY HXA
      obtain ⟨x0, x1⟩ := cells2 K7.out.two
      obtain ⟨y0, y1, y2, y3⟩ := cells4 K7.out.hp
      obtain ⟨z0, z1, z2, z3⟩ := cells4 BA11.out
      have hsp0 := KF.out.sp0; have hsp1 := KF.out.sp1; have hlo := KF.out.lo; have hhi := KF.out.hi; have htop := KF.out.top
      have hlen : 2 * h0.half = (V1.length : Int) := KF.out.len.symm
      unfold maxLen at hV1c
      obtain ⟨hV1c1, hV1c2⟩ := hV1c
      go_wp2_with fail
      clear hlen x0 x1 y0 y1 y2 y3 z0 z1 z2 z3
      have hm1 : 0 ≤ (1 - h0.space) * h0.half := by
        have : h0.space = 0 ∨ h0.space = 1 := by omega
        rcases this with e | e <;> rw [e] <;> omega
      have hm2 : (1 - h0.space) * h0.half ≤ 2000 := by
        have : h0.space = 0 ∨ h0.space = 1 := by omega
        rcases this with e | e <;> rw [e] <;> omega
      have hz3 : top1 ≤ 2000 := by omega
      have hV1l : V1.length ≤ 4000 := by have := KF.out.len; omega
      obtain ⟨z0, z1, z2, z3⟩ := cells4 BA11.out
      go_loop [18] (fun v => ∃ a : Nat, a ≤ V1.length ∧ v = .int .i64 a) (fun v => V1.length - (Go.RowKit.intOf v).toNat)
      case atStart => exact ⟨0, Nat.zero_le _, rfl⟩
      case round =>
        obtain ⟨a, ha, rfl⟩ := hrel
        by_cases hlt : a < V1.length
        · have i1 : (a : Int) < (V1.length : Int) := by omega
          have hzero := KF.out.zero a hlt
          rw [List.getElem?_eq_getElem hlt] at hzero
          obtain ⟨ga, rfl, -, hca, -⟩ := WT11.out.cell (i := a) (f := 0) (cs := wordC (V1[a])) (u := .int .u64 (V1[a])) (by rw [List.getElem?_map, List.getElem?_eq_getElem hlt]; rfl) rfl
          rw [Nat.add_zero, Nat.mul_one] at hca
          generalize V1[a] = va at *
          by_cases h1 : (1 - h0.space) * h0.half ≤ (a : Int)
          · by_cases h2 : (a : Int) < (1 - h0.space) * h0.half + (top1 : Int)
            · clear hzero
              go_wp2
              exact ⟨⟨a + 1, by omega, by go_num⟩, by simp [Go.RowKit.intOf]; omega⟩
            · obtain rfl : va = 0 := Option.some.inj (hzero (fun h => h2 h.2))
              clear hzero
              go_wp2
              exact ⟨⟨a + 1, by omega, by go_num⟩, by simp [Go.RowKit.intOf]; omega⟩
          · obtain rfl : va = 0 := Option.some.inj (hzero (fun h => h1 h.1))
            clear hzero
            go_wp2
            exact ⟨⟨a + 1, by omega, by go_num⟩, by simp [Go.RowKit.intOf]; omega⟩
        · obtain rfl : a = V1.length := by omega
          clear hlt ha
          clear z0 z1 z2 z3
          go_wp2_with fail
          go_loopw [20] (fun v wx => ∃ a : Nat, a ≤ roots.length ∧ v = .int .i64 a ∧ Ext w11 wx) (fun v _ => roots.length - (Go.RowKit.intOf v).toNat)
          case atStart => exact ⟨0, Nat.zero_le _, rfl, Ext.refl _⟩
          case round =>
            obtain ⟨i, hi, rfl, hex⟩ := hrel
            have HEX := Lib.hid hex
            clear hex
            by_cases hlt : i < roots.length
            · obtain ⟨x, hx⟩ : ∃ x, x = roots[i] := ⟨_, rfl⟩
              have hxm : x ∈ roots := by rw [hx]; exact List.getElem_mem hlt
              have hxi : roots[i]? = some x := by rw [hx]; exact List.getElem?_eq_getElem hlt
              obtain ⟨y, hy⟩ : ∃ y, y = f x := ⟨_, rfl⟩
              have hint := KF.out.ints x hxm
              rw [← hy] at hint
              have hx64 : W64 x := HR.out.2 x hxm
              have HXM := Lib.hid hxm; have HXI := Lib.hid hxi; have HY := Lib.hid hy
              have hy64 := hint.2
              have hb := hint.1
              obtain ⟨bi, hbi⟩ : ∃ bi, bi = isIntW x := ⟨_, rfl⟩
              have CI1 := Lib.hid (fun W => refIsInt_is hy64 W)
              have CI2 := Lib.hid (fun W => refIsInt_is hx64 W)
              rw [hb, ← hbi] at CI1
              rw [← hbi] at CI2
              have HB := Lib.hid hb; have HBI := Lib.hid hbi; have HX64 := Lib.hid hx64; have HY64 := Lib.hid hy64
              have i1 : (i : Int) < (roots.length : Int) := by omega
              have i2 : (0 : Int) ≤ (i : Int) := by omega
              obtain ⟨gb, rfl, -, hcy, -⟩ := (O11.out.ext HEX.out).cell (i := i) (f := 0) (cs := wordC y) (u := .int .u64 y) (by rw [List.getElem?_map, List.getElem?_map, hxi, hy]; rfl) rfl
              rw [Nat.add_zero, Nat.mul_one] at hcy
              obtain ⟨q9, c9, e9, -, -, hcell⟩ := (HR.out.1.ext (HX11.out.trans HEX.out)).at
              obtain ⟨rfl, -, rfl⟩ := Value.slice.inj e9
              obtain ⟨br, offr, rfl, hcx⟩ := hcell i (wordC x) (by rw [List.getElem?_map, hxi]; rfl)
              have hcx := hcx 0 _ rfl
              rw [Nat.add_zero, Nat.mul_one] at hcx
              clear hcell e9 hx hxm hxi hy hint hb hbi hx64 hy64 hlt hi
              go_upto_region 27 with fail
              have CQ1 := Lib.hid (fun d os => quiet_same (CI1.out (Go.Sort.grow (redrawn wr d) os)))
              have CQ2 := Lib.hid (fun d os => quiet_same (CI2.out (Go.Sort.grow (redrawn wr d) os)))
              have rcy := fun d os => cell_regrown hcy d os
              have rcx := fun d os => cell_regrown hcx d os
              refine wp_region_quiet_below (by kernel_rfl) (by kernel_rfl) ?_
              repeat (first | go_big_quiet_step (first | with_reducible exact CQ1.out _ _ | with_reducible exact CQ2.out _ _) | quiet_step (first | with_reducible exact CQ1.out _ _ | with_reducible exact CQ2.out _ _))
              refine wpQuiet_nil ?_
              intro _ hw'
              obtain ⟨⟨dq, osq⟩, hw''⟩ := hw'
              subst hw''
              obtain ⟨W12, hW12, hx12⟩ : ∃ W12, W12 = Go.Sort.grow (redrawn wr dq) osq ∧ Ext wr W12 := ⟨_, rfl, Ext.regrown wr dq osq⟩
              rw [← hW12]
              have HEX2 := Lib.hid (HEX.out.trans hx12)
              have hcy2 := hx12.cell hcy
              have hcx2 := hx12.cell hcx
              clear hW12 hx12 rcy rcx CQ1 CQ2 hcy hcx HEX
              have HKY := Lib.hid (KF.out.at_ x HXM.out)
              go_wp2_with fail
              refine (CI1.out _).mono ?_
              rintro e w13 ⟨rfl, rfl⟩
              cases bi with
              | true =>
                go_upto_region 33 with fail
                clear HKY CI1 CI2
                generalize W12 = wz at *
                have HEXZ := HEX2; have hcyz := hcy2; have hcxz := hcx2
                clear HEX2 hcy2 hcx2
                have rcy := fun d os => cell_regrown hcyz d os
                have rcx := fun d os => cell_regrown hcxz d os
                obtain ⟨sb, hsb⟩ : ∃ sb : ByteArray, sb = ⟨(shapeF (getV V0) 6 x).toArray⟩ := ⟨_, rfl⟩
                have hsh := KF.out.shape x HXM.out
                rw [← HY.out, ← HV0.out] at hsh
                have CSX := Lib.hid (fun d os => quiet_ext (shape6 (S := V0) rfl HV064.out hV0l HX64.out (WS11.out.p.ext (HEXZ.out.trans (Ext.regrown wz d os)))))
                have CSY := Lib.hid (fun d os => quiet_ext (shape6 (S := V1) rfl KF.out.v64 (by omega) HY64.out (WT11.out.p.ext (HEXZ.out.trans (Ext.regrown wz d os)))))
                rw [← hsb] at CSX
                rw [hsh, ← hsb] at CSY
                clear hsb hsh
                refine wp_region_quiet_below (by kernel_rfl) (by kernel_rfl) ?_
                repeat (first | go_big_quiet_step (first | with_reducible exact CSX.out _ _ | with_reducible exact CSY.out _ _) | quiet_step (first | with_reducible exact CSX.out _ _ | with_reducible exact CSY.out _ _))
                refine wpQuiet_nil ?_
                intro _ hw'
                obtain ⟨⟨dq, osq⟩, hw''⟩ := hw'
                subst hw''
                obtain ⟨W14, hW14, hx14⟩ : ∃ W14, W14 = Go.Sort.grow (redrawn wz dq) osq ∧ Ext wz W14 := ⟨_, rfl, Ext.regrown wz dq osq⟩
                rw [← hW14]
                have HEX4 := Lib.hid (HEXZ.out.trans hx14)
                clear hW14 hx14 rcy rcx CSX CSY hcyz hcxz HEXZ
                go_wp2_with fail
                clear hcx
                go_loopw [22] (fun v wy => ∃ a : Nat, a ≤ i ∧ v = .int .i64 a ∧ Ext w11 wy) (fun v _ => i - (Go.RowKit.intOf v).toNat)
                case atStart => exact ⟨0, Nat.zero_le _, rfl, HEX4.out⟩
                case round =>
                  obtain ⟨a, ha, rfl, hex5⟩ := hrel
                  have HEX5 := Lib.hid hex5
                  clear hex5 HEX4
                  by_cases hlt : a < i
                  · have hal : a < roots.length := by omega
                    have hil : i < roots.length := by omega
                    obtain ⟨x2, hx2⟩ : ∃ x2, x2 = roots[a] := ⟨_, rfl⟩
                    have hx2m : x2 ∈ roots := by rw [hx2]; exact List.getElem_mem hal
                    have hx2i : roots[a]? = some x2 := by rw [hx2]; exact List.getElem?_eq_getElem hal
                    obtain ⟨y2, hy2⟩ : ∃ y2, y2 = f x2 := ⟨_, rfl⟩
                    have hone := KF.out.one x2 hx2m x HXM.out
                    rw [← hy2, ← HY.out] at hone
                    obtain ⟨bb, hbb⟩ : ∃ bb, (x2 == x) = bb := ⟨_, rfl⟩
                    have hbb2 : (y2 == y) = bb := by
                      rw [← hbb]
                      cases hc : (x2 == x) with
                      | true => exact beq_iff_eq.2 (hone.2 (eq_of_beq hc))
                      | false =>
                        cases hd : (y2 == y) with
                        | true => have := hone.1 (eq_of_beq hd); rw [this] at hc; simp at hc
                        | false => rfl
                    obtain ⟨g1, e1, -, hc1, -⟩ := (O11.out.ext HEX5.out).cell (i := a) (f := 0) (cs := wordC y2) (u := .int .u64 y2) (by rw [List.getElem?_map, List.getElem?_map, hx2i, hy2]; rfl) rfl
                    obtain ⟨g2, e2, -, hc2, -⟩ := (O11.out.ext HEX5.out).cell (i := i) (f := 0) (cs := wordC y) (u := .int .u64 y) (by rw [List.getElem?_map, List.getElem?_map, HXI.out, HY.out]; rfl) rfl
                    obtain ⟨rfl, _⟩ := Addr.mk.inj (Option.some.inj e1)
                    obtain ⟨rfl, _⟩ := Addr.mk.inj (Option.some.inj e2)
                    rw [Nat.add_zero, Nat.mul_one] at hc1 hc2
                    obtain ⟨q9, c9, e9, -, -, hcell⟩ := (HR.out.1.ext (HX11.out.trans HEX5.out)).at
                    obtain ⟨rfl, -, rfl⟩ := Value.slice.inj e9
                    obtain ⟨b3, o3, e3, hc3⟩ := hcell a (wordC x2) (by rw [List.getElem?_map, hx2i]; rfl)
                    obtain ⟨b4, o4, e4, hc4⟩ := hcell i (wordC x) (by rw [List.getElem?_map, HXI.out]; rfl)
                    obtain ⟨rfl, rfl, _⟩ := Addr.mk.inj (Option.some.inj e3)
                    obtain ⟨rfl, rfl, _⟩ := Addr.mk.inj (Option.some.inj e4)
                    have hc3 := hc3 0 _ rfl
                    have hc4 := hc4 0 _ rfl
                    rw [Nat.add_zero, Nat.mul_one] at hc3 hc4
                    have j1 : (a : Int) < (roots.length : Int) := by omega
                    have j2 : (0 : Int) ≤ (a : Int) := by omega
                    have j3 : (a : Int) < (i : Int) := by omega
                    clear hcell e9 e1 e2 e3 e4 hone hx2 hx2m hx2i hy2 hal hil ha hlt
                    go_upto_region 38 with fail
                    have r1 := fun d os => cell_regrown hc1 d os
                    have r2 := fun d os => cell_regrown hc2 d os
                    have r3 := fun d os => cell_regrown hc3 d os
                    have r4 := fun d os => cell_regrown hc4 d os
                    refine wp_region_quiet_below (by kernel_rfl) (by kernel_rfl) ?_
                    repeat (first | go_big_quiet_step (fail) | quiet_step (fail))
                    refine wpQuiet_nil ?_
                    intro _ hw'
                    obtain ⟨⟨dq, osq⟩, hw''⟩ := hw'
                    subst hw''
                    have HEX6 := Lib.hid (HEX5.out.trans (Ext.regrown wr dq osq))
                    generalize Go.Sort.grow (redrawn wr dq) osq = W15 at *
                    clear r1 r2 r3 r4 hc1 hc2 hc3 hc4
                    go_wp2
                    exact ⟨⟨a + 1, by omega, by go_num, HEX6.out⟩, by simp [Go.RowKit.intOf]; omega⟩
                  · obtain rfl : a = i := by omega
                    go_wp2
                    exact ⟨⟨a + 1, by omega, by go_num, HEX5.out⟩, by simp [Go.RowKit.intOf]; omega⟩
              | false =>
                obtain ⟨hk1, o, hk2⟩ := HKY.out HBI.out.symm
                rw [← HY.out] at hk1 hk2
                obtain ⟨ky, hky⟩ := Int.eq_ofNat_of_zero_le (show 0 ≤ y / 2 by have := HY64.out.1; omega)
                rw [hky, Int.toNat_natCast] at hk2
                have CA := Lib.hid (fun W => refAt_is HY64.out W)
                rw [HB.out, ← HBI.out, if_neg (by simp; omega), hky] at CA
                have CT := Lib.hid (fun W (e : Ext w11 W) => refat_is (S := V1) ky W (WT11.out.p.ext e) KF.out.v64 (by omega))
                rw [hk2] at CT
                clear hk2 HKY
                have hkn : (0 : Int) ≤ (ky : Int) := by omega
                have hfl1 : ∀ (a b : Int) (q : Option Addr) (l c : Nat) (s : ByteArray) (t : Bool) (W : World), (Instr.field 50 (.agg #[.int .i64 a, .int .i64 b, .slice q l c, .string s, .bool t]) 1).run Try.prog W = .ok (.bool t) W := fun _ _ _ _ _ _ _ _ => by kernel_rfl
                clear hky hk1
                go_wp2_with fail
                refine (CA.out _).mono ?_
                rintro e w13 ⟨rfl, rfl⟩
                go_wp2_with fail
                refine (CT.out _ HEX2.out).mono ?_
                rintro e w13 ⟨qt, ct, rfl, -, hx13⟩
                have HEXZ := Lib.hid (HEX2.out.trans hx13)
                have hcyz := hx13.cell hcy2
                have hcxz := hx13.cell hcx2
                go_upto_region 33 with fail
                clear hx13 HEX2 hcy2 hcx2 CA CT CI1 CI2 hkn hfl1
                generalize w13 = wz at *
                have rcy := fun d os => cell_regrown hcyz d os
                have rcx := fun d os => cell_regrown hcxz d os
                obtain ⟨sb, hsb⟩ : ∃ sb : ByteArray, sb = ⟨(shapeF (getV V0) 6 x).toArray⟩ := ⟨_, rfl⟩
                have hsh := KF.out.shape x HXM.out
                rw [← HY.out, ← HV0.out] at hsh
                have CSX := Lib.hid (fun d os => quiet_ext (shape6 (S := V0) rfl HV064.out hV0l HX64.out (WS11.out.p.ext (HEXZ.out.trans (Ext.regrown wz d os)))))
                have CSY := Lib.hid (fun d os => quiet_ext (shape6 (S := V1) rfl KF.out.v64 (by omega) HY64.out (WT11.out.p.ext (HEXZ.out.trans (Ext.regrown wz d os)))))
                rw [← hsb] at CSX
                rw [hsh, ← hsb] at CSY
                clear hsb hsh
                refine wp_region_quiet_below (by kernel_rfl) (by kernel_rfl) ?_
                repeat (first | go_big_quiet_step (first | with_reducible exact CSX.out _ _ | with_reducible exact CSY.out _ _) | quiet_step (first | with_reducible exact CSX.out _ _ | with_reducible exact CSY.out _ _))
                refine wpQuiet_nil ?_
                intro _ hw'
                obtain ⟨⟨dq, osq⟩, hw''⟩ := hw'
                subst hw''
                obtain ⟨W14, hW14, hx14⟩ : ∃ W14, W14 = Go.Sort.grow (redrawn wz dq) osq ∧ Ext wz W14 := ⟨_, rfl, Ext.regrown wz dq osq⟩
                rw [← hW14]
                have HEX4 := Lib.hid (HEXZ.out.trans hx14)
                clear hW14 hx14 rcy rcx CSX CSY hcyz hcxz HEXZ
                go_wp2_with fail
                clear hcx
                go_loopw [22] (fun v wy => ∃ a : Nat, a ≤ i ∧ v = .int .i64 a ∧ Ext w11 wy) (fun v _ => i - (Go.RowKit.intOf v).toNat)
                case atStart => exact ⟨0, Nat.zero_le _, rfl, HEX4.out⟩
                case round =>
                  obtain ⟨a, ha, rfl, hex5⟩ := hrel
                  have HEX5 := Lib.hid hex5
                  clear hex5 HEX4
                  by_cases hlt : a < i
                  · have hal : a < roots.length := by omega
                    have hil : i < roots.length := by omega
                    obtain ⟨x2, hx2⟩ : ∃ x2, x2 = roots[a] := ⟨_, rfl⟩
                    have hx2m : x2 ∈ roots := by rw [hx2]; exact List.getElem_mem hal
                    have hx2i : roots[a]? = some x2 := by rw [hx2]; exact List.getElem?_eq_getElem hal
                    obtain ⟨y2, hy2⟩ : ∃ y2, y2 = f x2 := ⟨_, rfl⟩
                    have hone := KF.out.one x2 hx2m x HXM.out
                    rw [← hy2, ← HY.out] at hone
                    obtain ⟨bb, hbb⟩ : ∃ bb, (x2 == x) = bb := ⟨_, rfl⟩
                    have hbb2 : (y2 == y) = bb := by
                      rw [← hbb]
                      cases hc : (x2 == x) with
                      | true => exact beq_iff_eq.2 (hone.2 (eq_of_beq hc))
                      | false =>
                        cases hd : (y2 == y) with
                        | true => have := hone.1 (eq_of_beq hd); rw [this] at hc; simp at hc
                        | false => rfl
                    obtain ⟨g1, e1, -, hc1, -⟩ := (O11.out.ext HEX5.out).cell (i := a) (f := 0) (cs := wordC y2) (u := .int .u64 y2) (by rw [List.getElem?_map, List.getElem?_map, hx2i, hy2]; rfl) rfl
                    obtain ⟨g2, e2, -, hc2, -⟩ := (O11.out.ext HEX5.out).cell (i := i) (f := 0) (cs := wordC y) (u := .int .u64 y) (by rw [List.getElem?_map, List.getElem?_map, HXI.out, HY.out]; rfl) rfl
                    obtain ⟨rfl, _⟩ := Addr.mk.inj (Option.some.inj e1)
                    obtain ⟨rfl, _⟩ := Addr.mk.inj (Option.some.inj e2)
                    rw [Nat.add_zero, Nat.mul_one] at hc1 hc2
                    obtain ⟨q9, c9, e9, -, -, hcell⟩ := (HR.out.1.ext (HX11.out.trans HEX5.out)).at
                    obtain ⟨rfl, -, rfl⟩ := Value.slice.inj e9
                    obtain ⟨b3, o3, e3, hc3⟩ := hcell a (wordC x2) (by rw [List.getElem?_map, hx2i]; rfl)
                    obtain ⟨b4, o4, e4, hc4⟩ := hcell i (wordC x) (by rw [List.getElem?_map, HXI.out]; rfl)
                    obtain ⟨rfl, rfl, _⟩ := Addr.mk.inj (Option.some.inj e3)
                    obtain ⟨rfl, rfl, _⟩ := Addr.mk.inj (Option.some.inj e4)
                    have hc3 := hc3 0 _ rfl
                    have hc4 := hc4 0 _ rfl
                    rw [Nat.add_zero, Nat.mul_one] at hc3 hc4
                    have j1 : (a : Int) < (roots.length : Int) := by omega
                    have j2 : (0 : Int) ≤ (a : Int) := by omega
                    have j3 : (a : Int) < (i : Int) := by omega
                    clear hcell e9 e1 e2 e3 e4 hone hx2 hx2m hx2i hy2 hal hil ha hlt
                    go_upto_region 38 with fail
                    have r1 := fun d os => cell_regrown hc1 d os
                    have r2 := fun d os => cell_regrown hc2 d os
                    have r3 := fun d os => cell_regrown hc3 d os
                    have r4 := fun d os => cell_regrown hc4 d os
                    refine wp_region_quiet_below (by kernel_rfl) (by kernel_rfl) ?_
                    repeat (first | go_big_quiet_step (fail) | quiet_step (fail))
                    refine wpQuiet_nil ?_
                    intro _ hw'
                    obtain ⟨⟨dq, osq⟩, hw''⟩ := hw'
                    subst hw''
                    have HEX6 := Lib.hid (HEX5.out.trans (Ext.regrown wr dq osq))
                    generalize Go.Sort.grow (redrawn wr dq) osq = W15 at *
                    clear r1 r2 r3 r4 hc1 hc2 hc3 hc4
                    go_wp2
                    exact ⟨⟨a + 1, by omega, by go_num, HEX6.out⟩, by simp [Go.RowKit.intOf]; omega⟩
                  · obtain rfl : a = i := by omega
                    go_wp2
                    exact ⟨⟨a + 1, by omega, by go_num, HEX5.out⟩, by simp [Go.RowKit.intOf]; omega⟩
            · have hie : i = roots.length := by omega
              subst hie
              clear hlt hi
              have K8 := Lib.hid (K7.out.ext HEX.out)
              have O12 := Lib.hid (O11.out.ext HEX.out)
              have b12 := (Below.block HEX.out _ (Array.getElem?_eq_some_iff.1 BA11.out).1).trans BA11.out
              have B12 := Lib.hid b12
              clear b12 HEX
              generalize wr = wz at *
              obtain ⟨ws2, r2, c2, hgd⟩ := KF.out.coll1
              have C2 := Lib.hid c2; have HGD := Lib.hid hgd
              clear c2 hgd
              have hs2 : 1 - (1 - h0.space) = h0.space := by omega
              have hgK : g < t0 ∧ t0 < t1 := by have := K8.out.lt; omega
              obtain ⟨x0, x1⟩ := cells2 K8.out.two
              obtain ⟨z0, z1, z2, z3⟩ := cells4 B12.out
              go_wp2_with fail
              refine (KF.out.live1 _ _ _ K8.out.a O12.out.p).mono ?_
              rintro e w16 ⟨rfl, hx16⟩
              have K9 := Lib.hid (K8.out.ext hx16)
              have O13 := Lib.hid (O12.out.ext hx16)
              have B13 := Lib.hid ((Below.block hx16 _ (Array.getElem?_eq_some_iff.1 B12.out).1).trans B12.out)
              clear hx16 K8 O12 B12 x0 x1 z0 z1 z2 z3
              obtain ⟨x0, x1⟩ := cells2 K9.out.two
              obtain ⟨z0, z1, z2, z3⟩ := cells4 B13.out
              go_wp2_with fail
              refine (C2.out _ _ _ K9.out.a (O13.out.rowStay (Nat.lt_succ_self g))).mono ?_
              rintro e w17 ⟨q3, cc3, rfl, hA17, hO17, hT17⟩
              have K10 := Lib.hid (K9.out.put hA17 hT17)
              have B14 := Lib.hid (hT17.keep B13.out (by omega))
              clear hA17 hO17 hT17 K9 O13 B13 x0 x1 z0 z1 z2 z3
              go_upto_region 42 with fail
              refine wp_alloc1 fun W18 hE18 hS18 b18 => ?_
              have K11 := Lib.hid (K10.out.ext hE18)
              clear hE18 hS18 K10
              obtain ⟨x0, x1⟩ := cells2 K11.out.two
              obtain ⟨y0, y1, y2, y3⟩ := cells4 K11.out.hp
              obtain ⟨z0, z1, z2, z3⟩ := cells4 b18
              clear b18
              go_wp2_with fail
              refine (HGD.out _ K11.out.a).mono ?_
              rintro e w19 ⟨rfl, hx19⟩
              have K12 := Lib.hid (K11.out.ext hx19)
              clear hx19 K11 x0 x1 y0 y1 y2 y3 z0 z1 z2 z3
              go_wp2_with fail
              refine (wakes4 _).mono ?_
              rintro e w20 ⟨rfl, hx20⟩
              have K13 := Lib.hid (K12.out.ext hx20)
              clear hx20 K12
              go_wp2
              go_ret
              exact ⟨rfl, kdone K13.out HX2.out hgw (by have := HT0.out; have := HT1.out; omega)⟩
end Go.Proofs.Ytinakendlpomnaa
/- GcKeeps: the walk, as the row's reading hands it. -/
namespace Go.Proofs.Ytinakendlpomnaa
open Go Go.RowKit Go.Maps Arena
theorem keeps_walk' {w : World} {v vr : Value} {x : RawI} {l : List Int} (h : v = .agg (rawC x).toArray ∧ RawP w x) (hr : WdsP w vr l) : Calls Try.prog 4 #[v, vr] w (TrueExt w) := by
  obtain ⟨rfl, hp⟩ := h
  exact keeps_walk hp.p hp.h hr
end Go.Proofs.Ytinakendlpomnaa
