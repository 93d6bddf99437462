/- The walk of OrderPlays. -/
import Derived.Test.YtgapjglijpdkmaaOrdU
import Derived.Test.YtgapjglijpdkmaaOrdM
namespace Go.Proofs.Ytgapjglijpdkmaa
open Go.RowKit Go.Maps Heap Go.Sort Go.Shelf
set_option maxHeartbeats 8000000
set_option maxRecDepth 100000
/-- the same, and a block beside them -/
def PX (w0 w : World) (qb : Nat) (S : List Ent) (rb : Nat) (v : Value) (R : List Ent) (bx : Nat) (o : Obj) : Prop := ∃ F, (QF w w0.heap.size qb S F ∧ (∀ b ∈ F, w0.heap.size ≤ b) ∧ Ext w0 w ∧ RQ w rb v R ∧ w0.heap.size ≤ rb ∧ rb ∉ F ∧ ∀ b, v.ownBlock = some b → b ∉ F) ∧ bx ∉ F ∧ bx ≠ rb ∧ w.heap[bx]? = some o
theorem PX.pl {w0 w : World} {qb rb bx : Nat} {S R : List Ent} {v : Value} {o : Obj} (h : PX w0 w qb S rb v R bx o) : PL w0 w qb S rb v R := by obtain ⟨F, h, _⟩ := h; exact ⟨F, h⟩
theorem PX.cell {w0 w : World} {qb rb bx : Nat} {S R : List Ent} {v : Value} {a b c : Int} {T : TypeId} (h : PX w0 w qb S rb v R bx (.cells #[.int .i64 a, .int .i64 b, .int .i64 c] T (0, 0))) : w.cell? ⟨bx, 1, none⟩ = some (.int .i64 b) ∧ w.cell? ⟨bx, 2, none⟩ = some (.int .i64 c) := by
  obtain ⟨F, _, _, _, h⟩ := h
  constructor <;> simp [World.cell?, h]
theorem PX.start {w0 w : World} {qb rb : Nat} {S R : List Ent} {v : Value} (h : PL w0 w qb S rb v R) {w' : World} {o : Obj} (e : Ext w w') (ho : w'.heap[w.heap.size]? = some o) : PX w0 w' qb S rb v R w.heap.size o := by
  obtain ⟨F, hf, h1, hx, h2, h3, h4, h5⟩ := h
  exact ⟨F, ⟨hf.ext e, h1, hx.trans e, h2.ext e, h3, h4, h5⟩, fun hm => by have := hf.lt _ hm; omega, by have := h2.lt; omega, ho⟩
theorem PX.ext {w0 w w' : World} {qb rb bx : Nat} {S R : List Ent} {v : Value} {o : Obj} (h : PX w0 w qb S rb v R bx o) (e : Ext w w') : PX w0 w' qb S rb v R bx o := by
  obtain ⟨F, ⟨hf, h1, hx, h2, h3, h4, h5⟩, h6, h7, h8⟩ := h
  exact ⟨F, ⟨hf.ext e, h1, hx.trans e, h2.ext e, h3, h4, h5⟩, h6, h7, by rw [Below.block e bx (Array.getElem?_eq_some_iff.1 h8).1]; exact h8⟩
theorem PX.qstep {w0 w w' : World} {qb rb bx : Nat} {S' R : List Ent} {v : Value} {o : Obj} {F F' : List Nat} (hq : QF w' w0.heap.size qb S' F') (h : (∀ b ∈ F, w0.heap.size ≤ b) ∧ Ext w0 w ∧ RQ w rb v R ∧ w0.heap.size ≤ rb ∧ rb ∉ F ∧ ∀ b, v.ownBlock = some b → b ∉ F) (h6 : bx ∉ F) (h7 : bx ≠ rb) (h8 : w.heap[bx]? = some o) (s : QStep w w' F F') : PX w0 w' qb S' rb v R bx o := by
  obtain ⟨h1, hx, h2, h3, h4, h5⟩ := h
  have hlt := h2.lt
  have hbx := (Array.getElem?_eq_some_iff.1 h8).1
  refine ⟨F', ⟨hq, fun b hm => ?_, Below.trans hx (s.1.below hx.size h1), h2.turn s.1 h4 h5, h3, fun hm => ?_, fun b hb hm => ?_⟩, fun hm => ?_, h7, by rw [s.1.block bx hbx h6]; exact h8⟩
  · rcases s.2 b hm with h | h
    · exact h1 b h
    · have := hx.size; omega
  · rcases s.2 rb hm with h | h
    · exact h4 h
    · omega
  · rcases s.2 b hm with h | h
    · exact h5 b hb h
    · have := h2.low b hb; omega
  · rcases s.2 bx hm with h | h
    · exact h6 h
    · omega
theorem PX.rstep {w0 w w' : World} {qb rb bx : Nat} {S R R' : List Ent} {v v' : Value} {o : Obj} (h : PX w0 w qb S rb v R bx o) (hr : RQ w' rb v' R') (s : RStep w w' rb v v') : PX w0 w' qb S rb v' R' bx o := by
  obtain ⟨F, ⟨hf, h1, hx, h2, h3, h4, h5⟩, h6, h7, h8⟩ := h
  have hlt := hf.lt
  have hbx := (Array.getElem?_eq_some_iff.1 h8).1
  refine ⟨F, ⟨hf.turn s.1 (fun b hb hm => by simp at hm; subst hm; exact h4 hb), h1, Below.trans hx (s.1.below hx.size (by simpa using h3)), hr, h3, h4, fun b hb hm => ?_⟩, h6, h7, by rw [s.1.block bx hbx (by simpa using h7)]; exact h8⟩
  rcases s.2 b hb with h | h
  · exact h5 b h hm
  · have := hlt b hm; omega
theorem px_push {w0 w : World} {qb rb bx : Nat} {S R : List Ent} {v : Value} {o : Obj} (h : PX w0 w qb S rb v R bx o) (hl : S.length ≤ 900) (k r : Int) :
    Calls Try.prog 8 #[.pointer (some ⟨qb, 0, none⟩), .int .i64 k, .int .i64 r] w fun e w' => e = .returned (.bool (fresh S k)) ∧ PX w0 w' qb (put1 S (k, r)) rb v R bx o := by
  obtain ⟨F, ⟨hf, h⟩, h6, h7, h8⟩ := h
  exact (qpush_f hf hl k r).mono fun _ _ ⟨he, F', hq, hs⟩ => ⟨he, PX.qstep hq h h6 h7 h8 hs⟩
theorem px_drop {w0 w : World} {qb rb bx : Nat} {S R : List Ent} {v : Value} {o : Obj} (h : PX w0 w qb S rb v R bx o) (hl : S.length ≤ 900) (k : Int) :
    Calls Try.prog 11 #[.pointer (some ⟨qb, 0, none⟩), .int .i64 k] w fun e w' => e = .returned (.bool (!fresh S k)) ∧ PX w0 w' qb (dropK S k) rb v R bx o := by
  obtain ⟨F, ⟨hf, h⟩, h6, h7, h8⟩ := h
  exact (qdrop_f hf hl k).mono fun _ _ ⟨he, F', hq, hs⟩ => ⟨he, PX.qstep hq h h6 h7 h8 hs⟩
theorem pxr_push {w0 w : World} {qb rb bx : Nat} {S R : List Ent} {v : Value} {o : Obj} (h : PX w0 w qb S rb v R bx o) (hl : R.length ≤ 900) (hs : R.Pairwise fun a b => ¬ lt b a) (k r : Int) :
    Calls Try.prog 9 #[.pointer (some ⟨rb, 0, none⟩), .int .i64 k, .int .i64 r] w fun e w' => e = .returned (.bool (fresh R k)) ∧ ∃ v', PX w0 w' qb S rb v' (put1 R (k, r)) bx o :=
  (refpush_is h.pl.ref hl hs k r).mono fun _ _ ⟨he, v', hr, hst⟩ => ⟨he, v', h.rstep hr hst⟩
theorem pxr_drop {w0 w : World} {qb rb bx : Nat} {S R : List Ent} {v : Value} {o : Obj} (h : PX w0 w qb S rb v R bx o) (hl : R.length ≤ 900) (hk : (R.map (·.1)).Nodup) (k : Int) :
    Calls Try.prog 12 #[.pointer (some ⟨rb, 0, none⟩), .int .i64 k] w fun e w' => e = .returned (.bool (!fresh R k)) ∧ ∃ v', PX w0 w' qb S rb v' (dropK R k) bx o :=
  (refdrop_is h.pl.ref hl hk k).mono fun _ _ ⟨he, v', hr, hst⟩ => ⟨he, v', h.rstep hr hst⟩
theorem PL.start {w0 w : World} {qb : Nat} (h : Q1 w0 w qb []) : PL w0 (w.alloc (.cells #[.slice none 0 0] 28)) qb [] w.heap.size (.slice none 0 0) [] := by
  obtain ⟨F, hf, hb, hx⟩ := h
  exact ⟨F, hf.ext (Ext.alloc _ _), hb, hx.trans (Ext.alloc _ _), ⟨heap_alloc_new _ _, (PairRow.nil _ 0).src, by simp [Value.ownBlock], by simp [Value.ownBlock]⟩, hx.size, fun hm => by have := hf.lt _ hm; omega, by simp [Value.ownBlock]⟩
theorem plays_walk {v : Value} {l : List StepQ} {w : World} (hv : StepSl w v l) : Calls Try.prog 3 #[v] w (TrueExt w) := by
  obtain ⟨q, c, rfl, hc1, hc2, hc⟩ := hv
  unfold maxLen at hc2
  have HC := Lib.hid hc
  clear hc
  by_cases hlen : 120 < l.length
  · have i0 : (120 : Int) < (l.length : Int) := by omega
    go_enter Try.func3, Try.ntmps3
    go_wp2_with fail
    refine (q1_new w).mono ?_; rintro e w1 ⟨qb, rfl, H1⟩
    have X1 := Lib.hid H1.world
    clear H1
    go_wp2_with fail
    refine (wakes_is _).mono ?_; rintro e w2 ⟨rfl, hx2⟩
    go_wp2
    go_ret
    exact ⟨rfl, X1.out.trans ((Ext.alloc _ _).trans hx2)⟩
  · have i0 : ¬ (120 : Int) < (l.length : Int) := by omega
    go_enter Try.func3, Try.ntmps3
    go_wp2_with fail
    refine (q1_new w).mono ?_; rintro e w1 ⟨qb, rfl, H1⟩
    have K1 := Lib.hid H1
    clear H1
    go_wp2_with fail
    have K2 := Lib.hid (PL.start K1.out)
    generalize w1.alloc (.cells #[.slice none 0 0] 28) = wl at *
    generalize w1.heap.size = rb at *
    go_loopw [5] (fun i wr => ∃ (j : Nat) (S : List Ent) (v : Value), j ≤ l.length ∧ i = .int .i64 j ∧ PL w wr qb S rb v S ∧ S.length ≤ j) (fun i _ => l.length - (intOf i).toNat)
    case atStart => exact ⟨0, [], _, by omega, rfl, K2.out, by simp⟩
    case round =>
      obtain ⟨j, S, vR, hj, rfl, hP, hSl⟩ := hrel
      have KR := Lib.hid hP
      clear hP
      by_cases hlt : j < l.length
      · obtain ⟨b6, off6, rfl, s0, s1, s2⟩ := HC.out j _ (List.getElem?_eq_getElem hlt)
        have S0 := KR.out.world.cell s0; have S1 := KR.out.world.cell s1; have S2 := KR.out.world.cell s2
        have i1 : (j : Int) < (l.length : Int) := by omega
        clear s0 s1 s2
        generalize l[j] = x at *
        obtain ⟨kd, ka, kr⟩ := x
        dsimp only at S0 S1 S2
        go_upto_block 2 with fail
        have KX := Lib.hid (PX.start KR.out (Ext.alloc wr (.cells #[.int .i64 kd, .int .i64 ka, .int .i64 kr] 31)) (heap_alloc_new wr (.cells #[.int .i64 kd, .int .i64 ka, .int .i64 kr] 31)))
        generalize wr.alloc (.cells #[.int .i64 kd, .int .i64 ka, .int .i64 kr] 31) = wb at *
        generalize wr.heap.size = bx at *
        obtain ⟨T1, T2⟩ := KX.out.cell
        clear S0 S1 S2
        go_cut [7, 8, 9] from 37 to 114 (fun _ _ _ wx => ∃ (S' : List Ent) (v' : Value), PL w wx qb S' rb v' S' ∧ S'.length ≤ j + 1)
        case first =>
          by_cases k0 : kd = 0
          · subst k0
            have KD := Lib.hid (KX.out.ext (Ext.drew wb))
            have HSO := Lib.hid KR.out.sorted.1
            have hL := put1_length S (ka, kr)
            have hL2 : (put1 S (ka, kr)).length ≤ j + 1 := by rw [hL]; split <;> omega
            have HL2 := Lib.hid hL2
            clear hL hL2
            go_wp2_with fail
            go_region_held3 (fun w' => w'.cell? ⟨bx, 1, none⟩ = some (.int .i64 ka) ∧ w'.cell? ⟨bx, 2, none⟩ = some (.int .i64 kr))
              (first | go_keep | exact ⟨hp5.cell.1, hp5.cell.2⟩ | exact ⟨hp6.cell.1, hp6.cell.2⟩)
              (first
                | (go_at_call 8; refine (px_push KD.out (by omega) ka kr).mono ?_; rintro e w5 ⟨rfl, hp5⟩)
                | (go_at_call 9; refine (pxr_push hp5 (by omega) HSO.out ka kr).mono ?_; rintro e w6 ⟨rfl, v6, hp6⟩)
                | (go_at_call 9; refine (pxr_push KD.out (by omega) HSO.out ka kr).mono ?_; rintro e w5 ⟨rfl, v5, hp5⟩)
                | (go_at_call 8; refine (px_push hp5 (by omega) ka kr).mono ?_; rintro e w6 ⟨rfl, hp6⟩))
            all_goals
              have HN := Lib.hid hp6.pl
              clear hp5 hp6
              go_wp2_with fail
              go_meet
              exact ⟨_, _, HN.out, HL2.out⟩
          have t0 : (kd == 0) = false := beq_false_of_ne k0
          clear k0
          by_cases k1 : kd = 1
          · subst k1
            cases S with
            | nil =>
              go_wp2_with fail
              refine (pl_pop0 KX.out.pl).mono ?_; rintro e w3 ⟨rfl, rfl⟩
              obtain ⟨c0, f0⟩ := KX.out.pl.ref.cell
              obtain ⟨q9, c9, hv9, _, _, _⟩ := KX.out.pl.ref.src.nilOr
              simp only [List.length_nil] at hv9
              subst hv9
              go_wp2_with fail
              go_meet
              exact ⟨[], _, KX.out.pl, by simp⟩
            | cons y S' =>
              have hS' : S'.length + 1 ≤ j := by simpa using hSl
              go_wp2_with fail
              refine (pl_pop KX.out.pl (by omega)).mono ?_; rintro e w3 ⟨rfl, hp3⟩
              have K3 := Lib.hid hp3
              have HR3 := Lib.hid hp3.ref
              obtain ⟨c0, f0⟩ := hp3.ref.cell
              obtain ⟨q9, c9, hv9, hn1, hn2, hcell⟩ := hp3.ref.src.1
              obtain ⟨b9, o9, rfl, y0, y1⟩ := hcell 0 y rfl
              obtain ⟨u, hs1, hp1, hown⟩ := tail_srcP (k := 1) hp3.ref.src (by simp)
              rw [show ((1 : Nat) : Int) = 1 from rfl] at hs1
              have hsu := hp1 w3 hp3.ref.src
              obtain ⟨q8, c8, hu, _, _, _⟩ := hsu.nilOr
              have hdrop : (y :: S').drop 1 = S' := rfl
              rw [hdrop] at hsu hu
              have HN := Lib.hid (HR3.out.newRow (Ext.refl w3) hsu (fun b hb => .inl (hown b hb)) (fun b hb => HR3.out.low b (hown b hb)))
              have HP := Lib.hid (K3.out.rstep HN.out.1 HN.out.2)
              have hlc : (y :: S').length = S'.length + 1 := rfl
              rw [hlc] at hv9
              subst hv9
              subst hu
              clear hp3 hcell hp1 hown hsu hn1 hdrop
              rw [Nat.zero_mul, Nat.add_zero] at y0 y1
              have i3 : (0 : Int) < ((S'.length + 1 : Nat) : Int) := by omega
              go_wp2_with fail
              go_meet
              exact ⟨S', _, HP.out, by omega⟩
          have t1 : (kd == 1) = false := beq_false_of_ne k1
          clear k1
          by_cases k2 : kd = 2
          · subst k2
            have KD := Lib.hid (KX.out.ext (Ext.drew wb))
            have HSO := Lib.hid KR.out.sorted.2
            have hL2 : (dropK S ka).length ≤ j + 1 := by have : (dropK S ka).length ≤ S.length := List.length_filter_le _ _; omega
            have HL2 := Lib.hid hL2
            clear hL2
            go_wp2_with fail
            go_region_held3 (fun w' => w'.cell? ⟨bx, 1, none⟩ = some (.int .i64 ka))
              (first | go_keep | exact hp5.cell.1 | exact hp6.cell.1)
              (first
                | (go_at_call 11; refine (px_drop KD.out (by omega) ka).mono ?_; rintro e w5 ⟨rfl, hp5⟩)
                | (go_at_call 12; refine (pxr_drop hp5 (by omega) HSO.out ka).mono ?_; rintro e w6 ⟨rfl, v6, hp6⟩)
                | (go_at_call 12; refine (pxr_drop KD.out (by omega) HSO.out ka).mono ?_; rintro e w5 ⟨rfl, v5, hp5⟩)
                | (go_at_call 11; refine (px_drop hp5 (by omega) ka).mono ?_; rintro e w6 ⟨rfl, hp6⟩))
            all_goals
              have HN := Lib.hid hp6.pl
              clear hp5 hp6
              go_wp2_with fail
              go_meet
              exact ⟨_, _, HN.out, HL2.out⟩
          · have t2 : (kd == 2) = false := beq_false_of_ne k2
            clear k2
            go_wp2_with fail
            go_meet
            exact ⟨_, _, KX.out.pl, by omega⟩
        case rest =>
          obtain ⟨S', v', hP, hSl'⟩ := hcut
          have HPD := Lib.hid (hP.ext (Ext.drew wc))
          obtain ⟨C1, _⟩ := hP.ref.cell
          obtain ⟨q9, c9, hv9, _, _, _⟩ := hP.ref.src.nilOr
          have HRC := Lib.hid hP.ref
          clear hP
          subst hv9
          go_wp2_with fail
          go_region_held3 (fun w' => w'.cell? ⟨rb, 0, none⟩ = some (.slice q9 S'.length c9))
            (first | go_keep | exact hx5.cell (by simpa using C1) | exact hx6.cell (hx5.cell (by simpa using C1)))
            (first
              | (go_at_call 14; refine (pl_list HPD.out (by omega)).mono ?_; rintro e w5 ⟨v5, rfl, hr5, hx5⟩)
              | (go_at_call 13; refine (keep_pairs hr5 (HRC.out.ext ((Ext.drew _).trans hx5)).src.1 (by omega)).mono ?_; rintro e w6 ⟨rfl, hx6⟩; rw [decide_eq_true (rfl : S' = S')])
              | (go_at_call 15; refine (pl_len (HPD.out.ext (hx5.trans hx6))).mono ?_; rintro e w' ⟨rfl, rfl⟩))
          have HN := Lib.hid (HPD.out.ext (hx5.trans hx6))
          clear hx5 hx6 hr5
          go_wp2_with fail
          exact ⟨⟨j + 1, S', _, by omega, by go_num, HN.out, by omega⟩, by simp [intOf]; omega⟩
      · obtain rfl : j = l.length := by omega
        have X4 := Lib.hid KR.out.world
        go_wp2_with fail
        refine (wakes_is _).mono ?_; rintro e w4 ⟨rfl, hx4⟩
        go_wp2
        go_ret
        exact ⟨rfl, X4.out.trans hx4⟩
end Go.Proofs.Ytgapjglijpdkmaa
