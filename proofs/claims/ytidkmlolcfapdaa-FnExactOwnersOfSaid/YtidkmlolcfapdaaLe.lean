import Derived.Test.YtidkmlolcfapdaaLz
set_option linter.unusedVariables false
set_option linter.unusedSimpArgs false
namespace Go.Proofs.Ytidkmlolcfapdaa
open Go.RowKit
/-! The law's comparing: what reads alike is told so. -/
set_option maxHeartbeats 1000000 in
theorem eq75_calls (x : Th) (w : World) : Calls Try.prog 75 #[.agg #[.int .i64 x.f0, .bool x.f1], .agg #[.int .i64 x.f0, .bool x.f1]] w fun e w' => e = .returned (.bool true) ∧ Below w.heap.size w w' := by
  obtain ⟨a0, a1⟩ := x
  go_enter Try.func75, Try.ntmps75
  go_wp2
  go_ret
  exact ⟨rfl, ((Below.refl _ _).alloc (Nat.le_refl _) _).alloc (by simp) _⟩
set_option maxHeartbeats 4000000 in
set_option maxRecDepth 100000 in
theorem eq43_calls (va vb : Value) (l : List Th) (w : World) (ha : RdS encTh 2 w va l) (hb : RdS encTh 2 w vb l) :
    Calls Try.prog 43 #[va, vb] w fun e w' => e = .returned (.bool true) ∧ Below w.heap.size w w' := by
  obtain ⟨A, c, rfl, hl, hm, g⟩ := ha
  obtain ⟨B, d, rfl, hl2, hm2, g2⟩ := hb
  have H1 := Aside.mk g
  have H2 := Aside.mk g2
  clear g g2
  go_enter Try.func43, Try.ntmps43
  go_wp2
  go_loopw [5] (fun v wr => ∃ k : Nat, v = .int .i64 k ∧ k ≤ l.length ∧ Below w.heap.size w wr) (fun v _ => l.length - (intOf v).toNat)
  case atStart => exact ⟨0, rfl, Nat.zero_le _, Below.refl _ _⟩
  case round =>
    obtain ⟨k, rfl, hk, hbw⟩ := hrel
    have HBW := Aside.mk hbw
    clear hbw
    by_cases hlt : k < l.length
    · obtain ⟨x, hx⟩ : ∃ x, l[k]? = some x := ⟨_, List.getElem?_eq_getElem hlt⟩
      obtain ⟨ad, rfl, hc⟩ := (H1.out.below HBW.out) k x hx
      obtain ⟨bd, rfl, hd⟩ := (H2.out.below HBW.out) k x hx
      obtain ⟨a0, a1⟩ := x
      have p0 := hc.c0
      have p1 := hc.c1
      have q0 := hd.c0
      have q1 := hd.c1
      have HK : Aside (∀ w', Below wr.heap.size wr w' → Below wr.heap.size wr w' ∧ w'.cell? (ad.add (k * 2)) = some (.int .i64 a0) ∧ w'.cell? ⟨(ad.add (k * 2)).block, (ad.add (k * 2)).off + 1, none⟩ = some (.bool a1) ∧ w'.cell? (bd.add (k * 2)) = some (.int .i64 a0) ∧ w'.cell? ⟨(bd.add (k * 2)).block, (bd.add (k * 2)).off + 1, none⟩ = some (.bool a1)) := ⟨fun w' h => ⟨h, cell_old h p0, cell_old h p1, cell_old h q0, cell_old h q1⟩⟩
      clear hc hd hx
      go_wp2
      go_region_held3 (fun w' => Below wr.heap.size wr w' ∧ w'.cell? (ad.add (k * 2)) = some (.int .i64 a0) ∧ w'.cell? ⟨(ad.add (k * 2)).block, (ad.add (k * 2)).off + 1, none⟩ = some (.bool a1) ∧ w'.cell? (bd.add (k * 2)) = some (.int .i64 a0) ∧ w'.cell? ⟨(bd.add (k * 2)).block, (bd.add (k * 2)).off + 1, none⟩ = some (.bool a1)) ((refine HK.out _ ?_; repeat (with_reducible first | assumption | exact Below.refl _ _ | refine Below.drew ?_ | exact Below.alloc (by assumption) (below_size (by assumption) (Nat.le_refl _)) _ | refine Below.alloc ?_ (Nat.le_refl _) _ | refine Below.setCell ?_ (by simp) _))) ((go_at_call 75; go_split_ands; refine (eq75_calls ⟨a0, a1⟩ _).mono ?_; rintro e w1 ⟨rfl, hb1⟩; have B1 : Below wr.heap.size wr w1 := below_call (by with_reducible assumption) (Nat.le_refl _) hb1; clear hb1))
      have HB1 := Aside.mk B1
      clear B1
      go_wp2
      go_roundw
      case rel => exact ⟨k + 1, by go_num, by omega, below_call HBW.out (Nat.le_refl _) HB1.out⟩
      case measure => simp [intOf]; omega
    · go_wp2
      go_ret
      exact ⟨rfl, HBW.out⟩
set_option maxHeartbeats 1000000 in
theorem eq77_calls (x : L) (w : World) : Calls Try.prog 77 #[.agg #[.int .i64 x.f0, .int .i64 x.f1, .int .i64 x.f2, .int .i64 x.f3], .agg #[.int .i64 x.f0, .int .i64 x.f1, .int .i64 x.f2, .int .i64 x.f3]] w fun e w' => e = .returned (.bool true) ∧ Below w.heap.size w w' := by
  obtain ⟨a0, a1, a2, a3⟩ := x
  go_enter Try.func77, Try.ntmps77
  go_wp2
  go_ret
  exact ⟨rfl, ((Below.refl _ _).alloc (Nat.le_refl _) _).alloc (by simp) _⟩
set_option maxHeartbeats 4000000 in
set_option maxRecDepth 100000 in
theorem eq45_calls (va vb : Value) (l : List L) (w : World) (ha : RdS encL 4 w va l) (hb : RdS encL 4 w vb l) :
    Calls Try.prog 45 #[va, vb] w fun e w' => e = .returned (.bool true) ∧ Below w.heap.size w w' := by
  obtain ⟨A, c, rfl, hl, hm, g⟩ := ha
  obtain ⟨B, d, rfl, hl2, hm2, g2⟩ := hb
  have H1 := Aside.mk g
  have H2 := Aside.mk g2
  clear g g2
  go_enter Try.func45, Try.ntmps45
  go_wp2
  go_loopw [5] (fun v wr => ∃ k : Nat, v = .int .i64 k ∧ k ≤ l.length ∧ Below w.heap.size w wr) (fun v _ => l.length - (intOf v).toNat)
  case atStart => exact ⟨0, rfl, Nat.zero_le _, Below.refl _ _⟩
  case round =>
    obtain ⟨k, rfl, hk, hbw⟩ := hrel
    have HBW := Aside.mk hbw
    clear hbw
    by_cases hlt : k < l.length
    · obtain ⟨x, hx⟩ : ∃ x, l[k]? = some x := ⟨_, List.getElem?_eq_getElem hlt⟩
      obtain ⟨ad, rfl, hc⟩ := (H1.out.below HBW.out) k x hx
      obtain ⟨bd, rfl, hd⟩ := (H2.out.below HBW.out) k x hx
      obtain ⟨a0, a1, a2, a3⟩ := x
      have p0 := hc.c0
      have p1 := hc.c1
      have p2 := hc.c2
      have p3 := hc.c3
      have q0 := hd.c0
      have q1 := hd.c1
      have q2 := hd.c2
      have q3 := hd.c3
      have HK : Aside (∀ w', Below wr.heap.size wr w' → Below wr.heap.size wr w' ∧ w'.cell? (ad.add (k * 4)) = some (.int .i64 a0) ∧ w'.cell? ⟨(ad.add (k * 4)).block, (ad.add (k * 4)).off + 1, none⟩ = some (.int .i64 a1) ∧ w'.cell? ⟨(ad.add (k * 4)).block, (ad.add (k * 4)).off + 2, none⟩ = some (.int .i64 a2) ∧ w'.cell? ⟨(ad.add (k * 4)).block, (ad.add (k * 4)).off + 3, none⟩ = some (.int .i64 a3) ∧ w'.cell? (bd.add (k * 4)) = some (.int .i64 a0) ∧ w'.cell? ⟨(bd.add (k * 4)).block, (bd.add (k * 4)).off + 1, none⟩ = some (.int .i64 a1) ∧ w'.cell? ⟨(bd.add (k * 4)).block, (bd.add (k * 4)).off + 2, none⟩ = some (.int .i64 a2) ∧ w'.cell? ⟨(bd.add (k * 4)).block, (bd.add (k * 4)).off + 3, none⟩ = some (.int .i64 a3)) := ⟨fun w' h => ⟨h, cell_old h p0, cell_old h p1, cell_old h p2, cell_old h p3, cell_old h q0, cell_old h q1, cell_old h q2, cell_old h q3⟩⟩
      clear hc hd hx
      go_wp2
      go_region_held3 (fun w' => Below wr.heap.size wr w' ∧ w'.cell? (ad.add (k * 4)) = some (.int .i64 a0) ∧ w'.cell? ⟨(ad.add (k * 4)).block, (ad.add (k * 4)).off + 1, none⟩ = some (.int .i64 a1) ∧ w'.cell? ⟨(ad.add (k * 4)).block, (ad.add (k * 4)).off + 2, none⟩ = some (.int .i64 a2) ∧ w'.cell? ⟨(ad.add (k * 4)).block, (ad.add (k * 4)).off + 3, none⟩ = some (.int .i64 a3) ∧ w'.cell? (bd.add (k * 4)) = some (.int .i64 a0) ∧ w'.cell? ⟨(bd.add (k * 4)).block, (bd.add (k * 4)).off + 1, none⟩ = some (.int .i64 a1) ∧ w'.cell? ⟨(bd.add (k * 4)).block, (bd.add (k * 4)).off + 2, none⟩ = some (.int .i64 a2) ∧ w'.cell? ⟨(bd.add (k * 4)).block, (bd.add (k * 4)).off + 3, none⟩ = some (.int .i64 a3)) ((refine HK.out _ ?_; repeat (with_reducible first | assumption | exact Below.refl _ _ | refine Below.drew ?_ | exact Below.alloc (by assumption) (below_size (by assumption) (Nat.le_refl _)) _ | refine Below.alloc ?_ (Nat.le_refl _) _ | refine Below.setCell ?_ (by simp) _))) ((go_at_call 77; go_split_ands; refine (eq77_calls ⟨a0, a1, a2, a3⟩ _).mono ?_; rintro e w1 ⟨rfl, hb1⟩; have B1 : Below wr.heap.size wr w1 := below_call (by with_reducible assumption) (Nat.le_refl _) hb1; clear hb1))
      have HB1 := Aside.mk B1
      clear B1
      go_wp2
      go_roundw
      case rel => exact ⟨k + 1, by go_num, by omega, below_call HBW.out (Nat.le_refl _) HB1.out⟩
      case measure => simp [intOf]; omega
    · go_wp2
      go_ret
      exact ⟨rfl, HBW.out⟩
set_option maxHeartbeats 1000000 in
theorem eq110_calls (x : H) (w : World) : Calls Try.prog 110 #[.agg #[.bool x.f0, .int .i64 x.f1, .int .i64 x.f2, .bool x.f3, .int .i64 x.f4, .int .i64 x.f5], .agg #[.bool x.f0, .int .i64 x.f1, .int .i64 x.f2, .bool x.f3, .int .i64 x.f4, .int .i64 x.f5]] w fun e w' => e = .returned (.bool true) ∧ Below w.heap.size w w' := by
  obtain ⟨a0, a1, a2, a3, a4, a5⟩ := x
  go_enter Try.func110, Try.ntmps110
  go_wp2
  go_ret
  exact ⟨rfl, ((Below.refl _ _).alloc (Nat.le_refl _) _).alloc (by simp) _⟩
set_option maxHeartbeats 4000000 in
set_option maxRecDepth 100000 in
theorem eq102_calls (va vb : Value) (l : List H) (w : World) (ha : RdS encH 6 w va l) (hb : RdS encH 6 w vb l) :
    Calls Try.prog 102 #[va, vb] w fun e w' => e = .returned (.bool true) ∧ Below w.heap.size w w' := by
  obtain ⟨A, c, rfl, hl, hm, g⟩ := ha
  obtain ⟨B, d, rfl, hl2, hm2, g2⟩ := hb
  have H1 := Aside.mk g
  have H2 := Aside.mk g2
  clear g g2
  go_enter Try.func102, Try.ntmps102
  go_wp2
  go_loopw [5] (fun v wr => ∃ k : Nat, v = .int .i64 k ∧ k ≤ l.length ∧ Below w.heap.size w wr) (fun v _ => l.length - (intOf v).toNat)
  case atStart => exact ⟨0, rfl, Nat.zero_le _, Below.refl _ _⟩
  case round =>
    obtain ⟨k, rfl, hk, hbw⟩ := hrel
    have HBW := Aside.mk hbw
    clear hbw
    by_cases hlt : k < l.length
    · obtain ⟨x, hx⟩ : ∃ x, l[k]? = some x := ⟨_, List.getElem?_eq_getElem hlt⟩
      obtain ⟨ad, rfl, hc⟩ := (H1.out.below HBW.out) k x hx
      obtain ⟨bd, rfl, hd⟩ := (H2.out.below HBW.out) k x hx
      obtain ⟨a0, a1, a2, a3, a4, a5⟩ := x
      have p0 := hc.c0
      have p1 := hc.c1
      have p2 := hc.c2
      have p3 := hc.c3
      have p4 := hc.c4
      have p5 := hc.c5
      have q0 := hd.c0
      have q1 := hd.c1
      have q2 := hd.c2
      have q3 := hd.c3
      have q4 := hd.c4
      have q5 := hd.c5
      have HK : Aside (∀ w', Below wr.heap.size wr w' → Below wr.heap.size wr w' ∧ w'.cell? (ad.add (k * 6)) = some (.bool a0) ∧ w'.cell? ⟨(ad.add (k * 6)).block, (ad.add (k * 6)).off + 1, none⟩ = some (.int .i64 a1) ∧ w'.cell? ⟨(ad.add (k * 6)).block, (ad.add (k * 6)).off + 2, none⟩ = some (.int .i64 a2) ∧ w'.cell? ⟨(ad.add (k * 6)).block, (ad.add (k * 6)).off + 3, none⟩ = some (.bool a3) ∧ w'.cell? ⟨(ad.add (k * 6)).block, (ad.add (k * 6)).off + 4, none⟩ = some (.int .i64 a4) ∧ w'.cell? ⟨(ad.add (k * 6)).block, (ad.add (k * 6)).off + 5, none⟩ = some (.int .i64 a5) ∧ w'.cell? (bd.add (k * 6)) = some (.bool a0) ∧ w'.cell? ⟨(bd.add (k * 6)).block, (bd.add (k * 6)).off + 1, none⟩ = some (.int .i64 a1) ∧ w'.cell? ⟨(bd.add (k * 6)).block, (bd.add (k * 6)).off + 2, none⟩ = some (.int .i64 a2) ∧ w'.cell? ⟨(bd.add (k * 6)).block, (bd.add (k * 6)).off + 3, none⟩ = some (.bool a3) ∧ w'.cell? ⟨(bd.add (k * 6)).block, (bd.add (k * 6)).off + 4, none⟩ = some (.int .i64 a4) ∧ w'.cell? ⟨(bd.add (k * 6)).block, (bd.add (k * 6)).off + 5, none⟩ = some (.int .i64 a5)) := ⟨fun w' h => ⟨h, cell_old h p0, cell_old h p1, cell_old h p2, cell_old h p3, cell_old h p4, cell_old h p5, cell_old h q0, cell_old h q1, cell_old h q2, cell_old h q3, cell_old h q4, cell_old h q5⟩⟩
      clear hc hd hx
      go_wp2
      go_region_held3 (fun w' => Below wr.heap.size wr w' ∧ w'.cell? (ad.add (k * 6)) = some (.bool a0) ∧ w'.cell? ⟨(ad.add (k * 6)).block, (ad.add (k * 6)).off + 1, none⟩ = some (.int .i64 a1) ∧ w'.cell? ⟨(ad.add (k * 6)).block, (ad.add (k * 6)).off + 2, none⟩ = some (.int .i64 a2) ∧ w'.cell? ⟨(ad.add (k * 6)).block, (ad.add (k * 6)).off + 3, none⟩ = some (.bool a3) ∧ w'.cell? ⟨(ad.add (k * 6)).block, (ad.add (k * 6)).off + 4, none⟩ = some (.int .i64 a4) ∧ w'.cell? ⟨(ad.add (k * 6)).block, (ad.add (k * 6)).off + 5, none⟩ = some (.int .i64 a5) ∧ w'.cell? (bd.add (k * 6)) = some (.bool a0) ∧ w'.cell? ⟨(bd.add (k * 6)).block, (bd.add (k * 6)).off + 1, none⟩ = some (.int .i64 a1) ∧ w'.cell? ⟨(bd.add (k * 6)).block, (bd.add (k * 6)).off + 2, none⟩ = some (.int .i64 a2) ∧ w'.cell? ⟨(bd.add (k * 6)).block, (bd.add (k * 6)).off + 3, none⟩ = some (.bool a3) ∧ w'.cell? ⟨(bd.add (k * 6)).block, (bd.add (k * 6)).off + 4, none⟩ = some (.int .i64 a4) ∧ w'.cell? ⟨(bd.add (k * 6)).block, (bd.add (k * 6)).off + 5, none⟩ = some (.int .i64 a5)) ((refine HK.out _ ?_; repeat (with_reducible first | assumption | exact Below.refl _ _ | refine Below.drew ?_ | exact Below.alloc (by assumption) (below_size (by assumption) (Nat.le_refl _)) _ | refine Below.alloc ?_ (Nat.le_refl _) _ | refine Below.setCell ?_ (by simp) _))) ((go_at_call 110; go_split_ands; refine (eq110_calls ⟨a0, a1, a2, a3, a4, a5⟩ _).mono ?_; rintro e w1 ⟨rfl, hb1⟩; have B1 : Below wr.heap.size wr w1 := below_call (by with_reducible assumption) (Nat.le_refl _) hb1; clear hb1))
      have HB1 := Aside.mk B1
      clear B1
      go_wp2
      go_roundw
      case rel => exact ⟨k + 1, by go_num, by omega, below_call HBW.out (Nat.le_refl _) HB1.out⟩
      case measure => simp [intOf]; omega
    · go_wp2
      go_ret
      exact ⟨rfl, HBW.out⟩
set_option maxHeartbeats 4000000 in
theorem eq12_calls (va vb : Value) (l : List Int) (w : World) (ha : RdS encI 1 w va l) (hb : RdS encI 1 w vb l) :
    Calls Try.prog 12 #[va, vb] w fun e w' => e = .returned (.bool true) ∧ Below w.heap.size w w' := by
  obtain ⟨A, c, rfl, hl, hm, g⟩ := ha
  obtain ⟨B, d, rfl, hl2, hm2, g2⟩ := hb
  have H1 := Aside.mk g
  have H2 := Aside.mk g2
  clear g g2
  go_enter Try.func12, Try.ntmps12
  go_wp2
  go_loopw [5] (fun v wr => ∃ k : Nat, v = .int .i64 k ∧ k ≤ l.length ∧ Below w.heap.size w wr) (fun v _ => l.length - (intOf v).toNat)
  case atStart => exact ⟨0, rfl, Nat.zero_le _, Below.refl _ _⟩
  case round =>
    obtain ⟨k, rfl, hk, hbw⟩ := hrel
    have HBW := Aside.mk hbw
    clear hbw
    by_cases hlt : k < l.length
    · obtain ⟨x, hx⟩ : ∃ x, l[k]? = some x := ⟨_, List.getElem?_eq_getElem hlt⟩
      obtain ⟨ad, rfl, hc⟩ := (H1.out.below HBW.out).int hx
      obtain ⟨bd, rfl, hd⟩ := (H2.out.below HBW.out).int hx
      clear hx
      go_wp2
      go_quiet (fail)
      go_wp2
      go_roundw
      case rel => exact ⟨k + 1, by go_num, by omega, below_call HBW.out (Nat.le_refl _) (below_drewN (Below.refl _ _) _)⟩
      case measure => simp [intOf]; omega
    · go_wp2
      go_ret
      exact ⟨rfl, HBW.out⟩
set_option maxHeartbeats 1000000 in
theorem eq76_calls (sa fa sb fb : Value) (t : T) (w : World) (h1 : RdS encH 6 w sa t.f0) (h2 : RdS encI 1 w fa t.f1) (h3 : RdS encH 6 w sb t.f0) (h4 : RdS encI 1 w fb t.f1) :
    Calls Try.prog 76 #[.agg #[sa, fa], .agg #[sb, fb]] w fun e w' => e = .returned (.bool true) ∧ Below w.heap.size w w' := by
  have H1 := Aside.mk h1
  have H2 := Aside.mk h2
  have H3 := Aside.mk h3
  have H4 := Aside.mk h4
  obtain ⟨A1, c1, rfl, -⟩ := h1
  obtain ⟨A2, c2, rfl, -⟩ := h2
  obtain ⟨A3, c3, rfl, -⟩ := h3
  obtain ⟨A4, c4, rfl, -⟩ := h4
  have HAL : Aside (∀ o o2, Below w.heap.size w ((w.alloc o).alloc o2)) := ⟨fun o o2 => ((Below.refl _ _).alloc (Nat.le_refl _) _).alloc (by simp) _⟩
  go_enter Try.func76, Try.ntmps76
  go_wp2_with fail
  refine (eq102_calls _ _ t.f0 _ (H1.out.below (HAL.out _ _)) (H3.out.below (HAL.out _ _))).mono ?_
  rintro e w1 ⟨rfl, hb1⟩
  have HB1 : Aside (Below w.heap.size w w1) := ⟨below_call (HAL.out _ _) (Nat.le_refl _) hb1⟩
  have ga : Blk w1 w.heap.size #[.slice A1 t.f0.length c1, .slice A2 t.f1.length c2] 62 := ((Blk.new w _ _).alloc _).below hb1
  have gb : Blk w1 (w.heap.size + 1) #[.slice A3 t.f0.length c3, .slice A4 t.f1.length c4] 62 := (by
    have := Blk.new (w.alloc (.cells #[.slice A1 t.f0.length c1, .slice A2 t.f1.length c2] 62)) #[.slice A3 t.f0.length c3, .slice A4 t.f1.length c4] 62
    simp only [World.size_alloc] at this
    exact this.below hb1)
  have g1 : w1.cell? ⟨w.heap.size, 1, none⟩ = some (.slice A2 t.f1.length c2) := ga.cell 1
  have g2 : w1.cell? ⟨w.heap.size + 1, 1, none⟩ = some (.slice A4 t.f1.length c4) := gb.cell 1
  clear hb1 ga gb
  go_wp2_with fail
  refine (eq12_calls _ _ t.f1 _ (H2.out.below HB1.out) (H4.out.below HB1.out)).mono ?_
  rintro e w2 ⟨rfl, hb2⟩
  have HB2 := Aside.mk hb2
  clear hb2
  go_wp2
  go_ret
  exact ⟨rfl, below_call HB1.out (Nat.le_refl _) HB2.out⟩
set_option maxHeartbeats 4000000 in
set_option maxRecDepth 100000 in
theorem eq44_calls (va vb : Value) (l : List T) (w : World) (ha : RdTs w va l) (hb : RdTs w vb l) :
    Calls Try.prog 44 #[va, vb] w fun e w' => e = .returned (.bool true) ∧ Below w.heap.size w w' := by
  obtain ⟨A, c, rfl, hl, hm, g⟩ := ha
  obtain ⟨B, d, rfl, hl2, hm2, g2⟩ := hb
  have H1 := Aside.mk g
  have H2 := Aside.mk g2
  clear g g2
  go_enter Try.func44, Try.ntmps44
  go_wp2
  go_loopw [5] (fun v wr => ∃ k : Nat, v = .int .i64 k ∧ k ≤ l.length ∧ Below w.heap.size w wr) (fun v _ => l.length - (intOf v).toNat)
  case atStart => exact ⟨0, rfl, Nat.zero_le _, Below.refl _ _⟩
  case round =>
    obtain ⟨k, rfl, hk, hbw⟩ := hrel
    have HBW := Aside.mk hbw
    clear hbw
    by_cases hlt : k < l.length
    · obtain ⟨t, hx⟩ : ∃ x, l[k]? = some x := ⟨_, List.getElem?_eq_getElem hlt⟩
      obtain ⟨ad, sa, fa, rfl, hc, ha1, ha2⟩ := (H1.out.below HBW.out) k t hx
      obtain ⟨bd, sb, fb, rfl, hd, hb1, hb2⟩ := (H2.out.below HBW.out) k t hx
      have HA1 := Aside.mk ha1
      have HA2 := Aside.mk ha2
      have HB1 := Aside.mk hb1
      have HB2 := Aside.mk hb2
      obtain ⟨A1, c1, rfl, -⟩ := ha1
      obtain ⟨A2, c2, rfl, -⟩ := ha2
      obtain ⟨A3, c3, rfl, -⟩ := hb1
      obtain ⟨A4, c4, rfl, -⟩ := hb2
      have p0 := hc.c0
      have p1 := hc.c1
      have q0 := hd.c0
      have q1 := hd.c1
      have HK : Aside (∀ w', Below wr.heap.size wr w' → Below wr.heap.size wr w' ∧ w'.cell? (ad.add (k * 2)) = some (.slice A1 t.f0.length c1) ∧ w'.cell? ⟨(ad.add (k * 2)).block, (ad.add (k * 2)).off + 1, none⟩ = some (.slice A2 t.f1.length c2) ∧ w'.cell? (bd.add (k * 2)) = some (.slice A3 t.f0.length c3) ∧ w'.cell? ⟨(bd.add (k * 2)).block, (bd.add (k * 2)).off + 1, none⟩ = some (.slice A4 t.f1.length c4)) := ⟨fun w' h => ⟨h, cell_old h p0, cell_old h p1, cell_old h q0, cell_old h q1⟩⟩
      clear hc hd hx
      go_wp2
      go_region_held3 (fun w' => Below wr.heap.size wr w' ∧ w'.cell? (ad.add (k * 2)) = some (.slice A1 t.f0.length c1) ∧ w'.cell? ⟨(ad.add (k * 2)).block, (ad.add (k * 2)).off + 1, none⟩ = some (.slice A2 t.f1.length c2) ∧ w'.cell? (bd.add (k * 2)) = some (.slice A3 t.f0.length c3) ∧ w'.cell? ⟨(bd.add (k * 2)).block, (bd.add (k * 2)).off + 1, none⟩ = some (.slice A4 t.f1.length c4)) ((refine HK.out _ ?_; repeat (with_reducible first | assumption | exact Below.refl _ _ | refine Below.drew ?_ | exact Below.alloc (by assumption) (below_size (by assumption) (Nat.le_refl _)) _ | refine Below.alloc ?_ (Nat.le_refl _) _ | refine Below.setCell ?_ (by simp) _))) ((go_at_call 76; go_split_ands; refine (eq76_calls _ _ _ _ t _ (HA1.out.below (by with_reducible assumption)) (HA2.out.below (by with_reducible assumption)) (HB1.out.below (by with_reducible assumption)) (HB2.out.below (by with_reducible assumption))).mono ?_; rintro e w1 ⟨rfl, hb1⟩; have B1 : Below wr.heap.size wr w1 := below_call (by with_reducible assumption) (Nat.le_refl _) hb1; clear hb1))
      have HBx := Aside.mk B1
      clear B1
      go_wp2
      go_roundw
      case rel => exact ⟨k + 1, by go_num, by omega, below_call HBW.out (Nat.le_refl _) HBx.out⟩
      case measure => simp [intOf]; omega
    · go_wp2
      go_ret
      exact ⟨rfl, HBW.out⟩
set_option maxHeartbeats 2000000 in
theorem eqWorld_calls (a0 a1 a2 a3 b0 b1 b2 b3 : Value) (m : Wd) (w : World) (ha : RdW w a0 a1 a2 a3 m) (hb : RdW w b0 b1 b2 b3 m) :
    Calls Try.prog 13 #[.agg #[a0, a1, a2, a3], .agg #[b0, b1, b2, b3]] w fun e w' => e = .returned (.bool true) ∧ Below w.heap.size w w' := by
  obtain ⟨th, ts, cs, en⟩ := m
  have HA := Aside.mk ha
  have HB := Aside.mk hb
  obtain ⟨A0, c0, rfl, -⟩ := ha.things
  obtain ⟨A1, c1, rfl, -⟩ := ha.tables
  obtain ⟨A2, c2, rfl, -⟩ := ha.calls
  obtain ⟨A3, c3, rfl, -⟩ := ha.ended
  obtain ⟨B0, d0, rfl, -⟩ := hb.things
  obtain ⟨B1, d1, rfl, -⟩ := hb.tables
  obtain ⟨B2, d2, rfl, -⟩ := hb.calls
  obtain ⟨B3, d3, rfl, -⟩ := hb.ended
  simp only at HA HB ⊢
  clear ha hb
  have HAL : Aside (∀ o o2, Below w.heap.size w ((w.alloc o).alloc o2)) := ⟨fun o o2 => ((Below.refl _ _).alloc (Nat.le_refl _) _).alloc (by simp) _⟩
  go_enter Try.func13, Try.ntmps13
  go_wp2_with fail
  refine (eq43_calls _ _ th _ (HA.out.things.below (HAL.out _ _)) (HB.out.things.below (HAL.out _ _))).mono ?_
  rintro e w1 ⟨rfl, hb1⟩
  have HB1 : Aside (Below w.heap.size w w1) := ⟨below_call (HAL.out _ _) (Nat.le_refl _) hb1⟩
  have ga : Blk w1 w.heap.size #[.slice A0 th.length c0, .slice A1 ts.length c1, .slice A2 cs.length c2, .slice A3 en.length c3] 35 := ((Blk.new w _ _).alloc _).below hb1
  have gb : Blk w1 (w.heap.size + 1) #[.slice B0 th.length d0, .slice B1 ts.length d1, .slice B2 cs.length d2, .slice B3 en.length d3] 35 := (by
    have := Blk.new (w.alloc (.cells #[.slice A0 th.length c0, .slice A1 ts.length c1, .slice A2 cs.length c2, .slice A3 en.length c3] 35)) #[.slice B0 th.length d0, .slice B1 ts.length d1, .slice B2 cs.length d2, .slice B3 en.length d3] 35
    simp only [World.size_alloc] at this
    exact this.below hb1)
  have GA := Aside.mk ga
  have GB := Aside.mk gb
  have g1 : w1.cell? ⟨w.heap.size, 1, none⟩ = some (.slice A1 ts.length c1) := ga.cell 1
  have g2 : w1.cell? ⟨w.heap.size + 1, 1, none⟩ = some (.slice B1 ts.length d1) := gb.cell 1
  clear hb1 ga gb
  go_wp2_with fail
  refine (eq44_calls _ _ ts _ (HA.out.tables.below HB1.out) (HB.out.tables.below HB1.out)).mono ?_
  rintro e w2 ⟨rfl, hb2⟩
  have HB2 : Aside (Below w.heap.size w w2) := ⟨below_call HB1.out (Nat.le_refl _) hb2⟩
  have GA2 := Aside.mk (GA.out.below hb2)
  have GB2 := Aside.mk (GB.out.below hb2)
  have g3 : w2.cell? ⟨w.heap.size, 2, none⟩ = some (.slice A2 cs.length c2) := GA2.out.cell 2
  have g4 : w2.cell? ⟨w.heap.size + 1, 2, none⟩ = some (.slice B2 cs.length d2) := GB2.out.cell 2
  clear hb2 g1 g2
  go_wp2_with fail
  refine (eq45_calls _ _ cs _ (HA.out.calls.below HB2.out) (HB.out.calls.below HB2.out)).mono ?_
  rintro e w3 ⟨rfl, hb3⟩
  have HB3 : Aside (Below w.heap.size w w3) := ⟨below_call HB2.out (Nat.le_refl _) hb3⟩
  have GA3 := Aside.mk (GA2.out.below hb3)
  have GB3 := Aside.mk (GB2.out.below hb3)
  have g5 : w3.cell? ⟨w.heap.size, 3, none⟩ = some (.slice A3 en.length c3) := GA3.out.cell 3
  have g6 : w3.cell? ⟨w.heap.size + 1, 3, none⟩ = some (.slice B3 en.length d3) := GB3.out.cell 3
  clear hb3 g3 g4
  go_wp2_with fail
  refine (eq12_calls _ _ en _ (HA.out.ended.below HB3.out) (HB.out.ended.below HB3.out)).mono ?_
  rintro e w4 ⟨rfl, hb4⟩
  have HB4 := Aside.mk hb4
  clear hb4
  go_wp2
  go_ret
  exact ⟨rfl, below_call HB3.out (Nat.le_refl _) HB4.out⟩
end Go.Proofs.Ytidkmlolcfapdaa
