import Derived.Test.YtidkmlolcfapdaaLn
import Derived.Deep.DeepCutAuto
set_option linter.unusedVariables false
set_option linter.unusedSimpArgs false
namespace Go.Proofs.Ytidkmlolcfapdaa
open Go.RowKit
theorem owL_len {m : Wd} (h : GWI m) (x : Int) : (owL m.f1 x).length ≤ 200 := by
  have h1 := owP_len (ts := m.f1) (fun t ht => (h.tg t ht).l40) x m.f1.length
  have := h.t5
  unfold owL
  omega
theorem sumT_le6 (ts : List T) : sumT ts ≤ 6 * totT ts := by
  unfold sumT totT
  induction ts with
  | nil => simp
  | cons t ts ih => simp only [List.map_cons, List.sum_cons]; omega
set_option maxHeartbeats 8000000 in
set_option maxRecDepth 100000 in
theorem law3_calls (v0 v1 v2 v3 : Value) (m : Wd) (x : Int) (w : World) (h : RdW w v0 v1 v2 v3 m) :
    Calls Try.prog 3 #[.agg #[v0, v1, v2, v3], .int .i64 x] w fun e w' => e = .returned (.bool true) ∧ Below w.heap.size w w' := by
  have HW := Aside.mk h
  obtain ⟨b, hb⟩ := bool_cases (GWI m ∧ 0 ≤ x ∧ x < m.f0.length)
  have HBI := Aside.mk hb
  have HBS : Aside (b = true ↔ GWS m ∧ 0 ≤ x ∧ x < m.f0.length) := ⟨by rw [hb, GW_iff]⟩
  have hLL : (if b = true then owL m.f1 x else []).length ≤ 200 := by
    cases b with
    | false => simp
    | true => simpa using owL_len (hb.1 rfl).1 x
  generalize hL : (if b = true then owL m.f1 x else []) = L at hLL
  have HL := Lib.hid hL
  clear hb hL h
  have HAL : Aside (∀ o, Below w.heap.size w (w.alloc o)) := ⟨fun o => (Below.refl _ _).alloc (Nat.le_refl _) o⟩
  go_enter Try.func3, Try.ntmps3
  go_wp2_with fail
  refine (szWorld_calls _ _ _ _ m _ (HW.out.below (HAL.out _))).mono ?_
  rintro e w1 ⟨r, rfl, hr, hb1⟩
  have B1 : Aside (Below w.heap.size w w1) := ⟨below_call (HAL.out _) (Nat.le_refl _) hb1⟩
  have X1 := Aside.mk ((Blk.new w #[v0, v1, v2, v3] 27).below hb1)
  have x0 : w1.cell? ⟨w.heap.size, 0, none⟩ = some v0 := X1.out.cell 0
  have x1 : w1.cell? ⟨w.heap.size, 1, none⟩ = some v1 := X1.out.cell 1
  have x2 : w1.cell? ⟨w.heap.size, 2, none⟩ = some v2 := X1.out.cell 2
  have x3 : w1.cell? ⟨w.heap.size, 3, none⟩ = some v3 := X1.out.cell 3
  clear hb1
  by_cases k0 : r < 0
  · have k0' := decide_eq_true k0
    go_wp2
    go_ret
    exact ⟨rfl, B1.out⟩
  · have k0' := decide_eq_false k0
    have hn : m.f0.length + (m.f1.length + totT m.f1) + m.f2.length + m.f3.length ≤ 1048576 := by omega
    have HN := Aside.mk hn
    clear hr hn
    go_wp2_with fail
    refine (toWorld_calls _ _ _ _ m _ (HW.out.below B1.out) HN.out).mono ?_
    rintro e w2 ⟨a0, a1, a2, a3, tv, rfl, hO, hb2⟩
    have OA := Aside.mk hO.rd
    have B2 : Aside (Below w.heap.size w w2) := ⟨below_call B1.out (Nat.le_refl _) hb2⟩
    have X2 := Aside.mk (X1.out.below hb2)
    have hs12 := hb2.size
    clear hO hb2 x0 x1 x2 x3
    go_wp2_with fail
    refine (ownersOfS_calls _ _ _ _ m x _ b OA.out HBS.out).mono ?_
    rintro e w3 ⟨vb, rfl, hr, hb3⟩
    rw [HL.out] at hr
    have VB := Aside.mk hr
    have B3 : Aside (Below w.heap.size w w3) := ⟨below_call B2.out (Nat.le_refl _) hb3⟩
    have XX := Aside.mk (X2.out.below hb3)
    have hs23 := hb3.size
    clear hr hb3
    have xx0 : w3.cell? ⟨w.heap.size, 0, none⟩ = some v0 := XX.out.cell 0
    have xx1 : w3.cell? ⟨w.heap.size, 1, none⟩ = some v1 := XX.out.cell 1
    have xx2 : w3.cell? ⟨w.heap.size, 2, none⟩ = some v2 := XX.out.cell 2
    have xx3 : w3.cell? ⟨w.heap.size, 3, none⟩ = some v3 := XX.out.cell 3
    go_wp2_with fail
    refine (toWorld_calls _ _ _ _ m _ (HW.out.below B3.out) HN.out).mono ?_
    rintro e w4 ⟨c0, c1, c2, c3, tv, rfl, hO, hb4⟩
    have OC := Aside.mk hO
    obtain ⟨C0, d0, rfl, -⟩ := hO.th.opened
    obtain ⟨C1, d1, rfl, -⟩ := hO.tb.opened
    obtain ⟨C2, d2, rfl, -⟩ := hO.cs.opened
    obtain ⟨C3, d3, rfl, -⟩ := hO.en.opened
    have B4 : Aside (Below w.heap.size w w4) := ⟨below_call B3.out (Nat.le_refl _) hb4⟩
    have VB4 := Aside.mk (VB.out.below hb4)
    have X4 := Aside.mk (XX.out.below hb4)
    have hs34 := hb4.size
    have hvb : ∀ g, Value.ownBlock vb = some g → g < w3.heap.size := fun g hg => (VB.out.lt g hg).2
    have HVB := Aside.mk hvb
    clear hO hb4 hvb xx0 xx1 xx2 xx3
    go_wp2_with fail
    have BA : Aside (Below w4.heap.size w4 (w4.alloc (.cells #[(.slice C0 m.f0.length d0), (.slice C1 tv.length d1), (.slice C2 m.f2.length d2), (.slice C3 m.f3.length d3)] 35))) := ⟨(Below.refl _ _).alloc (Nat.le_refl _) _⟩
    refine (ownersOfI_calls _ _ _ _ m x _ b (OC.out.rd.below BA.out) HBI.out).mono ?_
    rintro e w5 ⟨va, rfl, hr, hb5⟩
    rw [HL.out] at hr
    have VA := Aside.mk hr
    have B45 : Aside (Below w4.heap.size w4 w5) := ⟨below_call BA.out (Nat.le_refl _) hb5⟩
    have Y5 := Aside.mk ((Blk.new w4 #[(.slice C0 m.f0.length d0), (.slice C1 tv.length d1), (.slice C2 m.f2.length d2), (.slice C3 m.f3.length d3)] 35).below hb5)
    have VB5 := Aside.mk (VB4.out.below B45.out)
    have X5 := Aside.mk (X4.out.below B45.out)
    have hva : ∀ g, Value.ownBlock va = some g → w4.heap.size < g ∧ g < w5.heap.size := fun g hg => by have := hr.lt g hg; simp at this; omega
    have HVA := Aside.mk hva
    clear hr hb5 hva
    go_wp2_with fail
    refine (eq12_calls va vb L _ (VA.out.rd encI_len) (VB5.out.rd encI_len)).mono ?_
    rintro e w6 ⟨rfl, hb6⟩
    have B46 : Aside (Below w4.heap.size w4 w6) := ⟨below_call B45.out (Nat.le_refl _) hb6⟩
    have XX := Aside.mk (X5.out.below hb6)
    have YY := Aside.mk (Y5.out.below hb6)
    have VA6 := Aside.mk (VA.out.below hb6)
    have VB6 := Aside.mk (VB5.out.below hb6)
    have hs56 := hb6.size
    have hs45 := B45.out.size
    clear hb6
    have xx0 : w6.cell? ⟨w.heap.size, 0, none⟩ = some v0 := XX.out.cell 0
    have xx1 : w6.cell? ⟨w.heap.size, 1, none⟩ = some v1 := XX.out.cell 1
    have xx2 : w6.cell? ⟨w.heap.size, 2, none⟩ = some v2 := XX.out.cell 2
    have xx3 : w6.cell? ⟨w.heap.size, 3, none⟩ = some v3 := XX.out.cell 3
    have yy0 : w6.cell? ⟨w4.heap.size, 0, none⟩ = some (.slice C0 m.f0.length d0) := YY.out.cell 0
    have yy1 : w6.cell? ⟨w4.heap.size, 1, none⟩ = some (.slice C1 tv.length d1) := YY.out.cell 1
    have yy2 : w6.cell? ⟨w4.heap.size, 2, none⟩ = some (.slice C2 m.f2.length d2) := YY.out.cell 2
    have yy3 : w6.cell? ⟨w4.heap.size, 3, none⟩ = some (.slice C3 m.f3.length d3) := YY.out.cell 3
    have HK : Aside (∀ w', Below w6.heap.size w6 w' → Below w6.heap.size w6 w' ∧ w'.cell? ⟨w.heap.size, 0, none⟩ = some v0 ∧ w'.cell? ⟨w.heap.size, 1, none⟩ = some v1 ∧ w'.cell? ⟨w.heap.size, 2, none⟩ = some v2 ∧ w'.cell? ⟨w.heap.size, 3, none⟩ = some v3 ∧ w'.cell? ⟨w4.heap.size, 0, none⟩ = some (.slice C0 m.f0.length d0) ∧ w'.cell? ⟨w4.heap.size, 1, none⟩ = some (.slice C1 tv.length d1) ∧ w'.cell? ⟨w4.heap.size, 2, none⟩ = some (.slice C2 m.f2.length d2) ∧ w'.cell? ⟨w4.heap.size, 3, none⟩ = some (.slice C3 m.f3.length d3)) := ⟨fun w' h => ⟨h, cell_old h xx0, cell_old h xx1, cell_old h xx2, cell_old h xx3, cell_old h yy0, cell_old h yy1, cell_old h yy2, cell_old h yy3⟩⟩
    have RW : Aside (∀ w', Below w6.heap.size w6 w' → RdW w' v0 v1 v2 v3 m) := ⟨fun w' h => HW.out.below (below_call (below_call B4.out (Nat.le_refl _) B46.out) (Nat.le_refl _) h)⟩
    have RC : Aside (∀ w', Below w6.heap.size w6 w' → RdW w' (.slice C0 m.f0.length d0) (.slice C1 tv.length d1) (.slice C2 m.f2.length d2) (.slice C3 m.f3.length d3) m) := ⟨fun w' h => OC.out.rd.below (below_call B46.out (Nat.le_refl _) h)⟩
    go_wp2_with fail
    go_cut [49] (fun v49 wc => v49 = .bool false ∧ Below w6.heap.size w6 wc)
    case first =>
      go_region_held3 (fun w' => Below w6.heap.size w6 w' ∧ w'.cell? ⟨w.heap.size, 0, none⟩ = some v0 ∧ w'.cell? ⟨w.heap.size, 1, none⟩ = some v1 ∧ w'.cell? ⟨w.heap.size, 2, none⟩ = some v2 ∧ w'.cell? ⟨w.heap.size, 3, none⟩ = some v3 ∧ w'.cell? ⟨w4.heap.size, 0, none⟩ = some (.slice C0 m.f0.length d0) ∧ w'.cell? ⟨w4.heap.size, 1, none⟩ = some (.slice C1 tv.length d1) ∧ w'.cell? ⟨w4.heap.size, 2, none⟩ = some (.slice C2 m.f2.length d2) ∧ w'.cell? ⟨w4.heap.size, 3, none⟩ = some (.slice C3 m.f3.length d3)) ((refine HK.out _ ?_; repeat (with_reducible first | assumption | exact Below.refl _ _ | refine Below.drew ?_ | exact Below.alloc (by assumption) (below_size (by assumption) (Nat.le_refl _)) _ | refine Below.alloc ?_ (Nat.le_refl _) _ | refine Below.setCell ?_ (by simp) _))) (first | ((go_at_call 10; go_split_ands; refine (toWorld_calls _ _ _ _ m _ (RW.out _ (by with_reducible assumption)) HN.out).mono ?_; rintro e w7 ⟨e0, e1, e2, e3, tv7, rfl, hO7, hb7⟩; have BB7 : Below w6.heap.size w6 w7 := below_call (by with_reducible assumption) (Nat.le_refl _) hb7; have RE := Aside.mk hO7.rd; clear hb7 hO7)) | ((go_at_call 13; go_split_ands; refine (eqWorld_calls _ _ _ _ _ _ _ _ m _ (RC.out _ (by with_reducible assumption)) RE.out).mono ?_; rintro e w8 ⟨rfl, hb8⟩; have BB8 : Below w6.heap.size w6 w8 := below_call (by with_reducible assumption) (Nat.le_refl _) hb8; clear hb8)))
      all_goals
        go_wp2_with fail
        go_meet
        case rel => exact ⟨rfl, BB8⟩
    case rest =>
      obtain ⟨rfl, hb⟩ := hcut

      have B4c : Aside (Below w4.heap.size w4 wc) := ⟨below_call B46.out (Nat.le_refl _) hb⟩
      have ZZ := Aside.mk (XX.out.below hb)
      have ZY := Aside.mk (YY.out.below hb)
      have VAc := Aside.mk (VA6.out.below hb)
      have VBc := Aside.mk (VB6.out.below hb)
      have OCc := Aside.mk (OC.out.below B4c.out)
      have hsc := hb.size
      have hs3w := B3.out.size
      have hs1w := X1.out.lt
      have hs13 : w.heap.size < w3.heap.size := Nat.lt_of_lt_of_le hs1w (Nat.le_trans hs12 hs23)
      clear hb xx0 xx1 xx2 xx3 yy0 yy1 yy2 yy3 HK RW RC
      have zy0 : wc.cell? ⟨w4.heap.size, 0, none⟩ = some (.slice C0 m.f0.length d0) := ZY.out.cell 0
      have zy1 : wc.cell? ⟨w4.heap.size, 1, none⟩ = some (.slice C1 tv.length d1) := ZY.out.cell 1
      have zy2 : wc.cell? ⟨w4.heap.size, 2, none⟩ = some (.slice C2 m.f2.length d2) := ZY.out.cell 2
      have zy3 : wc.cell? ⟨w4.heap.size, 3, none⟩ = some (.slice C3 m.f3.length d3) := ZY.out.cell 3
      have hbd : (1 : Int) + (sumW m : Nat) ≤ 1099511627776 := by
        have h1 := sumT_le6 m.f1
        have h2 := HN.out
        unfold sumW
        omega
      have hq0 : 0 ≤ (1 : Int) + (sumW m : Nat) := by omega
      have HBD := Aside.mk hbd
      clear hbd
      go_wp2_with fail
      refine (markWorld_calls _ _ _ _ m tv 1 _ w3.heap.size OCc.out (by omega) HBD.out).mono ?_
      rintro e w9 ⟨rfl, -, hC9⟩
      generalize hq : (1 : Int) + (sumW m : Nat) = q at hq0 ⊢
      have hFo : over (wvs (.slice C0 m.f0.length d0) (.slice C1 tv.length d1) (.slice C2 m.f2.length d2) (.slice C3 m.f3.length d3) tv) w3.heap.size := fun a ha g hg => (OC.out.lt a ha g hg).1
      have hFu : under (wvs (.slice C0 m.f0.length d0) (.slice C1 tv.length d1) (.slice C2 m.f2.length d2) (.slice C3 m.f3.length d3) tv) w4.heap.size := fun a ha g hg => (OC.out.lt a ha g hg).2
      have B3c : Aside (Below w3.heap.size wc w9) := ⟨hC9.below hFo (by omega)⟩
      have VB9 : Aside (RowI w9 w2.heap.size vb L) := ⟨Row.chg VBc.out hC9 fun a ha g e1 e2 => by
        have := HVB.out g e1
        have := hFo a ha g e2
        omega⟩
      have VA9 : Aside (RowI w9 _ va L) := ⟨Row.chg VAc.out hC9 fun a ha g e1 e2 => by
        have := HVA.out g e1
        have := hFu a ha g e2
        omega⟩
      have Z9 := Aside.mk (ZZ.out.chg hC9 fun a ha e => by have := hFo a ha _ e; omega)
      have Bw9 : Aside (Below w.heap.size w w9) := ⟨(below_call (below_call (below_call B4.out (Nat.le_refl _) (B4c.out)) (Nat.le_refl _) (Below.refl _ _)) (Nat.le_refl _) (Below.refl _ _)).trans (B3c.out.mono (by omega))⟩
      have hs9 := hC9.size
      clear hC9 hFo hFu hq zy0 zy1 zy2 zy3
      have hq0' : decide (q < 0) = false := decide_eq_false (by omega)
      go_wp2_with fail
      refine (eq12_calls va vb L _ (VA9.out.rd encI_len) (VB9.out.rd encI_len)).mono ?_
      rintro e w10 ⟨rfl, hb10⟩
      have VA10 := Aside.mk (VA9.out.below hb10)
      have VB10 := Aside.mk (VB9.out.below hb10)
      have Z10 := Aside.mk (Z9.out.below hb10)
      have Bw10 : Aside (Below w.heap.size w w10) := ⟨below_call Bw9.out (Nat.le_refl _) hb10⟩
      clear hb10
      go_wp2_with fail
      refine (mark15_calls va L 1 _ _ VA10.out (by omega) (by omega)).mono ?_
      rintro e w11 ⟨rfl, hr11, hg11⟩
      have VA11 := Aside.mk hr11
      have hnab : apart vb va := fun g e1 e2 => by
        have := HVB.out g e1
        have := HVA.out g e2
        omega
      have VB11 : Aside (RowI w11 w2.heap.size vb L) := ⟨Row.kept VB10.out hg11 hnab.ne⟩
      have Bw11 : Aside (Below w.heap.size w w11) := ⟨Bw10.out.grown hg11 Bw10.out.size fun g hg => by have := HVA.out g hg; have := B4.out.size; omega⟩
      have X11 : Aside (Blk w11 w.heap.size #[v0, v1, v2, v3] 27) := ⟨(hg11.block _ Z10.out.lt (fun e => by have := HVA.out _ e.symm; have := B4.out.size; omega)).trans Z10.out⟩
      clear hr11 hg11 hnab
      have x11_0 : w11.cell? ⟨w.heap.size, 0, none⟩ = some v0 := X11.out.cell 0
      have x11_1 : w11.cell? ⟨w.heap.size, 1, none⟩ = some v1 := X11.out.cell 1
      have x11_2 : w11.cell? ⟨w.heap.size, 2, none⟩ = some v2 := X11.out.cell 2
      have x11_3 : w11.cell? ⟨w.heap.size, 3, none⟩ = some v3 := X11.out.cell 3
      have hl0 : 0 ≤ (1 : Int) + (1 * L.length : Nat) := by omega
      have hl1 : (1 : Int) + (1 * L.length : Nat) ≤ 1099511627776 := by omega
      have HH : Aside (∀ (W : World) (lo : Nat), RowI W lo va (mks mk1I 1 L.length 1) → Calls Try.prog 16 #[va, .int .i64 1] W fun e w' => e = .returned (.int .i64 ((1 : Int) + (1 * L.length : Nat))) ∧ W = w') := ⟨fun W lo hW => held16_calls va L.length 1 W (hW.rd encI_len) (by omega) hl1⟩
      generalize hq1 : (1 : Int) + (1 * L.length : Nat) = q1 at hl0 hl1 HH ⊢
      have hl0' : decide (q1 < 0) = false := decide_eq_false (by omega)
      clear hq1
      go_wp2_with fail
      refine (HH.out _ _ VA11.out).mono ?_
      rintro e w12 ⟨rfl, rfl⟩
      go_wp2_with fail
      refine (toWorld_calls _ _ _ _ m _ (HW.out.below Bw11.out) HN.out).mono ?_
      rintro e w12 ⟨e0, e1, e2, e3, tv2, rfl, hO, hb12⟩
      have OE := Aside.mk hO.rd
      have VA12 := Aside.mk (VA11.out.below hb12)
      have VB12 := Aside.mk (VB11.out.below hb12)
      have Bw12 : Aside (Below w.heap.size w w12) := ⟨below_call Bw11.out (Nat.le_refl _) hb12⟩
      clear hO hb12 x11_0 x11_1 x11_2 x11_3
      go_wp2_with fail
      refine (ownersOfI_calls _ _ _ _ m x _ b OE.out HBI.out).mono ?_
      rintro e w13 ⟨vc, rfl, hr, hb13⟩
      rw [HL.out] at hr
      have VC := Aside.mk hr
      have VA13 := Aside.mk (VA12.out.below hb13)
      have VB13 := Aside.mk (VB12.out.below hb13)
      have Bw13 : Aside (Below w.heap.size w w13) := ⟨below_call Bw12.out (Nat.le_refl _) hb13⟩
      clear hr hb13
      go_wp2_with fail
      refine (eq12_calls vc vb L _ (VC.out.rd encI_len) (VB13.out.rd encI_len)).mono ?_
      rintro e w14 ⟨rfl, hb14⟩
      have VA14 := Aside.mk (VA13.out.below hb14)
      have Bw14 : Aside (Below w.heap.size w w14) := ⟨below_call Bw13.out (Nat.le_refl _) hb14⟩
      clear hb14
      go_wp2_with fail
      refine (HH.out _ _ VA14.out).mono ?_
      rintro e w15 ⟨rfl, rfl⟩
      go_wp2
      go_ret
      exact ⟨rfl, Bw14.out⟩

end Go.Proofs.Ytidkmlolcfapdaa
