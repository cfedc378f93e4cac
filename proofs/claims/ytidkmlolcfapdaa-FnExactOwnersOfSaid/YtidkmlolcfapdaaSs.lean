import Derived.Test.YtidkmlolcfapdaaSo
set_option linter.unusedVariables false
set_option linter.unusedSimpArgs false
namespace Go.Proofs.Ytidkmlolcfapdaa
open Go.RowKit
def cnO (pre : List H) (j : Nat) : Nat := (reps pre).count (j : Int)
/-- A world is good, as the reference looks. -/
structure GWS (m : Wd) : Prop where
  l40 : m.f0.length ≤ 40
  t1 : 1 ≤ m.f1.length
  t5 : m.f1.length ≤ 5
  tg : ∀ t ∈ m.f1, TOkS t.f0 t.f1
  ok : ∀ h ∈ slotsOf m.f1, ownu h = true → hOK m.f0 h
  th : ∀ (i : Nat) (x : Th), m.f0[i]? = some x → (0 ≤ x.f0 ∧ x.f0 ≤ 9) ∧ (x.f1 = decide (cnO (slotsOf m.f1) i = 1)) ∧ cnO (slotsOf m.f1) i ≤ 1
  en : ∀ (j : Nat) (e : Int), m.f3[j]? = some e → (0 ≤ e ∧ e < m.f0.length) ∧ (∀ x, m.f0[e.toNat]? = some x → x.f1 = false) ∧ e ∉ m.f3.take j
  cnt : m.f3.length = m.f0.countP (fun x => !x.f1)
  ln : LnOkS m.f1 m.f2
theorem TOkS.pos {sl : List H} {fr : List Int} (h : TOkS sl fr) : ∀ x ∈ sl, x.f0 = true → 0 ≤ x.f2 := by
  intro x hx hu
  have := h.u x hx hu
  simp only [soundB, Bool.and_eq_true, decide_eq_true_eq] at this
  omega
theorem mk25 (n : Nat) (hn : n ≤ 40) (W : World) : (Instr.makeSlice 25 (.int .i64 (n : Int)) (.int .i64 (n : Int))).run Try.prog W = .ok (.slice (some ⟨W.heap.size, 0, none⟩) n n) (W.alloc (.cells (madeCells #[.int .i64 0] n) 3)) := by
  have h3 : (Try.prog.info? 3).map (fun i => (i.zero, i.size, i.bytes)) = some (some (.int .i64 0), 1, 8) := by kernel_rfl
  obtain ⟨i, hi, he⟩ := Option.map_eq_some_iff.1 h3
  simp only [Prod.mk.injEq] at he
  have := run_make (P := Try.prog) W 25 3 i (.int .i64 0) (by kernel_rfl) hi he.1 .i64 .i64 n n (by omega) (by omega) (by rw [he.2.2]; omega) (by omega)
  rw [this, he.2.1]
  simp [Value.cells]
/-- While the owners are counted. -/
structure SG (w : World) (bx : Array Value) (n : Nat) (pre : List H) (wr : World) : Prop where
  b : Below w.heap.size w wr
  k : Blk wr w.heap.size bx 35
  gs : w.heap.size + 1 < wr.heap.size
  r : wr.rowIs (w.heap.size + 1) 3 n (fun j => .int .i64 (cnO pre j : Int))
theorem SG.start (w : World) (bx : Array Value) (n : Nat) : SG w bx n [] ((w.alloc (.cells bx 35)).alloc (.cells (madeCells #[.int .i64 0] n) 3)) := by
  have h := World.rowIs_alloc (w.alloc (.cells bx 35)) (madeCells #[.int .i64 0] n) 3 (fun j => .int .i64 (cnO [] j : Int)) (by
    intro i hi
    rw [size_madeCells] at hi
    simp [madeCells, cnO, reps, hi, Nat.mod_one])
  rw [size_madeCells] at h
  have e1 : (w.alloc (.cells bx 35)).heap.size = w.heap.size + 1 := by simp
  rw [e1] at h
  generalize madeCells #[.int .i64 0] n = C at h ⊢
  have b1 : Below w.heap.size w (w.alloc (.cells bx 35)) := (Below.refl _ _).alloc (Nat.le_refl _) _
  have s1 : w.heap.size + 1 < ((w.alloc (.cells bx 35)).alloc (.cells C 3)).heap.size := by rw [World.size_alloc, e1]; omega
  exact ⟨b1.alloc b1.size _, (Blk.new w _ _).alloc _, s1, h⟩
theorem SG.move {w wr w2 : World} {bx : Array Value} {n : Nat} {pre : List H} (h : SG w bx n pre wr) (hb : Below wr.heap.size wr w2) : SG w bx n pre w2 :=
  ⟨below_call h.b (Nat.le_refl _) hb, h.k.below hb, Nat.lt_of_lt_of_le h.gs hb.size, h.r.of_block (hb.block _ h.gs)⟩
theorem cnO_skip {pre : List H} {x : H} (e : ownu x = false) (j : Nat) : cnO (pre ++ [x]) j = cnO pre j := by
  unfold cnO; rw [reps_append, reps_skip e, List.append_nil]
theorem cnO_put {pre : List H} {x : H} (e : ownu x = true) (j : Nat) : cnO (pre ++ [x]) j = cnO pre j + if x.f2 = (j : Int) then 1 else 0 := by
  unfold cnO; rw [reps_append, reps_one e, List.count_append, List.count_singleton]; simp only [beq_iff_eq]
theorem SG.skip {w wr : World} {bx : Array Value} {n : Nat} {pre : List H} {x : H} (h : SG w bx n pre wr) (e : ownu x = false) : SG w bx n (pre ++ [x]) wr :=
  ⟨h.b, h.k, h.gs, h.r.congr (fun i hi => by simp only [cnO_skip e])⟩
theorem SG.put {w wr : World} {bx : Array Value} {n : Nat} {pre : List H} {x : H} {j : Nat} (h : SG w bx n pre wr) (e : ownu x = true) (hj : x.f2 = (j : Int)) :
    SG w bx n (pre ++ [x]) (wr.setCell ⟨w.heap.size + 1, j, none⟩ (.int .i64 ((cnO pre j : Int) + 1))) := by
  refine ⟨h.b.setCell (by simp) _, h.k.far (by simp) _, by simpa [World.setCell] using h.gs, ?_⟩
  refine (h.r.set j _).congr ?_
  intro i hi
  simp only [cnO_put e, hj]
  by_cases q : i = j
  · subst q; simp
  · have q' : ¬ (j : Int) = (i : Int) := by omega
    simp [q, q']
theorem cnO_le (pre : List H) (j : Nat) : cnO pre j ≤ pre.length := by
  unfold cnO reps
  exact Nat.le_trans List.count_le_length (by rw [List.length_map]; exact List.length_filter_le _ _)

set_option maxHeartbeats 20000000 in
set_option maxRecDepth 100000 in
theorem goodWorldS_calls (v0 v1 v2 v3 : Value) (m : Wd) (w : World) (b : Bool) (h : RdW w v0 v1 v2 v3 m) (hb : b = true ↔ GWS m) :
    Calls Try.prog 22 #[.agg #[v0, v1, v2, v3]] w fun e w' => e = .returned (.bool b) ∧ Below w.heap.size w w' := by
  obtain ⟨th, ts, cs, en⟩ := m
  have HW := Aside.mk h
  obtain ⟨h0, h1, h2, h3⟩ := h
  simp only at h0 h1 h2 h3
  obtain ⟨A0, c0, rfl, hl0, hm0, g0⟩ := h0
  obtain ⟨A1, c1, rfl, hl1, hm1, g1⟩ := h1
  obtain ⟨A2, c2, rfl, hl2, hm2, g2⟩ := h2
  obtain ⟨A3, c3, rfl, hl3, hm3, g3⟩ := h3
  have H0 := Aside.mk g0
  have H1 := Aside.mk g1
  have H2 := Aside.mk g2
  have H3 := Aside.mk g3
  have HB := Aside.mk hb
  clear g0 g1 g2 g3 hb
  by_cases a0 : (th.length : Int) > 40
  · have a0' := decide_eq_true a0
    go_enter Try.func22, Try.ntmps22
    go_wp2
    go_ret
    exact ⟨ret_f HB.out (fun h => by have := h.l40; simp only at this; omega), (Below.refl _ _).alloc (Nat.le_refl _) _⟩
  · have a0' := decide_eq_false a0
    have a0n : th.length ≤ 40 := by omega
    have HI := Aside.mk (l1In_calls (ts.length : Int) 1 5)
    have HI2 : Aside (inB (ts.length : Int) 1 5 = true ↔ 1 ≤ ts.length ∧ ts.length ≤ 5) := ⟨by rw [inB_iff]; omega⟩
    generalize hi : inB (ts.length : Int) 1 5 = ib at HI HI2
    clear hi
    cases ib with
    | false =>
      go_enter Try.func22, Try.ntmps22
      go_wp2_with fail
      refine (HI.out _).mono ?_
      rintro e w1 ⟨rfl, rfl⟩
      go_wp2
      go_ret
      exact ⟨ret_f HB.out (fun h => by have := HI2.out.2 ⟨h.t1, h.t5⟩; simp at this), (Below.refl _ _).alloc (Nat.le_refl _) _⟩
    | true =>
      obtain ⟨t1, t5⟩ := HI2.out.1 rfl
      have hmk := mk25 th.length a0n
      go_enter Try.func22, Try.ntmps22
      go_wp2_with fail
      refine (HI.out _).mono ?_
      rintro e w1 ⟨rfl, rfl⟩
      go_wp2
      clear hmk HI
      go_loopw [31] (fun v wr => ∃ p : Nat, v = .int .i64 p ∧ p ≤ ts.length ∧ SG w #[.slice A0 th.length c0, .slice A1 ts.length c1, .slice A2 cs.length c2, .slice A3 en.length c3] th.length (slotsOf (ts.take p)) wr ∧ (∀ t ∈ ts.take p, TOkS t.f0 t.f1) ∧ (∀ h ∈ slotsOf (ts.take p), ownu h = true → hOK th h) ∧ (slotsOf (ts.take p)).length ≤ 40 * p) (fun v _ => ts.length - (intOf v).toNat)
      case atStart => exact ⟨0, rfl, Nat.zero_le _, by simpa [slotsOf] using SG.start w _ th.length, by simp, by simp [slotsOf], by simp [slotsOf]⟩
      case round =>
        obtain ⟨p, rfl, hp, hR, hT, hO, hL⟩ := hrel
        have HR := Aside.mk hR
        have HT := Aside.mk hT
        have HO := Aside.mk hO
        have hsz := hR.gs
        have gw0 : wr.cell? ⟨w.heap.size, 0, none⟩ = some (.slice A0 th.length c0) := hR.k.cell 0
        have gw1 : wr.cell? ⟨w.heap.size, 1, none⟩ = some (.slice A1 ts.length c1) := hR.k.cell 1
        have gw3 : wr.cell? ⟨w.heap.size, 3, none⟩ = some (.slice A3 en.length c3) := hR.k.cell 3
        clear hR hT hO
        by_cases hlt : p < ts.length
        · obtain ⟨t, ht⟩ : ∃ t, ts[p]? = some t := ⟨_, List.getElem?_eq_getElem hlt⟩
          obtain ⟨ad, s, f, rfl, hc, hs, hf⟩ := H1.out p t ht
          have Ht := Aside.mk ht
          clear ht
          have q0 := cell_old HR.out.b hc.c0
          have q1 := cell_old HR.out.b hc.c1
          clear hc
          obtain ⟨tb, htb⟩ := bool_cases (TOkS t.f0 t.f1)
          have HTB := Aside.mk htb
          have HS := Aside.mk hs
          have HFr := Aside.mk hf
          obtain ⟨A4, c4, rfl, hl4, hm4, g4⟩ := hs
          obtain ⟨A5, c5, rfl, -, -, -⟩ := hf
          have H4 := Aside.mk g4
          clear g4 htb
          go_wp2_with fail
          refine (goodTableS_calls _ _ t.f0 t.f1 _ tb (HS.out.below (HR.out.b.alloc HR.out.b.size _)) (HFr.out.below (HR.out.b.alloc HR.out.b.size _)) HTB.out).mono ?_
          rintro e w1 ⟨rfl, hb1⟩
          have HR1 : Aside (SG w _ th.length (slotsOf (ts.take p)) w1) := ⟨(HR.out.move ((Below.refl _ _).alloc (Nat.le_refl _) _)).move hb1⟩
          obtain ⟨hb1c, hb1f⟩ := bcell hb1
          have hz1 : wr.heap.size + 1 ≤ w1.heap.size := by have := hb1.size; simp at this; omega
          clear hb1
          cases tb with
          | false =>
            go_wp2
            go_ret
            exact ⟨ret_f HB.out (fun h => by
              have := HTB.out.2 (h.tg t (List.mem_of_getElem? Ht.out))
              cases this), HR1.out.b⟩
          | true =>
            have hTS := HTB.out.1 rfl
            have HTS := Aside.mk hTS
            have hl40 := hTS.l40
            clear hTS
            have hp5 : p * 40 + t.f0.length ≤ 200 := by omega
            go_wp2
            obtain ⟨wo, rfl⟩ : ∃ wo : World, wo = wr := ⟨_, rfl⟩
            go_loopw [41] (fun v wr => ∃ q : Nat, v = .int .i64 q ∧ q ≤ t.f0.length ∧ SG w #[.slice A0 th.length c0, .slice (some ad) ts.length c1, .slice A2 cs.length c2, .slice A3 en.length c3] th.length (slotsOf (ts.take p) ++ t.f0.take q) wr ∧ (∀ h ∈ slotsOf (ts.take p) ++ t.f0.take q, ownu h = true → hOK th h)) (fun v _ => t.f0.length - (intOf v).toNat)
            case atStart => exact ⟨0, rfl, Nat.zero_le _, by simpa using HR1.out, by simpa using HO.out⟩
            case round =>
              clear q0 q1 hb1c hb1f HR1
              obtain ⟨q, rfl, hq, hR2, hO2⟩ := hrel
              have HR2 := Aside.mk hR2
              have HO2 := Aside.mk hO2
              have hsz2 := hR2.gs
              have hsz3 : w.heap.size < wr.heap.size := by omega
              have gv0 : wr.cell? ⟨w.heap.size, 0, none⟩ = some (.slice A0 th.length c0) := hR2.k.cell 0
              clear hR2 hO2
              by_cases hql : q < t.f0.length
              · obtain ⟨h, hx⟩ : ∃ x, t.f0[q]? = some x := ⟨_, List.getElem?_eq_getElem hql⟩
                obtain ⟨ad2, rfl, hc⟩ := (H4.out.below HR2.out.b) q h hx
                have Hx := Aside.mk hx
                clear hx
                obtain ⟨u, r, rp, o, l, s⟩ := h
                have q0 := hc.c0
                have q1 := hc.c1
                have q2 := hc.c2
                have q3 := hc.c3
                have q4 := hc.c4
                have q5 := hc.c5
                clear hc
                have Hstep : Aside (slotsOf (ts.take p) ++ t.f0.take (q + 1) = (slotsOf (ts.take p) ++ t.f0.take q) ++ [⟨u, r, rp, o, l, s⟩]) := ⟨by rw [take_snoc Hx.out]; simp⟩
                have HOs : Aside ((ownu ⟨u, r, rp, o, l, s⟩ = true → hOK th ⟨u, r, rp, o, l, s⟩) → ∀ h ∈ slotsOf (ts.take p) ++ t.f0.take (q + 1), ownu h = true → hOK th h) := ⟨fun h x hx ho => by
                  rw [Hstep.out] at hx
                  rcases List.mem_append.1 hx with hx | hx
                  · exact HO2.out x hx ho
                  · obtain rfl := List.mem_singleton.1 hx
                    exact h ho⟩
                have HF : Aside (GWS ⟨th, ts, cs, en⟩ → ownu ⟨u, r, rp, o, l, s⟩ = true → hOK th ⟨u, r, rp, o, l, s⟩) := ⟨fun h ho => h.ok _ (List.mem_flatMap.2 ⟨t, List.mem_of_getElem? Ht.out, List.mem_of_getElem? Hx.out⟩) ho⟩
                cases u with
                | false =>
                  go_wp2
                  go_roundw
                  case rel => exact ⟨q + 1, by go_num, by omega, by rw [Hstep.out]; exact (HR2.out.move ((Below.refl _ _).alloc (Nat.le_refl _) _)).skip rfl, HOs.out (fun h => by cases h)⟩
                  case measure => simp [intOf]; omega
                | true =>
                  cases o with
                  | false =>
                    go_wp2
                    go_roundw
                    case rel => exact ⟨q + 1, by go_num, by omega, by rw [Hstep.out]; exact (HR2.out.move ((Below.refl _ _).alloc (Nat.le_refl _) _)).skip rfl, HOs.out (fun h => by cases h)⟩
                    case measure => simp [intOf]; omega
                  | true =>
                    have hrp : 0 ≤ rp := HTS.out.pos _ (List.mem_of_getElem? Hx.out) rfl
                    obtain ⟨j, rfl⟩ := Int.eq_ofNat_of_zero_le hrp
                    by_cases j0 : (j : Int) ≥ th.length
                    · have j0' := decide_eq_true j0
                      have j0'' : decide (th.length ≤ j) = true := decide_eq_true (by omega)
                      go_wp2
                      go_quiet (fail)
                      go_wp2
                      go_ret
                      exact ⟨ret_f HB.out (fun h => by
                        obtain ⟨x, hx, _⟩ := HF.out h rfl
                        have := (List.getElem?_eq_some_iff.1 hx).1
                        simp at this; omega), below_call HR2.out.b (Nat.le_refl _) (below_drewN ((Below.refl _ _).alloc (Nat.le_refl _) _) _)⟩
                    · have j0' := decide_eq_false j0
                      have j0'' : decide (th.length ≤ j) = false := decide_eq_false (by omega)
                      have j1 : (j : Int) < th.length := by omega
                      have jp : (0 : Int) ≤ (j : Int) := Int.natCast_nonneg j
                      obtain ⟨x, hx⟩ : ∃ x, th[j]? = some x := ⟨_, List.getElem?_eq_getElem (by omega)⟩
                      obtain ⟨ad3, rfl, hc⟩ := (H0.out.below HR2.out.b) j x hx
                      have Hj := Aside.mk hx
                      clear hx
                      obtain ⟨xr, xa⟩ := x
                      have t0 := hc.c0
                      have t1' := hc.c1
                      clear hc
                      have e0' : ∀ o, (wr.alloc o).cell? (ad3.add (j * 2)) = some (.int .i64 xr) := fun o => cell_old ((Below.refl _ _).alloc (Nat.le_refl _) _) t0
                      have e1' : ∀ o, (wr.alloc o).cell? ⟨(ad3.add (j * 2)).block, (ad3.add (j * 2)).off + 1, none⟩ = some (.bool xa) := fun o => cell_old ((Below.refl _ _).alloc (Nat.le_refl _) _) t1'
                      have HK : Aside (∀ y : Th, th[j]? = some y → y = ⟨xr, xa⟩) := ⟨fun y hy => by rw [Hj.out] at hy; exact (Option.some.inj hy).symm⟩
                      cases xa with
                      | false =>
                        go_wp2
                        go_quiet (fail)
                        go_wp2
                        go_ret
                        exact ⟨ret_f HB.out (fun h => by
                          obtain ⟨x, hx, hxa, _⟩ := HF.out h rfl
                          rw [HK.out x hx] at hxa
                          cases hxa), below_call HR2.out.b (Nat.le_refl _) (below_drewN ((Below.refl _ _).alloc (Nat.le_refl _) _) _)⟩
                      | true =>
                        by_cases e : xr = r
                        · subst e
                          have hcl : cnO (slotsOf (ts.take p) ++ t.f0.take q) j ≤ 200 := by
                            refine Nat.le_trans (cnO_le _ _) ?_
                            rw [List.length_append, List.length_take]
                            omega
                          have hj : wr.cell? ⟨w.heap.size + 1, j, none⟩ = some (.int .i64 (cnO (slotsOf (ts.take p) ++ t.f0.take q) j : Nat)) := HR2.out.r.cell (i := j) (by omega)
                          have hfj := HR2.out.r.frozen j
                          generalize hcn : cnO (slotsOf (ts.take p) ++ t.f0.take q) j = cn at hcl hj
                          have HCN := Lib.hid hcn
                          clear hcn
                          go_wp2
                          go_quiet (fail)
                          go_wp2
                          go_roundw
                          case rel => exact ⟨q + 1, by go_num, by omega, by
                            rw [Hstep.out, ← HCN.out]
                            exact (HR2.out.move (below_drewN ((Below.refl _ _).alloc (Nat.le_refl _) _) _)).put rfl rfl, HOs.out (fun _ => ⟨_, Hj.out, rfl, rfl⟩)⟩
                          case measure => simp [intOf]; omega
                        · have e' : (xr == r) = false := by simpa using e
                          have e'' : (xr != r) = true := by simpa using e
                          have HE := Aside.mk e
                          clear e
                          go_wp2
                          go_quiet (fail)
                          go_wp2
                          go_ret
                          exact ⟨ret_f HB.out (fun h => by
                            obtain ⟨x, hx, _, hxr⟩ := HF.out h rfl
                            rw [HK.out x hx] at hxr
                            exact HE.out hxr), below_call HR2.out.b (Nat.le_refl _) (below_drewN ((Below.refl _ _).alloc (Nat.le_refl _) _) _)⟩
              · have HRn : Aside (SG w #[.slice A0 th.length c0, .slice (some ad) ts.length c1, .slice A2 cs.length c2, .slice A3 en.length c3] th.length (slotsOf (ts.take (p + 1))) wr) := ⟨by
                  have h := HR2.out
                  rw [show t.f0.take q = t.f0 from List.take_of_length_le (by omega), ← slotsOf_snoc Ht.out] at h
                  exact h⟩
                have HOn : Aside (∀ h ∈ slotsOf (ts.take (p + 1)), ownu h = true → hOK th h) := ⟨by
                  have h := HO2.out
                  rw [show t.f0.take q = t.f0 from List.take_of_length_le (by omega), ← slotsOf_snoc Ht.out] at h
                  exact h⟩
                have HTn : Aside (∀ t ∈ ts.take (p + 1), TOkS t.f0 t.f1) := ⟨by
                  rw [take_snoc Ht.out]
                  intro x hx
                  rcases List.mem_append.1 hx with hx | hx
                  · exact HT.out x hx
                  · obtain rfl := List.mem_singleton.1 hx
                    exact HTS.out⟩
                have HLn : Aside ((slotsOf (ts.take (p + 1))).length ≤ 40 * (p + 1)) := ⟨by
                  rw [slotsOf_snoc Ht.out, List.length_append]; omega⟩
                go_wp2
                go_roundw
                case rel => exact ⟨p + 1, by go_num, by omega, HRn.out, HTn.out, HOn.out, HLn.out⟩
                case measure => simp [intOf]; omega
        · have hke : ts.take p = ts := List.take_of_length_le (by omega)
          rw [hke] at HT HO HR hL
          clear hke
          have hl200 : (slotsOf ts).length ≤ 200 := by omega
          clear hL hsz
          go_wp2
          clear hlt hp
          obtain ⟨wo, rfl⟩ : ∃ wo : World, wo = wr := ⟨_, rfl⟩
          go_loopw [8, 93] (fun v8 v wr => ∃ i : Nat, v = .int .i64 i ∧ v8 = .int .i64 (((th.take i).countP (fun x => !x.f1) : Nat) : Int) ∧ i ≤ th.length ∧ SG w #[.slice A0 th.length c0, .slice A1 ts.length c1, .slice A2 cs.length c2, .slice A3 en.length c3] th.length (slotsOf ts) wr ∧ (∀ (k : Nat) (x : Th), k < i → th[k]? = some x → (0 ≤ x.f0 ∧ x.f0 ≤ 9) ∧ (x.f1 = decide (cnO (slotsOf ts) k = 1)) ∧ cnO (slotsOf ts) k ≤ 1)) (fun _ v _ => th.length - (intOf v).toNat)
          case atStart => exact ⟨0, rfl, rfl, Nat.zero_le _, HR.out, fun k x h => by omega⟩
          case round =>
            clear HR gw0 gw1 gw3
            obtain ⟨i, rfl, rfl, hi, hR, hI⟩ := hrel
            have HR := Aside.mk hR
            have HI2 := Aside.mk hI
            have hsz := hR.gs
            have hsz3 : w.heap.size < wr.heap.size := by omega
            have gw0 : wr.cell? ⟨w.heap.size, 0, none⟩ = some (.slice A0 th.length c0) := hR.k.cell 0
            have gw3 : wr.cell? ⟨w.heap.size, 3, none⟩ = some (.slice A3 en.length c3) := hR.k.cell 3
            have hcl : cnO (slotsOf ts) i ≤ 200 := Nat.le_trans (cnO_le _ _) hl200
            clear hR hI
            by_cases hlt : i < th.length
            · obtain ⟨x, hx⟩ : ∃ x, th[i]? = some x := ⟨_, List.getElem?_eq_getElem hlt⟩
              obtain ⟨ad, rfl, hc⟩ := (H0.out.below HR.out.b) i x hx
              have Hx := Aside.mk hx
              clear hx
              obtain ⟨xr, xa⟩ := x
              have t0 := hc.c0
              have t1' := hc.c1
              clear hc
              have hj : wr.cell? ⟨w.heap.size + 1, i, none⟩ = some (.int .i64 (cnO (slotsOf ts) i : Nat)) := HR.out.r.cell (i := i) (by omega)
              have HSN : Aside ((th.take (i + 1)).countP (fun x => !x.f1) = (th.take i).countP (fun x => !x.f1) + if (!xa) = true then 1 else 0) := ⟨by rw [take_snoc Hx.out, List.countP_append, List.countP_singleton]⟩
              have hml : (th.take i).countP (fun x => !x.f1) ≤ 40 := Nat.le_trans List.countP_le_length (by rw [List.length_take]; omega)
              generalize hM : (th.take i).countP (fun x => !x.f1) = M at hml HSN
              have HM := Lib.hid hM
              clear hM
              have HF : Aside (GWS ⟨th, ts, cs, en⟩ → (0 ≤ xr ∧ xr ≤ 9) ∧ (xa = decide (cnO (slotsOf ts) i = 1)) ∧ cnO (slotsOf ts) i ≤ 1) := ⟨fun h => h.th i _ Hx.out⟩
              have HG : Aside ((0 ≤ xr ∧ xr ≤ 9) ∧ (xa = decide (cnO (slotsOf ts) i = 1)) ∧ cnO (slotsOf ts) i ≤ 1 → ∀ (k : Nat) (x : Th), k < i + 1 → th[k]? = some x → (0 ≤ x.f0 ∧ x.f0 ≤ 9) ∧ (x.f1 = decide (cnO (slotsOf ts) k = 1)) ∧ cnO (slotsOf ts) k ≤ 1) := ⟨fun h k x hk hx => by
                by_cases e : k = i
                · subst e
                  rw [Hx.out] at hx
                  obtain rfl := Option.some.inj hx
                  exact h
                · exact HI2.out k x (by omega) hx⟩
              generalize hcn : cnO (slotsOf ts) i = cn at hcl hj HF HG
              clear hcn
              have HB1 := Aside.mk (l1In_calls xr 0 9)
              have HB2 : Aside (inB xr 0 9 = true ↔ 0 ≤ xr ∧ xr ≤ 9) := ⟨inB_iff⟩
              generalize hib : inB xr 0 9 = ib at HB1 HB2
              clear hib
              have hjr : ∀ o, (wr.alloc o).cell? ⟨w.heap.size + 1, i, none⟩ = some (.int .i64 (cn : Int)) := fun o => cell_old ((Below.refl _ _).alloc (Nat.le_refl _) o) hj
              cases ib with
              | false =>
                go_wp2
                go_quiet ((go_at_call 37; exact Calls.quiet_of_same ((HB1.out _).mono (fun e w' h => ⟨h.1, h.2.symm⟩))))
                go_wp2
                go_ret
                exact ⟨ret_f HB.out (fun h => by have := HB2.out.2 (HF.out h).1; cases this), below_call HR.out.b (Nat.le_refl _) (below_drewN ((Below.refl _ _).alloc (Nat.le_refl _) _) _)⟩
              | true =>
                have hx9 := HB2.out.1 rfl
                obtain rfl | rfl | h2 : cn = 0 ∨ cn = 1 ∨ 2 ≤ cn := by omega
                · have hj0 : wr.cell? ⟨w.heap.size + 1, i, none⟩ = some (.int .i64 0) := hj
                  have hjr0 : ∀ o, (wr.alloc o).cell? ⟨w.heap.size + 1, i, none⟩ = some (.int .i64 0) := hjr
                  clear hj hjr
                  cases xa with
                  | false =>
                    have HM1 : Aside ((th.take (i + 1)).countP (fun x => !x.f1) = M + 1) := ⟨by rw [HSN.out]; simp⟩
                    go_wp2
                    go_quiet ((go_at_call 37; exact Calls.quiet_of_same ((HB1.out _).mono (fun e w' h => ⟨h.1, h.2.symm⟩))))
                    go_wp2
                    go_roundw
                    case rel => exact ⟨i + 1, by go_num, by rw [HM1.out]; go_num, by omega, HR.out.move (below_drewN ((Below.refl _ _).alloc (Nat.le_refl _) _) _), HG.out ⟨hx9, by simp, by omega⟩⟩
                    case measure => simp [intOf]; omega
                  | true =>
                    go_wp2
                    go_quiet ((go_at_call 37; exact Calls.quiet_of_same ((HB1.out _).mono (fun e w' h => ⟨h.1, h.2.symm⟩))))
                    go_wp2
                    go_ret
                    exact ⟨ret_f HB.out (fun h => by have := (HF.out h).2.1; simp at this), below_call HR.out.b (Nat.le_refl _) (below_drewN ((Below.refl _ _).alloc (Nat.le_refl _) _) _)⟩
                · have hj0 : wr.cell? ⟨w.heap.size + 1, i, none⟩ = some (.int .i64 1) := hj
                  have hjr0 : ∀ o, (wr.alloc o).cell? ⟨w.heap.size + 1, i, none⟩ = some (.int .i64 1) := hjr
                  clear hj hjr
                  cases xa with
                  | false =>
                    go_wp2
                    go_quiet ((go_at_call 37; exact Calls.quiet_of_same ((HB1.out _).mono (fun e w' h => ⟨h.1, h.2.symm⟩))))
                    go_wp2
                    go_ret
                    exact ⟨ret_f HB.out (fun h => by have := (HF.out h).2.1; simp at this), below_call HR.out.b (Nat.le_refl _) (below_drewN ((Below.refl _ _).alloc (Nat.le_refl _) _) _)⟩
                  | true =>
                    have HM1 : Aside ((th.take (i + 1)).countP (fun x => !x.f1) = M) := ⟨by rw [HSN.out]; simp⟩
                    go_wp2
                    go_quiet ((go_at_call 37; exact Calls.quiet_of_same ((HB1.out _).mono (fun e w' h => ⟨h.1, h.2.symm⟩))))
                    go_wp2
                    go_roundw
                    case rel => exact ⟨i + 1, by go_num, by rw [HM1.out], by omega, HR.out.move (below_drewN ((Below.refl _ _).alloc (Nat.le_refl _) _) _), HG.out ⟨hx9, by simp, by omega⟩⟩
                    case measure => simp [intOf]; omega
                · have e1 : ((cn : Int) == 1) = false := by simp; omega
                  have e2 : decide ((cn : Int) > 1) = true := decide_eq_true (by omega)
                  have e3 : decide (1 < cn) = true := decide_eq_true (by omega)
                  cases xa with
                  | false =>
                    go_wp2
                    go_quiet ((go_at_call 37; exact Calls.quiet_of_same ((HB1.out _).mono (fun e w' h => ⟨h.1, h.2.symm⟩))))
                    go_wp2
                    go_ret
                    exact ⟨ret_f HB.out (fun h => by have := (HF.out h).2.2; omega), below_call HR.out.b (Nat.le_refl _) (below_drewN ((Below.refl _ _).alloc (Nat.le_refl _) _) _)⟩
                  | true =>
                    go_wp2
                    go_quiet ((go_at_call 37; exact Calls.quiet_of_same ((HB1.out _).mono (fun e w' h => ⟨h.1, h.2.symm⟩))))
                    go_wp2
                    go_ret
                    exact ⟨ret_f HB.out (fun h => by have := (HF.out h).2.2; omega), below_call HR.out.b (Nat.le_refl _) (below_drewN ((Below.refl _ _).alloc (Nat.le_refl _) _) _)⟩
            · have hke : th.take i = th := List.take_of_length_le (by omega)
              have HTh : Aside (∀ (k : Nat) (x : Th), th[k]? = some x → (0 ≤ x.f0 ∧ x.f0 ≤ 9) ∧ (x.f1 = decide (cnO (slotsOf ts) k = 1)) ∧ cnO (slotsOf ts) k ≤ 1) := ⟨fun k x hx => HI2.out k x (by have := (List.getElem?_eq_some_iff.1 hx).1; omega) hx⟩
              have hml : th.countP (fun x => !x.f1) ≤ 40 := Nat.le_trans List.countP_le_length a0n
              rw [hke]
              clear hke
              generalize hM : th.countP (fun x => !x.f1) = M at hml ⊢
              have HM := Lib.hid hM
              clear hM hcl HI2
              go_wp2
              clear hlt hi
              obtain ⟨wo2, rfl⟩ : ∃ wo : World, wo = wr := ⟨_, rfl⟩
              have hB := Aside.mk HR.out.b
              have hK := HR.out.k
              have HKx := Aside.mk hK
              have gx2 : wo2.cell? ⟨w.heap.size, 2, none⟩ = some (.slice A2 cs.length c2) := hK.cell 2
              have gx1 : wo2.cell? ⟨w.heap.size, 1, none⟩ = some (.slice A1 ts.length c1) := hK.cell 1
              clear hK HR hsz hsz3
              go_loop [128] (fun v => ∃ j : Nat, v = .int .i64 j ∧ j ≤ en.length ∧ (∀ (k : Nat) (e : Int), k < j → en[k]? = some e → (0 ≤ e ∧ e < th.length) ∧ (∀ x, th[e.toNat]? = some x → x.f1 = false) ∧ e ∉ en.take k)) (fun v => en.length - (intOf v).toNat)
              case atStart => exact ⟨0, rfl, Nat.zero_le _, fun k e h => by omega⟩
              case round =>
                obtain ⟨j, rfl, hj, hJ⟩ := hrel
                have HJ := Aside.mk hJ
                clear hJ
                by_cases hlt : j < en.length
                · obtain ⟨e, he⟩ : ∃ x, en[j]? = some x := ⟨_, List.getElem?_eq_getElem hlt⟩
                  obtain ⟨ad, rfl, hce⟩ := (H3.out.below hB.out).int he
                  have He := Aside.mk he
                  clear he
                  have HSL : Aside (RdS encI 1 wo2 (.slice (some ad) j c3) (en.take j)) := ⟨⟨some ad, c3, by rw [List.length_take, Nat.min_eq_left (by omega)], by rw [List.length_take]; omega, hm3, fun i x hx => by
                    have hij : i < j := by
                      have := (List.getElem?_eq_some_iff.1 hx).1
                      rw [List.length_take] at this; omega
                    rw [List.getElem?_take, if_pos hij] at hx
                    exact (H3.out.below hB.out) i x hx⟩⟩
                  have HF : Aside (GWS ⟨th, ts, cs, en⟩ → (0 ≤ e ∧ e < th.length) ∧ (∀ x, th[e.toNat]? = some x → x.f1 = false) ∧ e ∉ en.take j) := ⟨fun h => h.en j _ He.out⟩
                  have HG : Aside ((0 ≤ e ∧ e < th.length) ∧ (∀ x, th[e.toNat]? = some x → x.f1 = false) ∧ e ∉ en.take j → ∀ (k : Nat) (e : Int), k < j + 1 → en[k]? = some e → (0 ≤ e ∧ e < th.length) ∧ (∀ x, th[e.toNat]? = some x → x.f1 = false) ∧ e ∉ en.take k) := ⟨fun h k x hk hx => by
                    by_cases ek : k = j
                    · subst ek
                      rw [He.out] at hx
                      obtain rfl := Option.some.inj hx
                      exact h
                    · exact HJ.out k x (by omega) hx⟩
                  have HB1 := Aside.mk (l1In_calls e 0 ((th.length : Int) - 1))
                  have HB2 : Aside (inB e 0 ((th.length : Int) - 1) = true ↔ 0 ≤ e ∧ e < th.length) := ⟨by rw [inB_iff]; omega⟩
                  generalize hib : inB e 0 ((th.length : Int) - 1) = ib at HB1 HB2
                  have HC := Aside.mk (l16Has_calls (.slice (some ad) j c3) (en.take j) e wo2 HSL.out)
                  generalize hdb : decide (e ∈ en.take j) = db at HC
                  have HD : Aside (db = true ↔ e ∈ en.take j) := ⟨by rw [← hdb]; simp⟩
                  clear hib hdb HSL
                  cases ib with
                  | false =>
                    go_wp2_with fail
                    refine (HB1.out _).mono ?_
                    rintro e w1 ⟨rfl, rfl⟩
                    go_wp2
                    go_ret
                    exact ⟨ret_f HB.out (fun h => by have := HB2.out.2 (HF.out h).1; cases this), hB.out⟩
                  | true =>
                    have he0 := HB2.out.1 rfl
                    obtain ⟨n, rfl⟩ := Int.eq_ofNat_of_zero_le he0.1
                    have hnl : n < th.length := by omega
                    obtain ⟨x, hx⟩ : ∃ x, th[n]? = some x := ⟨_, List.getElem?_eq_getElem hnl⟩
                    obtain ⟨ad2, rfl, hc⟩ := (H0.out.below hB.out) n x hx
                    have Hx := Aside.mk hx
                    clear hx
                    obtain ⟨xr, xa⟩ := x
                    have t1' := hc.c1
                    clear hc
                    have he0' := he0.2
                    have HE0 := Aside.mk he0
                    clear he0
                    cases xa with
                    | true =>
                      go_wp2_with fail
                      refine (HB1.out _).mono ?_
                      rintro e w1 ⟨rfl, rfl⟩
                      go_wp2
                      go_ret
                      exact ⟨ret_f HB.out (fun h => by have := (HF.out h).2.1 _ Hx.out; cases this), hB.out⟩
                    | false =>
                      go_wp2_with fail
                      refine (HB1.out _).mono ?_
                      rintro e w1 ⟨rfl, rfl⟩
                      go_wp2_with fail
                      refine HC.out.mono ?_
                      rintro e w1 ⟨rfl, rfl⟩
                      cases db with
                      | true =>
                        go_wp2
                        go_ret
                        exact ⟨ret_f HB.out (fun h => (HF.out h).2.2 (HD.out.1 (by simp))), hB.out⟩
                      | false =>
                        go_wp2
                        go_round
                        case rel => exact ⟨j + 1, by go_num, by omega, HG.out ⟨HE0.out, fun x hx => by
                          have h1 := Hx.out
                          rw [Int.toNat_natCast] at hx
                          rw [h1] at hx
                          exact (Option.some.inj hx) ▸ rfl, fun h => by have := HD.out.2 h; cases this⟩⟩
                        case measure => simp [intOf]; omega
                · have HEn : Aside (∀ (j : Nat) (e : Int), en[j]? = some e → (0 ≤ e ∧ e < th.length) ∧ (∀ x, th[e.toNat]? = some x → x.f1 = false) ∧ e ∉ en.take j) := ⟨fun k e he => HJ.out k e (by have := (List.getElem?_eq_some_iff.1 he).1; omega) he⟩
                  obtain ⟨lb, hlb⟩ := bool_cases (LnOkS ts cs)
                  have HLB := Aside.mk hlb
                  clear hlb
                  have HWx := HW.out.below hB.out
                  have HCl := Aside.mk (l16Loans_calls (.slice A0 th.length c0) (.slice A1 ts.length c1) (.slice A2 cs.length c2) (.slice A3 en.length c3) ts cs wo2 lb HWx.tables HWx.calls hl200 HLB.out)
                  clear HWx
                  have HF : Aside (b = true ↔ en.length = M ∧ LnOkS ts cs) := ⟨HB.out.trans ⟨fun h => ⟨by rw [← HM.out]; exact h.cnt, h.ln⟩, fun h => ⟨a0n, t1, t5, HT.out, HO.out, HTh.out, HEn.out, by rw [← HM.out] at h; exact h.1, h.2⟩⟩⟩
                  by_cases em : en.length = M
                  · subst em
                    go_wp2_with fail
                    refine HCl.out.mono ?_
                    rintro e w1 ⟨rfl, hb1⟩
                    have HB1 := Aside.mk hb1
                    clear hb1
                    go_wp2
                    go_ret
                    refine ⟨ret_b ?_, below_call hB.out (Nat.le_refl _) HB1.out⟩
                    rw [Bool.eq_iff_iff, HF.out, HLB.out]
                    simp
                  · have e1 : ((en.length : Int) == (M : Int)) = false := by simp; omega
                    have EM := Aside.mk em
                    clear em
                    go_wp2
                    go_ret
                    exact ⟨ret_f HF.out (fun h => EM.out h.1), hB.out⟩
end Go.Proofs.Ytidkmlolcfapdaa
