import Derived.Test.YtidkmlolcfapdaaLo
set_option linter.unusedVariables false
set_option linter.unusedSimpArgs false
namespace Go.Proofs.Ytidkmlolcfapdaa
open Go.RowKit
/-- A world is good, as the program looks. -/
structure GWI (m : Wd) : Prop where
  t1 : 1 ≤ m.f1.length
  t5 : m.f1.length ≤ 5
  cn : m.f2.length ≤ 200
  tg : ∀ t ∈ m.f1, TOk t.f0 t.f1
  th : ThOk m.f0 m.f3
  ow : OwOk m.f1 m.f0
  ln : LnOk m.f1 m.f2
theorem TOk.pos {sl : List H} {fr : List Int} (h : TOk sl fr) : ∀ x ∈ sl, x.f0 = true → 0 ≤ x.f2 := by
  intro x hx hu
  obtain ⟨k, hk⟩ := List.getElem?_of_mem hx
  have h1 : (k : Int) ∉ fr := fun hm => by
    have := (h.z k x hk).1 hm
    rw [this] at hu
    cases hu
  have := h.s k x hk h1
  simp only [soundB, Bool.and_eq_true, decide_eq_true_eq] at this
  omega
theorem bool_cases (p : Prop) : ∃ b : Bool, b = true ↔ p := by
  by_cases h : p
  · exact ⟨true, by simp [h]⟩
  · exact ⟨false, by simp [h]⟩
set_option maxHeartbeats 1000000 in
theorem goodWorldI_calls (v0 v1 v2 v3 : Value) (m : Wd) (w : World) (b : Bool) (h : RdW w v0 v1 v2 v3 m) (hb : b = true ↔ GWI m) :
    Calls Try.prog 21 #[.agg #[v0, v1, v2, v3]] w fun e w' => e = .returned (.bool b) ∧ Below w.heap.size w w' := by
  obtain ⟨th, ts, cs, en⟩ := m
  have HW := Aside.mk h
  obtain ⟨h0, h1, h2, h3⟩ := h
  have h1' := h1
  obtain ⟨A1, c1, rfl, hl1, hm1, g1⟩ := h1
  obtain ⟨A2, c2, rfl, hl2, hm2, g2⟩ := h2
  have H1 := Aside.mk g1
  have HB := Aside.mk hb
  clear g1 g2 hb h0 h3 h1'
  by_cases a0 : (ts.length : Int) < 1
  · have a0' := decide_eq_true a0
    go_enter Try.func21, Try.ntmps21
    go_wp2
    go_ret
    exact ⟨ret_f HB.out (fun h => by have := h.t1; simp only at this; omega), (Below.refl _ _).alloc (Nat.le_refl _) _⟩
  · have a0' := decide_eq_false a0
    by_cases a1 : (ts.length : Int) > 5
    · have a1' := decide_eq_true a1
      go_enter Try.func21, Try.ntmps21
      go_wp2
      go_ret
      exact ⟨ret_f HB.out (fun h => by have := h.t5; simp only at this; omega), (Below.refl _ _).alloc (Nat.le_refl _) _⟩
    · have a1' := decide_eq_false a1
      by_cases a2 : (cs.length : Int) > 200
      · have a2' := decide_eq_true a2
        go_enter Try.func21, Try.ntmps21
        go_wp2
        go_ret
        exact ⟨ret_f HB.out (fun h => by have := h.cn; simp only at this; omega), (Below.refl _ _).alloc (Nat.le_refl _) _⟩
      · have a2' := decide_eq_false a2
        go_enter Try.func21, Try.ntmps21
        go_wp2
        go_loopw [24] (fun v wr => ∃ p : Nat, v = .int .i64 p ∧ p ≤ ts.length ∧ Below w.heap.size w wr ∧ w.heap.size < wr.heap.size ∧ Blk wr w.heap.size #[v0, .slice A1 ts.length c1, .slice A2 cs.length c2, v3] 35 ∧ ∀ t ∈ ts.take p, TOk t.f0 t.f1) (fun v _ => ts.length - (intOf v).toNat)
        case atStart => exact ⟨0, rfl, Nat.zero_le _, (Below.refl _ _).alloc (Nat.le_refl _) _, by simp, Blk.new w _ _, by simp⟩
        case round =>
          obtain ⟨p, rfl, hp, hbw, hsz, hblk, htk⟩ := hrel
          have HBW := Aside.mk hbw
          have HBK := Aside.mk hblk
          have HTK := Aside.mk htk
          clear hbw hblk htk
          by_cases hlt : p < ts.length
          · obtain ⟨t, ht⟩ : ∃ t, ts[p]? = some t := ⟨_, List.getElem?_eq_getElem hlt⟩
            obtain ⟨ad, s, f, rfl, hc, hs, hf⟩ := H1.out p t ht
            have Ht := Aside.mk ht
            have HS := Aside.mk hs
            have HF := Aside.mk hf
            have q0 := cell_old HBW.out hc.c0
            have q1 := cell_old HBW.out hc.c1
            have q0' : ∀ o, (wr.alloc o).cell? (ad.add (p * 2)) = some s := fun o => cell_old ((Below.refl _ _).alloc (Nat.le_refl _) _) q0
            clear hc ht hs hf
            obtain ⟨A3, c3, rfl, -, -, -⟩ := HS.out
            obtain ⟨A4, c4, rfl, -, -, -⟩ := HF.out
            obtain ⟨bt, hbt⟩ := bool_cases (TOk t.f0 t.f1)
            have HBT := Aside.mk hbt
            clear hbt
            have BA : Aside (∀ o, Below w.heap.size w (wr.alloc o)) := ⟨fun o => HBW.out.alloc HBW.out.size o⟩
            go_wp2_with fail
            refine (goodTable_calls _ _ t.f0 t.f1 _ bt (HS.out.below (BA.out _)) (HF.out.below (BA.out _)) HBT.out).mono ?_
            rintro e w1 ⟨rfl, hb1⟩
            have B1 : Aside (Below w.heap.size w w1) := ⟨below_call (BA.out _) (Nat.le_refl _) hb1⟩
            have K1 : Aside (Blk w1 w.heap.size #[v0, .slice (some ad) ts.length c1, .slice A2 cs.length c2, v3] 35) := ⟨(HBK.out.alloc _).below hb1⟩
            have hz1 : w.heap.size < w1.heap.size := K1.out.lt
            clear hb1
            cases bt with
            | false =>
              go_wp2
              go_ret
              exact ⟨ret_f HB.out (fun h => by have := HBT.out.2 (h.tg t (List.mem_of_getElem? Ht.out)); cases this), B1.out⟩
            | true =>
              go_wp2
              go_roundw
              case rel => exact ⟨p + 1, by go_num, by omega, B1.out, hz1, K1.out, fun x hx => by
                rw [take_snoc Ht.out] at hx
                rcases List.mem_append.1 hx with hx | hx
                · exact HTK.out x hx
                · rw [List.mem_singleton.1 hx]; exact HBT.out.1 (by simp)⟩
              case measure => simp [intOf]; omega
          · have hke : ts.take p = ts := List.take_of_length_le (by omega)
            have HT : Aside (∀ t ∈ ts, TOk t.f0 t.f1) := ⟨by rw [← hke]; exact HTK.out⟩
            clear hke
            obtain ⟨b1, hb1⟩ := bool_cases (ThOk th en)
            obtain ⟨b2, hb2⟩ := bool_cases (OwOk ts th)
            obtain ⟨b3, hb3⟩ := bool_cases (LnOk ts cs)
            have HB1 := Aside.mk hb1
            have HB2 := Aside.mk hb2
            have HB3 := Aside.mk hb3
            clear hb1 hb2 hb3
            go_wp2_with fail
            refine (thingsOk_calls w.heap.size _ _ _ _ th en _ b1 HBK.out (HW.out.things.below HBW.out) (HW.out.ended.below HBW.out) HB1.out).mono ?_
            rintro e w1 ⟨rfl, hc1⟩
            have B1 : Aside (Below w.heap.size w w1) := ⟨below_call HBW.out (Nat.le_refl _) hc1⟩
            have K1 : Aside (Blk w1 w.heap.size _ 35) := ⟨HBK.out.below hc1⟩
            clear hc1
            cases b1 with
            | false =>
              go_wp2
              go_ret
              exact ⟨ret_f HB.out (fun h => by have := HB1.out.2 h.th; cases this), B1.out⟩
            | true =>
              go_wp2_with fail
              refine (ownersOk_calls w.heap.size _ _ _ _ th ts _ b2 K1.out (HW.out.things.below B1.out) (HW.out.tables.below B1.out) (HB1.out.1 (by simp)).l40 (fun t ht => (HT.out t ht).pos) HB2.out).mono ?_
              rintro e w2 ⟨rfl, hc2⟩
              have B2 : Aside (Below w.heap.size w w2) := ⟨below_call B1.out (Nat.le_refl _) hc2⟩
              have K2 : Aside (Blk w2 w.heap.size _ 35) := ⟨K1.out.below hc2⟩
              clear hc2
              cases b2 with
              | false =>
                go_wp2
                go_ret
                exact ⟨ret_f HB.out (fun h => by have := HB2.out.2 h.ow; cases this), B2.out⟩
              | true =>
                go_wp2_with fail
                refine (loansOk_calls w.heap.size _ _ _ _ ts cs _ b3 K2.out (HW.out.tables.below B2.out) (HW.out.calls.below B2.out) HB3.out).mono ?_
                rintro e w3 ⟨rfl, hc3⟩
                have B3 : Aside (Below w.heap.size w w3) := ⟨below_call B2.out (Nat.le_refl _) hc3⟩
                clear hc3
                go_wp2
                go_ret
                refine ⟨ret_b ?_, B3.out⟩
                rw [Bool.eq_iff_iff, HB.out, HB3.out]
                exact ⟨fun h => ⟨by simp only; omega, by simp only; omega, by simp only; omega, HT.out, HB1.out.1 (by simp), HB2.out.1 (by simp), h⟩, fun h => h.ln⟩
end Go.Proofs.Ytidkmlolcfapdaa
