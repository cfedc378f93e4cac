import Derived.Test.YtidkmlolcfapdaaOo2
set_option linter.unusedVariables false
set_option linter.unusedSimpArgs false
namespace Go.Proofs.Ytidkmlolcfapdaa
open Go.RowKit
/-! The law's counting of its arguments. -/
set_option maxHeartbeats 400000 in
theorem sz33_calls {α : Type} (enc : α → List Value) (sz : Nat) (v : Value) (l : List α) (left : Int) (w : World) (h : RdS enc sz w v l) (h0 : 0 ≤ left) (h1 : left ≤ 1048576) :
    Calls Try.prog 33 #[v, .int .i64 left] w fun e w' => ∃ r : Int, e = .returned (.int .i64 r) ∧ (r < 0 ∨ 0 ≤ r ∧ r + l.length = left) ∧ w = w' := by
  obtain ⟨A, c, rfl, hl, hm, -⟩ := h
  by_cases c0 : left - l.length < 0
  · have c0' := decide_eq_true c0
    go_enter Try.func33, Try.ntmps33
    go_wp2
    go_ret
    exact ⟨-1, rfl, .inl (by omega), rfl⟩
  · have c0' := decide_eq_false c0
    go_enter Try.func33, Try.ntmps33
    go_wp2
    go_ret
    exact ⟨_, rfl, .inr ⟨by omega, by omega⟩, rfl⟩
set_option maxHeartbeats 400000 in
theorem sz35_calls {α : Type} (enc : α → List Value) (sz : Nat) (v : Value) (l : List α) (left : Int) (w : World) (h : RdS enc sz w v l) (h0 : 0 ≤ left) (h1 : left ≤ 1048576) :
    Calls Try.prog 35 #[v, .int .i64 left] w fun e w' => ∃ r : Int, e = .returned (.int .i64 r) ∧ (r < 0 ∨ 0 ≤ r ∧ r + l.length = left) ∧ w = w' := by
  obtain ⟨A, c, rfl, hl, hm, -⟩ := h
  by_cases c0 : left - l.length < 0
  · have c0' := decide_eq_true c0
    go_enter Try.func35, Try.ntmps35
    go_wp2
    go_ret
    exact ⟨-1, rfl, .inl (by omega), rfl⟩
  · have c0' := decide_eq_false c0
    go_enter Try.func35, Try.ntmps35
    go_wp2
    go_ret
    exact ⟨_, rfl, .inr ⟨by omega, by omega⟩, rfl⟩
set_option maxHeartbeats 400000 in
theorem sz36_calls {α : Type} (enc : α → List Value) (sz : Nat) (v : Value) (l : List α) (left : Int) (w : World) (h : RdS enc sz w v l) (h0 : 0 ≤ left) (h1 : left ≤ 1048576) :
    Calls Try.prog 36 #[v, .int .i64 left] w fun e w' => ∃ r : Int, e = .returned (.int .i64 r) ∧ (r < 0 ∨ 0 ≤ r ∧ r + l.length = left) ∧ w = w' := by
  obtain ⟨A, c, rfl, hl, hm, -⟩ := h
  by_cases c0 : left - l.length < 0
  · have c0' := decide_eq_true c0
    go_enter Try.func36, Try.ntmps36
    go_wp2
    go_ret
    exact ⟨-1, rfl, .inl (by omega), rfl⟩
  · have c0' := decide_eq_false c0
    go_enter Try.func36, Try.ntmps36
    go_wp2
    go_ret
    exact ⟨_, rfl, .inr ⟨by omega, by omega⟩, rfl⟩
set_option maxHeartbeats 400000 in
theorem sz100_calls {α : Type} (enc : α → List Value) (sz : Nat) (v : Value) (l : List α) (left : Int) (w : World) (h : RdS enc sz w v l) (h0 : 0 ≤ left) (h1 : left ≤ 1048576) :
    Calls Try.prog 100 #[v, .int .i64 left] w fun e w' => ∃ r : Int, e = .returned (.int .i64 r) ∧ (r < 0 ∨ 0 ≤ r ∧ r + l.length = left) ∧ w = w' := by
  obtain ⟨A, c, rfl, hl, hm, -⟩ := h
  by_cases c0 : left - l.length < 0
  · have c0' := decide_eq_true c0
    go_enter Try.func100, Try.ntmps100
    go_wp2
    go_ret
    exact ⟨-1, rfl, .inl (by omega), rfl⟩
  · have c0' := decide_eq_false c0
    go_enter Try.func100, Try.ntmps100
    go_wp2
    go_ret
    exact ⟨_, rfl, .inr ⟨by omega, by omega⟩, rfl⟩
set_option maxHeartbeats 1000000 in
theorem sz71_calls (vs vf : Value) (t : T) (left : Int) (w : World) (h : RdS encH 6 w vs t.f0) (hf : RdS encI 1 w vf t.f1) (h0 : 0 ≤ left) (h1 : left ≤ 1048576) :
    Calls Try.prog 71 #[.agg #[vs, vf], .int .i64 left] w fun e w' => ∃ r : Int, e = .returned (.int .i64 r) ∧ (r < 0 ∨ 0 ≤ r ∧ r + (t.f0.length + t.f1.length : Nat) = left) ∧ Below w.heap.size w w' := by
  have HS := Aside.mk h
  have HF := Aside.mk hf
  obtain ⟨A, c, rfl, -⟩ := h
  obtain ⟨A2, c2, rfl, -⟩ := hf
  go_enter Try.func71, Try.ntmps71
  go_wp2_with fail
  refine (sz100_calls _ _ _ _ left _ (HS.out.below ((Below.refl _ _).alloc (Nat.le_refl _) _)) h0 h1).mono ?_
  rintro e w1 ⟨r, rfl, hr, rfl⟩
  by_cases c0 : r < 0
  · have c0' := decide_eq_true c0
    go_wp2
    go_ret
    exact ⟨-1, rfl, .inl (by omega), (Below.refl _ _).alloc (Nat.le_refl _) _⟩
  · have c0' := decide_eq_false c0
    have hr' : r + t.f0.length = left := by omega
    clear hr
    go_wp2_with fail
    refine (sz36_calls _ _ _ _ r _ (HF.out.below ((Below.refl _ _).alloc (Nat.le_refl _) _)) (by omega) (by omega)).mono ?_
    rintro e w1 ⟨r2, rfl, hr2, rfl⟩
    by_cases c1 : r2 < 0
    · have c1' := decide_eq_true c1
      go_wp2
      go_ret
      exact ⟨-1, rfl, .inl (by omega), (Below.refl _ _).alloc (Nat.le_refl _) _⟩
    · have c1' := decide_eq_false c1
      go_wp2
      go_ret
      exact ⟨_, rfl, .inr ⟨by omega, by omega⟩, (Below.refl _ _).alloc (Nat.le_refl _) _⟩
def totT (ts : List T) : Nat := (ts.map (fun t => t.f0.length + t.f1.length)).sum
theorem totT_snoc {ts : List T} {p : Nat} {t : T} (h : ts[p]? = some t) : totT (ts.take (p + 1)) = totT (ts.take p) + (t.f0.length + t.f1.length) := by
  unfold totT
  rw [take_snoc h]
  simp
set_option maxHeartbeats 2000000 in
set_option maxRecDepth 100000 in
theorem sz34_calls (v : Value) (ts : List T) (left : Int) (w : World) (h : RdTs w v ts) (h0 : 0 ≤ left) (h1 : left ≤ 1048576) :
    Calls Try.prog 34 #[v, .int .i64 left] w fun e w' => ∃ r : Int, e = .returned (.int .i64 r) ∧ (r < 0 ∨ 0 ≤ r ∧ r + (ts.length + totT ts : Nat) = left) ∧ Below w.heap.size w w' := by
  obtain ⟨A, c, rfl, hl, hm, g⟩ := h
  have H1 := Aside.mk g
  clear g
  by_cases c0 : left - ts.length < 0
  · have c0' := decide_eq_true c0
    go_enter Try.func34, Try.ntmps34
    go_wp2
    go_ret
    exact ⟨-1, rfl, .inl (by omega), Below.refl _ _⟩
  · have c0' := decide_eq_false c0
    go_enter Try.func34, Try.ntmps34
    go_wp2
    go_loopw [1, 5] (fun v1 v wr => ∃ (p : Nat) (r : Int), v = .int .i64 p ∧ v1 = .int .i64 r ∧ p ≤ ts.length ∧ 0 ≤ r ∧ r + (ts.length + totT (ts.take p) : Nat) = left ∧ Below w.heap.size w wr) (fun _ v _ => ts.length - (intOf v).toNat)
    case atStart => exact ⟨0, left - ts.length, rfl, rfl, Nat.zero_le _, by omega, by simp [totT], Below.refl _ _⟩
    case round =>
      obtain ⟨p, r, rfl, rfl, hp, hr, he, hb⟩ := hrel
      have HB := Aside.mk hb
      clear hb
      by_cases hlt : p < ts.length
      · obtain ⟨t, ht⟩ : ∃ t, ts[p]? = some t := ⟨_, List.getElem?_eq_getElem hlt⟩
        obtain ⟨ad, s, f, rfl, hc, hs, hf⟩ := (H1.out.below HB.out) p t ht
        have HT : Aside (totT (ts.take (p + 1)) = totT (ts.take p) + (t.f0.length + t.f1.length)) := ⟨totT_snoc ht⟩
        have q0 := hc.c0
        have q1 := hc.c1
        have HS := Aside.mk hs
        have HF := Aside.mk hf
        obtain ⟨A3, c3, rfl, -⟩ := hs
        obtain ⟨A4, c4, rfl, -⟩ := hf
        clear hc ht
        generalize hN : totT (ts.take p) = N at he HT
        clear hN
        go_wp2_with fail
        refine (sz71_calls _ _ t r _ HS.out HF.out hr (by omega)).mono ?_
        rintro e w1 ⟨r2, rfl, hr2, hb1⟩
        have HB1 := Aside.mk hb1
        clear hb1
        by_cases c1 : r2 < 0
        · have c1' := decide_eq_true c1
          go_wp2
          go_ret
          exact ⟨-1, rfl, .inl (by omega), below_call HB.out (Nat.le_refl _) HB1.out⟩
        · have c1' := decide_eq_false c1
          have hr3 : r2 + (t.f0.length + t.f1.length : Nat) = r := by omega
          clear hr2
          go_wp2
          go_roundw
          case rel => exact ⟨p + 1, r2, by go_num, rfl, by omega, by omega, by rw [HT.out]; omega, below_call HB.out (Nat.le_refl _) HB1.out⟩
          case measure => simp [intOf]; omega
      · have hke : ts.take p = ts := List.take_of_length_le (by omega)
        rw [hke] at he
        clear hke
        go_wp2
        go_ret
        exact ⟨_, rfl, .inr ⟨hr, he⟩, HB.out⟩
set_option maxHeartbeats 2000000 in
theorem szWorld_calls (v0 v1 v2 v3 : Value) (m : Wd) (w : World) (h : RdW w v0 v1 v2 v3 m) :
    Calls Try.prog 8 #[.agg #[v0, v1, v2, v3], .int .i64 1048576] w fun e w' => ∃ r : Int, e = .returned (.int .i64 r) ∧ (r < 0 ∨ 0 ≤ r ∧ r + (m.f0.length + (m.f1.length + totT m.f1) + m.f2.length + m.f3.length : Nat) = 1048576) ∧ Below w.heap.size w w' := by
  obtain ⟨th, ts, cs, en⟩ := m
  have HW := Aside.mk h
  obtain ⟨A0, c0, rfl, -⟩ := h.things
  obtain ⟨A1, c1, rfl, -⟩ := h.tables
  obtain ⟨A2, c2, rfl, -⟩ := h.calls
  obtain ⟨A3, c3, rfl, -⟩ := h.ended
  simp only at HW ⊢
  clear h
  have HA : ∀ ob, Below w.heap.size w (w.alloc ob) := fun ob => (Below.refl _ _).alloc (Nat.le_refl _) ob
  have HAL := Aside.mk HA
  clear HA
  go_enter Try.func8, Try.ntmps8
  go_wp2_with fail
  refine (sz33_calls _ _ _ _ 1048576 _ (HW.out.things.below (HAL.out _)) (by omega) (by omega)).mono ?_
  rintro e w1 ⟨r, rfl, hr, rfl⟩
  by_cases k0 : r < 0
  · have k0' := decide_eq_true k0
    go_wp2
    go_ret
    exact ⟨-1, rfl, .inl (by omega), HAL.out _⟩
  · have k0' := decide_eq_false k0
    have e0 : r + th.length = 1048576 := by simp only at hr; omega
    clear hr
    go_wp2_with fail
    refine (sz34_calls _ ts r _ (HW.out.tables.below (HAL.out _)) (by omega) (by omega)).mono ?_
    rintro e w1 ⟨r1, rfl, hr, hb1⟩
    have HB1 : Aside (Below w.heap.size w w1) := ⟨below_call (HAL.out _) (Nat.le_refl _) hb1⟩
    have hbx : Blk w1 w.heap.size #[.slice A0 th.length c0, .slice A1 ts.length c1, .slice A2 cs.length c2, .slice A3 en.length c3] 27 := (Blk.new w _ _).below hb1
    have g2 : w1.cell? ⟨w.heap.size, 2, none⟩ = some (.slice A2 cs.length c2) := hbx.cell 2
    have g3 : w1.cell? ⟨w.heap.size, 3, none⟩ = some (.slice A3 en.length c3) := hbx.cell 3
    clear hb1 hbx
    by_cases k1 : r1 < 0
    · have k1' := decide_eq_true k1
      go_wp2
      go_ret
      exact ⟨-1, rfl, .inl (by omega), HB1.out⟩
    · have k1' := decide_eq_false k1
      have e1 : r1 + (ts.length + totT ts : Nat) = r := by omega
      clear hr
      go_wp2_with fail
      refine (sz35_calls _ _ _ _ r1 _ (HW.out.calls.below HB1.out) (by omega) (by omega)).mono ?_
      rintro e w2 ⟨r2, rfl, hr, rfl⟩
      by_cases k2 : r2 < 0
      · have k2' := decide_eq_true k2
        go_wp2
        go_ret
        exact ⟨-1, rfl, .inl (by omega), HB1.out⟩
      · have k2' := decide_eq_false k2
        have e2 : r2 + cs.length = r1 := by simp only at hr; omega
        clear hr
        go_wp2_with fail
        refine (sz36_calls _ _ _ _ r2 _ (HW.out.ended.below HB1.out) (by omega) (by omega)).mono ?_
        rintro e w2 ⟨r3, rfl, hr, rfl⟩
        by_cases k3 : r3 < 0
        · have k3' := decide_eq_true k3
          go_wp2
          go_ret
          exact ⟨-1, rfl, .inl (by omega), HB1.out⟩
        · have k3' := decide_eq_false k3
          have e3 : r3 + en.length = r2 := by simp only at hr; omega
          clear hr
          go_wp2
          go_ret
          exact ⟨_, rfl, .inr ⟨by omega, by omega⟩, HB1.out⟩
end Go.Proofs.Ytidkmlolcfapdaa
