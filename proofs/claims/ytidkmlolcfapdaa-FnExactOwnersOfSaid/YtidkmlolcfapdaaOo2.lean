import Derived.Test.YtidkmlolcfapdaaOw
set_option linter.unusedVariables false
set_option linter.unusedSimpArgs false
namespace Go.Proofs.Ytidkmlolcfapdaa
open Go.RowKit
set_option maxHeartbeats 4000000 in
set_option maxRecDepth 100000 in
theorem ownersOfI_calls (v0 v1 v2 v3 : Value) (m : Wd) (x : Int) (w : World) (b : Bool) (h : RdW w v0 v1 v2 v3 m) (hb : b = true ↔ GWI m ∧ 0 ≤ x ∧ x < m.f0.length) :
    Calls Try.prog 11 #[.agg #[v0, v1, v2, v3], .int .i64 x] w fun e w' => ∃ v, e = .returned (.tuple #[v, .bool b]) ∧ RowI w' w.heap.size v (if b = true then owL m.f1 x else []) ∧ Below w.heap.size w w' := by
  obtain ⟨th, ts, cs, en⟩ := m
  have HW := Aside.mk h
  obtain ⟨gb, hgb⟩ := bool_cases (GWI ⟨th, ts, cs, en⟩)
  have HG := Aside.mk hgb
  have HB := Aside.mk hb
  obtain ⟨A0, c0, rfl, hl0, hm0, -⟩ := h.things
  simp only at hl0 hm0
  clear hgb hb h
  have hnil : ∀ w', RowI w' w.heap.size (.slice none 0 0) [] := fun w' => World.ownsRow_nil w' _ _ _
  have HN := Aside.mk hnil
  clear hnil
  go_enter Try.func11, Try.ntmps11
  go_wp2_with fail
  refine (goodWorldI_calls _ _ _ _ ⟨th, ts, cs, en⟩ _ gb (HW.out.below ((Below.refl _ _).alloc (Nat.le_refl _) _)) HG.out).mono ?_
  rintro e w1 ⟨rfl, hb1⟩
  have HB1 := Aside.mk hb1
  have hbx : Blk w1 w.heap.size #[.slice A0 th.length c0, v1, v2, v3] 35 := (Blk.new w _ _).below hb1
  have gx0 : w1.cell? ⟨w.heap.size, 0, none⟩ = some (.slice A0 th.length c0) := hbx.cell 0
  have HBX := Aside.mk hbx
  have hbw : Below w.heap.size w w1 := below_call ((Below.refl _ _).alloc (Nat.le_refl _) _) (Nat.le_refl _) hb1
  have HBW := Aside.mk hbw
  clear hbx hb1 hbw
  cases gb with
  | false =>
    have : b = false := by
      rw [Bool.eq_false_iff]; intro h; have := HG.out.2 (HB.out.1 h).1; cases this
    subst this
    go_wp2
    exact bodyPost_ret (v := .tuple #[.slice none 0 0, .bool false]) (by simp [results, Try.results11, go_sem]) rfl ⟨_, rfl, HN.out _, HBW.out⟩
  | true =>
    have hG := HG.out.1 rfl
    by_cases x0 : x < 0
    · have x0' := decide_eq_true x0
      have : b = false := by
        rw [Bool.eq_false_iff]; intro h; have := (HB.out.1 h).2.1; omega
      subst this
      clear hG
      go_wp2
      exact bodyPost_ret (v := .tuple #[.slice none 0 0, .bool false]) (by simp [results, Try.results11, go_sem]) rfl ⟨_, rfl, HN.out _, HBW.out⟩
    · have x0' := decide_eq_false x0
      by_cases x1 : x ≥ th.length
      · have x1' := decide_eq_true x1
        have : b = false := by
          rw [Bool.eq_false_iff]; intro h; have := (HB.out.1 h).2.2; omega
        subst this
        clear hG
        go_wp2
        exact bodyPost_ret (v := .tuple #[.slice none 0 0, .bool false]) (by simp [results, Try.results11, go_sem]) rfl ⟨_, rfl, HN.out _, HBW.out⟩
      · have x1' := decide_eq_false x1
        have : b = true := HB.out.2 ⟨hG, by omega, by omega⟩
        subst this
        have h5 : ts.length ≤ 5 := hG.t5
        have h40 : ∀ t ∈ ts, t.f0.length ≤ 40 := fun t ht => (hG.tg t ht).l40
        have H40 := Aside.mk h40
        clear hG h40
        go_wp2_with fail
        refine (owners_calls w.heap.size _ _ _ _ ts x w1 HBX.out (HW.out.tables.below HBW.out) h5 H40.out).mono ?_
        rintro e w2 ⟨v, rfl, hr, hb2⟩
        have HR : Aside (RowI w2 w.heap.size v (owL ts x)) := ⟨hr.base (fun k hk => by have := (hr.lt k hk).1; have := HBW.out.size; omega)⟩
        have HB2 := Aside.mk hb2
        clear hr hb2
        go_wp2
        exact bodyPost_ret (v := .tuple #[v, .bool true]) (by simp [results, Try.results11, go_sem]) rfl ⟨_, rfl, HR.out, below_call HBW.out (Nat.le_refl _) HB2.out⟩
set_option maxHeartbeats 8000000 in
set_option maxRecDepth 100000 in
theorem ownersOfS_calls (v0 v1 v2 v3 : Value) (m : Wd) (x : Int) (w : World) (b : Bool) (h : RdW w v0 v1 v2 v3 m) (hb : b = true ↔ GWS m ∧ 0 ≤ x ∧ x < m.f0.length) :
    Calls Try.prog 9 #[.agg #[v0, v1, v2, v3], .int .i64 x] w fun e w' => ∃ v, e = .returned (.tuple #[v, .bool b]) ∧ RowI w' w.heap.size v (if b = true then owL m.f1 x else []) ∧ Below w.heap.size w w' := by
  obtain ⟨th, ts, cs, en⟩ := m
  have HW := Aside.mk h
  obtain ⟨gb, hgb⟩ := bool_cases (GWS ⟨th, ts, cs, en⟩)
  have HG := Aside.mk hgb
  have HB := Aside.mk hb
  obtain ⟨A0, c0, rfl, hl0, hm0, -⟩ := h.things
  obtain ⟨A1, c1, rfl, hl1, hm1, g1⟩ := h.tables
  simp only at hl0 hm0 hl1 hm1 g1
  have H1 := Aside.mk g1
  clear hgb hb h g1
  have hnil : ∀ w', RowI w' w.heap.size (.slice none 0 0) [] := fun w' => World.ownsRow_nil w' _ _ _
  have HN := Aside.mk hnil
  clear hnil
  have G1 := Aside.mk (l1In_calls x 0 ((th.length : Int) - 1))
  have I0 : Aside (inB x 0 ((th.length : Int) - 1) = true ↔ 0 ≤ x ∧ x < th.length) := ⟨by rw [inB_iff]; omega⟩
  generalize hi0 : inB x 0 ((th.length : Int) - 1) = ib at G1 I0
  clear hi0
  go_enter Try.func9, Try.ntmps9
  go_wp2_with fail
  refine (goodWorldS_calls _ _ _ _ ⟨th, ts, cs, en⟩ _ gb (HW.out.below ((Below.refl _ _).alloc (Nat.le_refl _) _)) HG.out).mono ?_
  rintro e w1 ⟨rfl, hb1⟩
  have HB1 := Aside.mk hb1
  have hbx : Blk w1 w.heap.size #[.slice A0 th.length c0, .slice A1 ts.length c1, v2, v3] 35 := (Blk.new w _ _).below hb1
  have gx0 : w1.cell? ⟨w.heap.size, 0, none⟩ = some (.slice A0 th.length c0) := hbx.cell 0
  have gx1 : w1.cell? ⟨w.heap.size, 1, none⟩ = some (.slice A1 ts.length c1) := hbx.cell 1
  have HBX := Aside.mk hbx
  have hbw : Below w.heap.size w w1 := below_call ((Below.refl _ _).alloc (Nat.le_refl _) _) (Nat.le_refl _) hb1
  have HBW := Aside.mk hbw
  clear hbx hb1 hbw
  cases gb with
  | false =>
    have : b = false := by
      rw [Bool.eq_false_iff]; intro h; have := HG.out.2 (HB.out.1 h).1; cases this
    subst this
    go_wp2
    exact bodyPost_ret (v := .tuple #[.slice none 0 0, .bool false]) (by simp [results, Try.results9, go_sem]) rfl ⟨_, rfl, HN.out _, HBW.out⟩
  | true =>
    have hG := HG.out.1 rfl
    have h5 : ts.length ≤ 5 := hG.t5
    have h40 : ∀ t ∈ ts, t.f0.length ≤ 40 := fun t ht => (hG.tg t ht).l40
    have H40 := Aside.mk h40
    have HGG := Aside.mk hG
    clear hG h40
    go_wp2_with fail
    refine (G1.out _).mono ?_
    rintro e w2 ⟨rfl, rfl⟩
    cases ib with
    | false =>
      have : b = false := by
        rw [Bool.eq_false_iff]; intro h; have := I0.out.2 (HB.out.1 h).2; cases this
      subst this
      go_wp2
      exact bodyPost_ret (v := .tuple #[.slice none 0 0, .bool false]) (by simp [results, Try.results9, go_sem]) rfl ⟨_, rfl, HN.out _, HBW.out⟩
    | true =>
      have : b = true := HB.out.2 ⟨HGG.out, I0.out.1 rfl⟩
      subst this
      clear G1 I0 HG HGG
      go_wp2
      clear gx0
      have gc1 := Aside.mk gx1
      have HW1 := Aside.mk HBW.out
      clear gx1
      go_loopw [6, 26] (fun v5 v wr => ∃ p : Nat, v = .int .i64 p ∧ p ≤ ts.length ∧ RowI wr w.heap.size v5 (owP ts p x) ∧ Below w.heap.size w wr) (fun _ v _ => ts.length - (intOf v).toNat)
      case atStart => exact ⟨0, rfl, Nat.zero_le _, World.ownsRow_nil _ _ _ _, HBW.out⟩
      case round =>
        clear HBW gc1
        obtain ⟨p, rfl, hp, hR, hbw⟩ := hrel
        have HR := Aside.mk hR
        have HBW := Aside.mk hbw
        have hsz := hbw.size
        clear hR hbw
        by_cases hlt : p < ts.length
        · obtain ⟨t, ht⟩ : ∃ t, ts[p]? = some t := ⟨_, List.getElem?_eq_getElem hlt⟩
          obtain ⟨ad, s, f, rfl, hc, hs, hf⟩ := H1.out p t ht
          have Ht := Aside.mk ht
          have ht40 := H40.out t (List.mem_of_getElem? ht)
          clear ht
          have q0 := cell_old HBW.out hc.c0
          have q1 := cell_old HBW.out hc.c1
          clear hc
          obtain ⟨A2, c2, rfl, hl2, hm2, g2⟩ := hs
          obtain ⟨A3, c3, rfl, -, -, -⟩ := hf
          have H2 := Aside.mk g2
          have HN : Aside (owP ts (p + 1) x = owP ts p x ++ ow1 p t.f0 x) := ⟨owP_snoc Ht.out x⟩
          have hnl : (owP ts p x).length ≤ 40 * p := owP_len H40.out x p
          clear g2
          generalize hN : owP ts p x = N at HN hnl HR ⊢
          clear hN
          go_wp2
          obtain ⟨wo, rfl⟩ : ∃ wo : World, wo = wr := ⟨_, rfl⟩
          go_loopw [6, 34] (fun v5 v wr => ∃ q : Nat, v = .int .i64 q ∧ q ≤ t.f0.length ∧ RowI wr w.heap.size v5 (N ++ ow1 p (t.f0.take q) x) ∧ Below w.heap.size w wr) (fun _ v _ => t.f0.length - (intOf v).toNat)
          case atStart => exact ⟨0, rfl, Nat.zero_le _, by simpa [ow1] using HR.out.below ((Below.refl _ _).alloc (Nat.le_refl _) _), HBW.out.alloc HBW.out.size _⟩
          case round =>
            clear q0 q1 HR HBW hsz
            obtain ⟨q, rfl, hq, hR, hbw⟩ := hrel
            have HR := Aside.mk hR
            have HBW := Aside.mk hbw
            have hsz := hbw.size
            clear hR hbw
            by_cases hql : q < t.f0.length
            · obtain ⟨h, hx⟩ : ∃ x, t.f0[q]? = some x := ⟨_, List.getElem?_eq_getElem hql⟩
              obtain ⟨ad2, rfl, hc⟩ := (H2.out.below HBW.out) q h hx
              have Hx := Aside.mk hx
              clear hx
              obtain ⟨u, r, rp, o, l, s⟩ := h
              have q0 := hc.c0
              have q1 := hc.c1
              have q2 := hc.c2
              have q3 := hc.c3
              have q4 := hc.c4
              have q5 := hc.c5
              clear hc
              have HS : Aside (ow1 p (t.f0.take (q + 1)) x = ow1 p (t.f0.take q) x ++ (if ((u && o) && rp == x) = true then [(p : Int)] else [])) := ⟨ow1_snoc Hx.out x⟩
              have hol : (ow1 p (t.f0.take q) x).length ≤ 40 := Nat.le_trans (ow1_len _ _ _) (by rw [List.length_take]; omega)
              have HR1 : Aside (∀ ob, RowI (wr.alloc ob) w.heap.size _ (N ++ ow1 p (t.f0.take q) x)) := ⟨fun ob => HR.out.below ((Below.refl _ _).alloc (Nat.le_refl _) ob)⟩
              generalize hM : ow1 p (t.f0.take q) x = M at HS hol HR1
              clear hM
              have hskip : ∀ v5, ((u && o) && rp == x) = false → ∀ ob, RowI (wr.alloc ob) w.heap.size v5 (N ++ M) → RowI (wr.alloc ob) w.heap.size v5 (N ++ ow1 p (t.f0.take (q + 1)) x) := fun v5 hf ob hr => by
                rw [HS.out, hf]; simpa using hr
              have HSK := Aside.mk hskip
              clear hskip
              cases u with
              | false =>
                go_wp2
                go_roundw
                case rel => exact ⟨q + 1, by go_num, by omega, HSK.out _ rfl _ (HR1.out _), HBW.out.alloc HBW.out.size _⟩
                case measure => simp [intOf]; omega
              | true =>
                cases o with
                | false =>
                  go_wp2
                  go_roundw
                  case rel => exact ⟨q + 1, by go_num, by omega, HSK.out _ rfl _ (HR1.out _), HBW.out.alloc HBW.out.size _⟩
                  case measure => simp [intOf]; omega
                | true =>
                  by_cases e : rp = x
                  · subst e
                    have HSP : Aside (ow1 p (t.f0.take (q + 1)) rp = M ++ [(p : Int)]) := ⟨by rw [HS.out]; simp⟩
                    obtain ⟨i0, hi0, hz0, hs0, hb0⟩ := info3
                    go_wp2_with (first
                      | (at_builtin; refine wpList_append_own_at _ rfl _ _ 25 rfl w.heap.size 3 i0 (.int .i64 0) 1 8 under25 hi0 hz0 hs0 hb0 rfl (by decide) _ _ _ rfl ((HR1.out _).alloc _) ⟨_, 0, none⟩ 1 1 [.int .i64 p] rfl rfl (cell_one_at (wr.alloc _) _ _ _ (by simp)) (by intro u hu; simp at hu; subst hu; rfl) (by rw [List.length_append]; unfold maxLen; omega) (by rw [List.length_append]; omega) (by simp; omega) ?_
                         intro v' w1 hown' hgrow hnil hloc
                         have HOWN := Aside.mk hown'
                         have HGR := Aside.mk hgrow
                         clear hown' hgrow hnil hloc)
                      | go_in)
                    have hown' := HOWN.out
                    have hgrow := HGR.out
                    have B2 : Below w.heap.size w w1 := by
                      refine ((HBW.out.alloc HBW.out.size _).alloc ?_ _).grown hgrow ?_ ?_
                      · simp; omega
                      · simp; omega
                      · intro k hk
                        exact (HR.out.lt k hk).1
                    have HR2 : Aside (RowI w1 w.heap.size v' (N ++ ow1 p (t.f0.take (q + 1)) rp)) := ⟨by
                      rw [HSP.out, ← List.append_assoc]
                      have h := hown'
                      unfold RowI Row
                      rw [encI_snoc, List.length_append]
                      exact h⟩
                    have HB2 := Aside.mk B2
                    go_roundw
                    case rel => exact ⟨q + 1, by go_num, by omega, HR2.out, HB2.out⟩
                    case measure => simp [intOf]; omega
                  · have e' : (rp == x) = false := by simpa using e
                    clear e
                    go_wp2
                    go_roundw
                    case rel => exact ⟨q + 1, by go_num, by omega, HSK.out _ (by rw [e']; rfl) _ (HR1.out _), HBW.out.alloc HBW.out.size _⟩
                    case measure => simp [intOf]; omega
            · have hke : t.f0.take q = t.f0 := List.take_of_length_le (by omega)
              rw [hke, ← HN.out] at HR
              clear hke
              go_wp2
              go_roundw
              case rel => exact ⟨p + 1, by go_num, by omega, HR.out, HBW.out⟩
              case measure => simp [intOf]; omega
        · have hke : p = ts.length := by omega
          go_wp2
          exact bodyPost_ret (v := .tuple #[u6, .bool true]) (by simp [results, Try.results9, go_sem]) rfl ⟨_, rfl, by have := HR.out; rw [hke] at this; exact this, HBW.out⟩
end Go.Proofs.Ytidkmlolcfapdaa
