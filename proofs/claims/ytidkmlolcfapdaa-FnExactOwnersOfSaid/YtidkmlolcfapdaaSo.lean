import Derived.Test.YtidkmlolcfapdaaSu
import Derived.Deep.DeepCutAuto
set_option linter.unusedVariables false
set_option linter.unusedSimpArgs false
namespace Go.Proofs.Ytidkmlolcfapdaa
open Go.RowKit
def boru (h : H) : Bool := h.f0 && !h.f3
/-- Loans are right, as the reference looks. -/
structure LnOkS (ts : List T) (cs : List L) : Prop where
  loan : ∀ (i : Nat) (l : L), cs[i]? = some l → LoanI ts i l
  slot : ∀ (p k : Nat) (t : T) (h : H), ts[p]? = some t → t.f0[k]? = some h → h.f0 = true → h.f4 = (if h.f3 = true then (cntZ cs p k : Int) else 0)
  cnt : (slotsOf ts).countP boru = cs.length
theorem slotv_T {ts : List T} {p : Nat} {t : T} (k : Int) (h : ts[p]? = some t) : slotv ts p k = slotT t.f0 k := by
  unfold slotv slotT
  by_cases c : 0 ≤ k
  · simp [c, h]
  · simp [c]
theorem LoanI.rng {ts : List T} {i : Nat} {l : L} (h : LoanI ts i l) : 0 ≤ l.f0 ∧ l.f0 < ts.length ∧ 0 ≤ l.f2 ∧ l.f2 < ts.length := by
  have key : ∀ p k : Int, ((slotv ts p k).getD zH).f0 = true → 0 ≤ p ∧ p < ts.length := by
    intro p k hh
    unfold slotv at hh
    split at hh
    · rename_i c
      refine ⟨c.1, ?_⟩
      have : p.toNat < ts.length := by
        rcases Nat.lt_or_ge p.toNat ts.length with h | h
        · exact h
        · rw [List.getElem?_eq_none h] at hh; cases hh
      omega
    · cases hh
  have a := key _ _ h.a0
  have b := key _ _ h.b0
  exact ⟨a.1, a.2, b.1, b.2⟩
/-- Slots ahead of a place are right, as the reference looks. -/
def SlS (ts : List T) (cs : List L) (p q : Nat) : Prop := ∀ (p' k' : Nat) (t : T) (h : H), (p' < p ∨ p' = p ∧ k' < q) → ts[p']? = some t → t.f0[k']? = some h → h.f0 = true → h.f4 = (if h.f3 = true then (cntZ cs p' k' : Int) else 0)
theorem SlS.step {ts : List T} {cs : List L} {p q : Nat} {t : T} {h : H} (s : SlS ts cs p q) (ht : ts[p]? = some t) (hh : t.f0[q]? = some h) (hc : h.f0 = true → h.f4 = (if h.f3 = true then (cntZ cs p q : Int) else 0)) : SlS ts cs p (q + 1) := by
  intro p' k' t' h' hlt ht' hh' hu
  by_cases e : p' = p ∧ k' = q
  · obtain ⟨rfl, rfl⟩ := e
    rw [ht] at ht'
    obtain rfl := Option.some.inj ht'
    rw [hh] at hh'
    obtain rfl := Option.some.inj hh'
    exact hc hu
  · exact s p' k' t' h' (by omega) ht' hh' hu
theorem SlS.next {ts : List T} {cs : List L} {p q : Nat} {t : T} (s : SlS ts cs p q) (ht : ts[p]? = some t) (hq : t.f0.length ≤ q) : SlS ts cs (p + 1) 0 := by
  intro p' k' t' h' hlt ht' hh' hu
  refine s p' k' t' h' ?_ ht' hh' hu
  by_cases e : p' = p
  · subst e
    rw [ht] at ht'
    obtain rfl := Option.some.inj ht'
    have := (List.getElem?_eq_some_iff.1 hh').1
    omega
  · omega
abbrev bW (g : Nat) (W : World) (v0 v1 v2 v3 : Value) (w : World) : Prop := Below w.heap.size w W ∧ Blk W g #[v0, v1, v2, v3] 35

set_option maxHeartbeats 20000000 in
set_option maxRecDepth 100000 in
theorem l16Loans_calls (v0 v1 v2 v3 : Value) (ts : List T) (cs : List L) (w : World) (b : Bool)
    (h1 : RdTs w v1 ts) (h2 : RdS encL 4 w v2 cs) (hbd : (slotsOf ts).length ≤ 200) (hb : b = true ↔ LnOkS ts cs) :
    Calls Try.prog 63 #[.agg #[v0, v1, v2, v3]] w fun e w' => e = .returned (.bool b) ∧ Below w.heap.size w w' := by
  obtain ⟨A1, c1, rfl, hl1, hm1, g1⟩ := h1
  obtain ⟨A2, c2, rfl, hl2, hm2, g2⟩ := h2
  have H1 := Aside.mk g1
  have H2 := Aside.mk g2
  have HB := Aside.mk hb
  have HD := Aside.mk hbd
  clear g1 g2 hb hbd
  go_enter Try.func63, Try.ntmps63
  go_wp2
  go_loopw [20] (fun v wr => ∃ k : Nat, v = .int .i64 k ∧ k ≤ cs.length ∧ Below w.heap.size w wr ∧ Blk wr w.heap.size #[v0, .slice A1 ts.length c1, .slice A2 cs.length c2, v3] 35 ∧ ∀ (i : Nat) (l : L), i < k → cs[i]? = some l → LoanI ts i l) (fun v _ => cs.length - (intOf v).toNat)
  case atStart => exact ⟨0, rfl, Nat.zero_le _, (Below.refl _ _).alloc (Nat.le_refl _) _, Blk.new w _ _, fun i l h => by omega⟩
  case round =>
    obtain ⟨k, rfl, hk, hbw, hblk, hok⟩ := hrel
    have HBW := Aside.mk hbw
    have HBK := Aside.mk hblk
    have HO := Aside.mk hok
    have hsz := hblk.lt
    have gw1 : wr.cell? ⟨w.heap.size, 1, none⟩ = some (.slice A1 ts.length c1) := hblk.cell 1
    clear hbw hblk hok
    by_cases hlt : k < cs.length
    · obtain ⟨l, hx⟩ : ∃ x, cs[k]? = some x := ⟨_, List.getElem?_eq_getElem hlt⟩
      obtain ⟨ad, rfl, hc⟩ := (H2.out.below HBW.out) k l hx
      have Hx := Aside.mk hx
      clear hx
      obtain ⟨l0, l1, l2, l3⟩ := l
      have q0 := hc.c0
      have q1 := hc.c1
      have q2 := hc.c2
      have q3 := hc.c3
      clear hc
      have BA : Aside (∀ o, Below w.heap.size w (wr.alloc o)) := ⟨fun o => HBW.out.alloc HBW.out.size o⟩
      have BK : Aside (∀ o, Blk (wr.alloc o) w.heap.size #[v0, .slice A1 ts.length c1, .slice (some ad) cs.length c2, v3] 35) := ⟨fun o => HBK.out.alloc o⟩
      have G1 := Aside.mk (l1In_calls l0 0 ((ts.length : Int) - 1))
      have G2 := Aside.mk (l1In_calls l2 0 ((ts.length : Int) - 1))
      have HR : Aside (LnOkS ts cs → inB l0 0 ((ts.length : Int) - 1) = true ∧ inB l2 0 ((ts.length : Int) - 1) = true) := ⟨fun h => by
        have := (h.loan k _ Hx.out).rng
        simp only at this
        exact ⟨inB_iff.2 ⟨by omega, by omega⟩, inB_iff.2 ⟨by omega, by omega⟩⟩⟩
      have I0 : Aside (inB l0 0 ((ts.length : Int) - 1) = true ↔ 0 ≤ l0 ∧ l0 < ts.length) := ⟨by rw [inB_iff]; omega⟩
      have I2 : Aside (inB l2 0 ((ts.length : Int) - 1) = true ↔ 0 ≤ l2 ∧ l2 < ts.length) := ⟨by rw [inB_iff]; omega⟩
      generalize hi0 : inB l0 0 ((ts.length : Int) - 1) = i0 at G1 HR I0
      generalize hi2 : inB l2 0 ((ts.length : Int) - 1) = i2 at G2 HR I2
      clear hi0 hi2
      go_wp2_with fail
      refine (G1.out _).mono ?_
      rintro e w1 ⟨rfl, rfl⟩
      cases i0 with
      | false =>
        go_wp2
        go_ret
        exact ⟨ret_f HB.out (fun h => by have := (HR.out h).1; simp at this), BA.out _⟩
      | true =>
        go_wp2_with fail
        refine (G2.out _).mono ?_
        rintro e w1 ⟨rfl, rfl⟩
        cases i2 with
        | false =>
          go_wp2
          go_ret
          exact ⟨ret_f HB.out (fun h => by have := (HR.out h).2; simp at this), BA.out _⟩
        | true =>
          obtain ⟨n0, n0'⟩ := I0.out.1 (by simp)
          obtain ⟨m0, m0'⟩ := I2.out.1 (by simp)
          obtain ⟨n, rfl⟩ := Int.eq_ofNat_of_zero_le n0
          obtain ⟨m, rfl⟩ := Int.eq_ofNat_of_zero_le m0
          clear G1 G2 HR I0 I2
          obtain ⟨t, ht⟩ : ∃ t, ts[n]? = some t := ⟨_, List.getElem?_eq_getElem (by omega)⟩
          obtain ⟨t', ht'⟩ : ∃ t', ts[m]? = some t' := ⟨_, List.getElem?_eq_getElem (by omega)⟩
          have H1w := H1.out.below HBW.out
          obtain ⟨ad1, s, f, rfl, hct, hst, -⟩ := H1w n t ht
          obtain ⟨ad2, s', f', e2, hct', hst', -⟩ := H1w m t' ht'
          obtain rfl := Option.some.inj e2
          clear e2 H1w
          generalize ha : (slotT t.f0 l1).getD zH = a
          generalize ha' : (slotT t'.f0 l3).getD zH = a'
          have HA := Lib.hid ha
          have HA' := Lib.hid ha'
          have HLv : Aside ((slotv ts n l1).getD zH = a ∧ (slotv ts m l3).getD zH = a') := ⟨by rw [slotv_T l1 ht, slotv_T l3 ht']; exact ⟨ha, ha'⟩⟩
          clear ha ha' ht ht'
          go_wp2_with fail
          obtain ⟨W, hW⟩ : ∃ W, W = wr.alloc (.cells #[.int .i64 (n : Int), .int .i64 l1, .int .i64 (m : Int), .int .i64 l3] 114) := ⟨_, rfl⟩
          have hbW : Below wr.heap.size wr W := by rw [hW]; exact (Below.refl _ _).alloc (Nat.le_refl _) _
          have d0 : W.cell? ⟨wr.heap.size, 0, none⟩ = some (.int .i64 (n : Int)) := by rw [hW]; go_simp
          have d1 : W.cell? ⟨wr.heap.size, 1, none⟩ = some (.int .i64 l1) := by rw [hW]; go_simp
          have d2 : W.cell? ⟨wr.heap.size, 2, none⟩ = some (.int .i64 (m : Int)) := by rw [hW]; go_simp
          have d3 : W.cell? ⟨wr.heap.size, 3, none⟩ = some (.int .i64 l3) := by rw [hW]; go_simp
          have dw := cell_old hbW gw1
          have t0 := cell_old hbW hct.c0
          have t1 := cell_old hbW hct.c1
          have t0' := cell_old hbW hct'.c0
          have t1' := cell_old hbW hct'.c1
          have HS := Aside.mk (hst.below hbW)
          have HS' := Aside.mk (hst'.below hbW)
          have BW := Aside.mk (BA.out (.cells #[.int .i64 (n : Int), .int .i64 l1, .int .i64 (m : Int), .int .i64 l3] 114))
          have BKW := Aside.mk (BK.out (.cells #[.int .i64 (n : Int), .int .i64 l1, .int .i64 (m : Int), .int .i64 l3] 114))
          rw [← hW] at BW BKW
          rw [← hW]
          have hWs : wr.heap.size < W.heap.size := by rw [hW]; simp
          clear hW hbW hct hct' hst hst' gw1 q0 q1 q2 q3 BA BK
          have HK2 : Aside (∀ w', Below W.heap.size W w' → Below W.heap.size W w' ∧ w'.cell? ⟨w.heap.size, 1, none⟩ = some (.slice (some ad1) ts.length c1) ∧ w'.cell? ⟨wr.heap.size, 2, none⟩ = some (.int .i64 (m : Int)) ∧ w'.cell? ⟨wr.heap.size, 3, none⟩ = some (.int .i64 l3) ∧ w'.cell? (ad1.add (m * 2)) = some s' ∧ w'.cell? ⟨(ad1.add (m * 2)).block, (ad1.add (m * 2)).off + 1, none⟩ = some f') := ⟨fun w' h => ⟨h, cell_old h dw, cell_old h d2, cell_old h d3, cell_old h t0', cell_old h t1'⟩⟩
          have HK1 : Aside (∀ w', Below W.heap.size W w' → Below W.heap.size W w' ∧ w'.cell? ⟨w.heap.size, 1, none⟩ = some (.slice (some ad1) ts.length c1) ∧ w'.cell? ⟨wr.heap.size, 0, none⟩ = some (.int .i64 (n : Int)) ∧ w'.cell? ⟨wr.heap.size, 1, none⟩ = some (.int .i64 l1) ∧ w'.cell? (ad1.add (n * 2)) = some s ∧ w'.cell? ⟨(ad1.add (n * 2)).block, (ad1.add (n * 2)).off + 1, none⟩ = some f) := ⟨fun w' h => ⟨h, cell_old h dw, cell_old h d0, cell_old h d1, cell_old h t0, cell_old h t1⟩⟩
          go_cut [5, 6] (fun v5 v6 wc => ∃ g, v5 = .pointer (some ⟨g, 0, none⟩) ∧ v6 = .bool a.f0 ∧ W.heap.size ≤ g ∧ Blk wc g #[.bool a.f0, .int .i64 a.f1, .int .i64 a.f2, .bool a.f3, .int .i64 a.f4, .int .i64 a.f5] 59 ∧ Below W.heap.size W wc)
          case first =>
            go_region_held3 (fun w' => Below W.heap.size W w' ∧ w'.cell? ⟨w.heap.size, 1, none⟩ = some (.slice (some ad1) ts.length c1) ∧ w'.cell? ⟨wr.heap.size, 0, none⟩ = some (.int .i64 (n : Int)) ∧ w'.cell? ⟨wr.heap.size, 1, none⟩ = some (.int .i64 l1) ∧ w'.cell? (ad1.add (n * 2)) = some s ∧ w'.cell? ⟨(ad1.add (n * 2)).block, (ad1.add (n * 2)).off + 1, none⟩ = some f) ((refine HK1.out _ ?_; repeat (with_reducible first | assumption | exact Below.refl _ _ | refine Below.drew ?_ | exact Below.alloc (by assumption) (below_size (by assumption) (Nat.le_refl _)) _ | refine Below.alloc ?_ (Nat.le_refl _) _ | refine Below.setCell ?_ (by simp) _))) ((go_at_call 96; go_split_ands; refine (l16Used_calls s f t.f0 l1 _ a HA.out (HS.out.below (by with_reducible assumption))).mono ?_; rintro e w1 ⟨rfl, hb1⟩; have B1 : Below W.heap.size W w1 := below_call (by with_reducible assumption) (Nat.le_refl _) hb1; obtain ⟨hb1c, hb1f⟩ := bcell hb1; have HBx := Aside.mk hb1; clear hb1))
            all_goals
              go_split_ands
              go_wp2_with fail
              go_meet
              case rel =>
                first
                | exact ⟨_, rfl, rfl, B1.size, Blk.new _ _ _, by with_reducible assumption⟩
                | exact ⟨_, rfl, rfl, Nat.le_refl _, ((((((Blk.below (show Blk (W.alloc _).drew W.heap.size _ 59 from Blk.new W _ _) HBx.out).set 0 _).set 1 _).set 2 _).set 3 _).set 4 _).set 5 _, by with_reducible assumption⟩
          case rest =>
            obtain ⟨ga, rfl, rfl, hga, hA5, hbc⟩ := hcut
            have HA5 := Aside.mk hA5
            have HBC := Aside.mk hbc
            have HK3 : Aside (∀ w', Below wc.heap.size wc w' → Below wc.heap.size wc w' ∧ w'.cell? ⟨w.heap.size, 1, none⟩ = some (.slice (some ad1) ts.length c1) ∧ w'.cell? ⟨wr.heap.size, 2, none⟩ = some (.int .i64 (m : Int)) ∧ w'.cell? ⟨wr.heap.size, 3, none⟩ = some (.int .i64 l3) ∧ w'.cell? (ad1.add (m * 2)) = some s' ∧ w'.cell? ⟨(ad1.add (m * 2)).block, (ad1.add (m * 2)).off + 1, none⟩ = some f') := ⟨fun w' h => ⟨h, (HK2.out _ (below_call HBC.out (Nat.le_refl _) h)).2⟩⟩
            have HSc := Aside.mk (HS'.out.below HBC.out)
            have hcs := hbc.size
            have hgl := hA5.lt
            clear hA5 hbc d0 d1 d2 d3 dw t0 t1 t0' t1'
            obtain ⟨wb, rfl⟩ : ∃ wb : World, wb = wc := ⟨_, rfl⟩
            go_wp2_with fail
            go_cut [7, 8] (fun v5 v6 wc => ∃ g, v5 = .pointer (some ⟨g, 0, none⟩) ∧ v6 = .bool a'.f0 ∧ wb.heap.size ≤ g ∧ Blk wc g #[.bool a'.f0, .int .i64 a'.f1, .int .i64 a'.f2, .bool a'.f3, .int .i64 a'.f4, .int .i64 a'.f5] 59 ∧ Below wb.heap.size wb wc)
            case first =>
              go_region_held3 (fun w' => Below wb.heap.size wb w' ∧ w'.cell? ⟨w.heap.size, 1, none⟩ = some (.slice (some ad1) ts.length c1) ∧ w'.cell? ⟨wr.heap.size, 2, none⟩ = some (.int .i64 (m : Int)) ∧ w'.cell? ⟨wr.heap.size, 3, none⟩ = some (.int .i64 l3) ∧ w'.cell? (ad1.add (m * 2)) = some s' ∧ w'.cell? ⟨(ad1.add (m * 2)).block, (ad1.add (m * 2)).off + 1, none⟩ = some f') ((refine HK3.out _ ?_; repeat (with_reducible first | assumption | exact Below.refl _ _ | refine Below.drew ?_ | exact Below.alloc (by assumption) (below_size (by assumption) (Nat.le_refl _)) _ | refine Below.alloc ?_ (Nat.le_refl _) _ | refine Below.setCell ?_ (by simp) _))) ((go_at_call 96; go_split_ands; refine (l16Used_calls s' f' t'.f0 l3 _ a' HA'.out (HSc.out.below (by with_reducible assumption))).mono ?_; rintro e w1 ⟨rfl, hb1⟩; have B1 : Below wb.heap.size wb w1 := below_call (by with_reducible assumption) (Nat.le_refl _) hb1; obtain ⟨hb1c, hb1f⟩ := bcell hb1; have HBx := Aside.mk hb1; clear hb1))
              all_goals
                go_split_ands
                go_wp2_with fail
                go_meet
                case rel =>
                  first
                  | exact ⟨_, rfl, rfl, B1.size, Blk.new _ _ _, by with_reducible assumption⟩
                  | exact ⟨_, rfl, rfl, Nat.le_refl _, ((((((Blk.below (show Blk (wb.alloc _).drew wb.heap.size _ 59 from Blk.new wb _ _) HBx.out).set 0 _).set 1 _).set 2 _).set 3 _).set 4 _).set 5 _, by with_reducible assumption⟩
            case rest =>
              obtain ⟨gb, rfl, rfl, hgb, hA7, hbx⟩ := hcut
              have hA5 := HA5.out.below hbx
              have HBX : Aside (Below w.heap.size w wc) := ⟨below_call (below_call BW.out (Nat.le_refl _) HBC.out) (Nat.le_refl _) hbx⟩
              have HBKX : Aside (Blk wc w.heap.size #[v0, .slice (some ad1) ts.length c1, .slice (some ad) cs.length c2, v3] 35) := ⟨(BKW.out.below HBC.out).below hbx⟩
              have a1 : wc.cell? ⟨ga, 1, none⟩ = some (.int .i64 a.f1) := hA5.cell 1
              have a2 : wc.cell? ⟨ga, 2, none⟩ = some (.int .i64 a.f2) := hA5.cell 2
              have a3 : wc.cell? ⟨ga, 3, none⟩ = some (.bool a.f3) := hA5.cell 3
              have b1 : wc.cell? ⟨gb, 1, none⟩ = some (.int .i64 a'.f1) := hA7.cell 1
              have b2 : wc.cell? ⟨gb, 2, none⟩ = some (.int .i64 a'.f2) := hA7.cell 2
              have b3 : wc.cell? ⟨gb, 3, none⟩ = some (.bool a'.f3) := hA7.cell 3
              have b5 : wc.cell? ⟨gb, 5, none⟩ = some (.int .i64 a'.f5) := hA7.cell 5
              have hxs := hbx.size
              clear hA5 hA7 hbx
              have HF : Aside (LnOkS ts cs → a.f0 = true ∧ a'.f0 = true ∧ a.f3 = true ∧ a'.f3 = false ∧ a.f1 = a'.f1 ∧ a.f2 = a'.f2 ∧ a'.f5 = (k : Int) + 1) := ⟨fun h => by
                have q := h.loan k _ Hx.out
                have := q.a0; have := q.b0; have := q.a3; have := q.b3; have := q.r; have := q.p; have := q.s
                simp only [HLv.out.1, HLv.out.2] at *
                refine ⟨?_, ?_, ?_, ?_, ?_, ?_, ?_⟩ <;> assumption⟩
              have HT2 : Aside (a.f0 = true → a'.f0 = true → a.f3 = true → ¬ a'.f3 = true → a.f1 = a'.f1 → a.f2 = a'.f2 → a'.f5 = (k : Int) + 1 → LoanI ts k ⟨n, l1, m, l3⟩) := ⟨fun e0 e1 e2 e3 e4 e5 e6 => by
                refine ⟨?_, ?_, ?_, ?_, ?_, ?_, ?_⟩ <;> simp only [HLv.out.1, HLv.out.2] <;> first | assumption | (simpa using e3)⟩
              go_wp2
              all_goals try
                go_ret
                refine ⟨ret_f HB.out (fun h => ?_), HBX.out⟩
                obtain ⟨e0, e1, e2, e3, e4, e5, e6⟩ := HF.out h
                first | (simp_all; done) | (exfalso; simp_all; omega)
              have hq : LoanI ts k ⟨n, l1, m, l3⟩ := HT2.out (by assumption) (by assumption) (by assumption) (by assumption) (by assumption) (by assumption) (by have h5 : (a'.f5 != (k : Int) + 1) = false := (by assumption); simpa using h5)
              have Hq := Aside.mk hq
              clear hq
              go_roundw
              case rel => exact ⟨k + 1, by go_num, by omega, HBX.out, HBKX.out, fun i l' hi hl' => by
                by_cases e : i = k
                · subst e
                  have h1 := Hx.out
                  rw [h1] at hl'
                  obtain rfl := Option.some.inj hl'
                  exact Hq.out
                · exact HO.out i l' (by omega) hl'⟩
              case measure => simp [intOf]; omega
    · have HLn : Aside (∀ (i : Nat) (l : L), cs[i]? = some l → LoanI ts i l) := ⟨fun i l h => HO.out i l (by have := (List.getElem?_eq_some_iff.1 h).1; omega) h⟩
      go_wp2
      obtain ⟨wo, rfl⟩ : ∃ wo : World, wo = wr := ⟨_, rfl⟩
      go_loopw [9, 107] (fun v9 v wr => ∃ p : Nat, v = .int .i64 p ∧ v9 = .int .i64 (((slotsOf (ts.take p)).countP boru : Nat) : Int) ∧ p ≤ ts.length ∧ Below w.heap.size w wr ∧ Blk wr w.heap.size #[v0, .slice A1 ts.length c1, .slice A2 cs.length c2, v3] 35 ∧ SlS ts cs p 0) (fun _ v _ => ts.length - (intOf v).toNat)
      case atStart => exact ⟨0, rfl, rfl, Nat.zero_le _, HBW.out, HBK.out, fun p' k' t h hp => by omega⟩
      case round =>
        clear HO gw1 hsz
        obtain ⟨p, rfl, rfl, hp, hbw, hblk, hS⟩ := hrel
        have HBW := Aside.mk hbw
        have HBK := Aside.mk hblk
        have HS := Aside.mk hS
        have hsz := hblk.lt
        have gw1 : wr.cell? ⟨w.heap.size, 1, none⟩ = some (.slice A1 ts.length c1) := hblk.cell 1
        have gw2 : wr.cell? ⟨w.heap.size, 2, none⟩ = some (.slice A2 cs.length c2) := hblk.cell 2
        clear hbw hblk hS
        by_cases hpl : p < ts.length
        · obtain ⟨t, ht⟩ : ∃ t, ts[p]? = some t := ⟨_, List.getElem?_eq_getElem hpl⟩
          obtain ⟨ad, s, f, rfl, hc, hs, hf⟩ := (H1.out.below HBW.out) p t ht
          obtain ⟨A4, c4, rfl, -, -, -⟩ := hf
          have Ht := Aside.mk ht
          clear ht
          have q0 := hc.c0
          have q1 := hc.c1
          clear hc
          obtain ⟨A3, c3, rfl, hl3, hm3, g3⟩ := hs
          have H3 := Aside.mk g3
          clear g3
          have N1 : (slotsOf (ts.take p)).countP boru + t.f0.length ≤ 200 := by
            have h1 := HD.out
            have h2 : slotsOf ts = slotsOf (ts.take (p + 1)) ++ slotsOf (ts.drop (p + 1)) := by
              unfold slotsOf
              rw [← List.flatMap_append, List.take_append_drop]
            rw [slotsOf_snoc Ht.out] at h2
            rw [h2] at h1
            simp only [List.length_append] at h1
            have h3 := List.countP_le_length (p := boru) (l := slotsOf (ts.take p))
            omega
          generalize hN : (slotsOf (ts.take p)).countP boru = N at N1
          have HN := Lib.hid hN
          clear hN
          go_wp2
          obtain ⟨wo2, rfl⟩ : ∃ wo : World, wo = wr := ⟨_, rfl⟩
          go_loopw [9, 115] (fun v9 v wr => ∃ q : Nat, v = .int .i64 q ∧ v9 = .int .i64 ((N + (t.f0.take q).countP boru : Nat) : Int) ∧ q ≤ t.f0.length ∧ Below w.heap.size w wr ∧ Blk wr w.heap.size #[v0, .slice (some ad) ts.length c1, .slice A2 cs.length c2, v3] 35 ∧ Below (wo2.heap.size + 1) (wo2.alloc (.cells #[.slice A3 t.f0.length c3, .slice A4 t.f1.length c4] 62)) wr ∧ SlS ts cs p q) (fun _ v _ => t.f0.length - (intOf v).toNat)
          case atStart => exact ⟨0, rfl, rfl, Nat.zero_le _, HBW.out.alloc HBW.out.size _, HBK.out.alloc _, Below.refl _ _, HS.out⟩
          case round =>
            clear q0 q1 gw1 gw2 hsz
            obtain ⟨q, rfl, rfl, hq, hbw, hblk, hb2, hS⟩ := hrel
            have HBW2 := Aside.mk hbw
            have HBK2 := Aside.mk hblk
            have HB2 := Aside.mk hb2
            have HS2 := Aside.mk hS
            have hsz := hblk.lt
            have gw1 : wr.cell? ⟨w.heap.size, 1, none⟩ = some (.slice (some ad) ts.length c1) := hblk.cell 1
            have gw2 : wr.cell? ⟨w.heap.size, 2, none⟩ = some (.slice A2 cs.length c2) := hblk.cell 2
            clear hbw hblk hS hb2
            by_cases hql : q < t.f0.length
            · obtain ⟨h, hx⟩ : ∃ x, t.f0[q]? = some x := ⟨_, List.getElem?_eq_getElem hql⟩
              obtain ⟨ad2, rfl, hc⟩ := ((H3.out.below ((Below.refl _ _).alloc (Nat.le_refl _) _)).below (by simpa using HB2.out)) q h hx
              have Hx := Aside.mk hx
              clear hx
              obtain ⟨u, r, rp, o, l, s⟩ := h
              have q0 := hc.c0
              have q1 := hc.c1
              have q2 := hc.c2
              have q3 := hc.c3
              have q4 := hc.c4
              have q5 := hc.c5
              clear hc
              have hcz : ∀ j, cntZ (cs.take j) p q ≤ j := fun j => Nat.le_trans (List.countP_le_length) (List.length_take_le _ _)
              have HCZ := Aside.mk hcz
              clear hcz
              have HCq : (t.f0.take q).countP boru ≤ t.f0.length := Nat.le_trans (List.countP_le_length) (by simp; omega)
              have HSN : Aside ((t.f0.take (q + 1)).countP boru = (t.f0.take q).countP boru + if boru ⟨u, r, rp, o, l, s⟩ = true then 1 else 0) := ⟨by rw [take_snoc Hx.out, List.countP_append, List.countP_singleton]⟩
              generalize hM : N + (t.f0.take q).countP boru = M
              have HM := Lib.hid hM
              have hMl : M ≤ 200 := by omega
              clear hM HCq
              cases u with
              | false =>
                go_wp2
                go_roundw
                case rel => exact ⟨q + 1, by go_num, by have h1 := HSN.out; have h2 := HM.out; simp [boru] at h1; rw [h1, h2], by omega, HBW2.out.alloc HBW2.out.size _, HBK2.out.alloc _, HB2.out.alloc (by have := HB2.out.size; simpa using this) _, HS2.out.step Ht.out Hx.out (fun h => by cases h)⟩
                case measure => simp [intOf]; omega
              | true =>
                cases o with
                | false =>
                  have hM1 : N + (t.f0.take (q + 1)).countP boru = M + 1 := by have h1 := HSN.out; have h2 := HM.out; simp [boru] at h1; omega
                  have HM1 := Lib.hid hM1
                  clear hM1
                  go_wp2
                  obtain ⟨wo3, rfl⟩ : ∃ wo : World, wo = wr := ⟨_, rfl⟩
                  go_loopw [14, 126] (fun v14 v wr => ∃ j : Nat, v = .int .i64 j ∧ v14 = .int .i64 0 ∧ j ≤ cs.length ∧ Below (wo3.heap.size + 1) (wo3.alloc (.cells #[.bool true, .int .i64 r, .int .i64 rp, .bool false, .int .i64 l, .int .i64 s] 59)) wr) (fun _ v _ => cs.length - (intOf v).toNat)
                  case atStart => exact ⟨0, rfl, rfl, Nat.zero_le _, Below.refl _ _⟩
                  case round =>
                    obtain ⟨j, rfl, rfl, hj, hb3⟩ := hrel
                    have HB3 := Aside.mk hb3
                    have BR : Aside (Below wo3.heap.size wo3 wr) := ⟨((Below.refl _ wo3).alloc (Nat.le_refl _) _).trans (HB3.out.mono (Nat.le_succ _))⟩
                    have hb3c : ∀ b o, b < wo3.heap.size + 1 → wr.cell? ⟨b, o, none⟩ = (wo3.alloc (.cells #[.bool true, .int .i64 r, .int .i64 rp, .bool false, .int .i64 l, .int .i64 s] 59)).cell? ⟨b, o, none⟩ := fun b o h => hb3.cell (p := ⟨b, o, none⟩) h
                    have hs3 := hb3.size
                    have e3 : wr.cell? ⟨wo3.heap.size, 3, none⟩ = some (.bool false) := by rw [hb3c _ _ (by omega)]; go_simp
                    have e4 : wr.cell? ⟨wo3.heap.size, 4, none⟩ = some (.int .i64 l) := by rw [hb3c _ _ (by omega)]; go_simp
                    clear hb3 hb3c gw1 gw2 q0 q1 q2 q3 q4 q5
                    have hs3' : wo3.heap.size < wr.heap.size := by simp at hs3; omega
                    have hs3n : ¬ wo3.heap.size = wr.heap.size := by omega
                    by_cases hjl : j < cs.length
                    · obtain ⟨x, hx⟩ : ∃ x, cs[j]? = some x := ⟨_, List.getElem?_eq_getElem hjl⟩
                      obtain ⟨ad3, rfl, hc⟩ := (H2.out.below (below_call HBW2.out (Nat.le_refl _) BR.out)) j x hx
                      have Hjx := Aside.mk hx
                      clear hx
                      obtain ⟨x0, x1, x2, x3⟩ := x
                      have p0 := hc.c0
                      have p1 := hc.c1
                      have p2 := hc.c2
                      have p3 := hc.c3
                      clear hc
                      go_wp2
                      go_roundw
                      case rel => exact ⟨j + 1, by go_num, rfl, by omega, HB3.out.alloc (by simpa using hs3) _⟩
                      case measure => simp [intOf]; omega
                    · by_cases el : l = 0
                      · subst el
                        go_wp2
                        go_roundw
                        case rel => exact ⟨q + 1, by go_num, by rw [HM1.out]; simp, by omega, below_call HBW2.out (Nat.le_refl _) BR.out, HBK2.out.below BR.out, below_call HB2.out (by simp) BR.out, HS2.out.step Ht.out Hx.out (fun _ => by simp)⟩
                        case measure => simp [intOf]; omega
                      · have el' : (l == 0) = false := by simpa using el
                        have el'' : (l != 0) = true := by simpa using el
                        have EL := Aside.mk el
                        clear el
                        go_wp2
                        go_ret
                        exact ⟨ret_f HB.out (fun h => EL.out (by have := h.slot p q _ _ Ht.out Hx.out rfl; simpa using this)), below_call HBW2.out (Nat.le_refl _) BR.out⟩
                | true =>
                  have hM1 : N + (t.f0.take (q + 1)).countP boru = M := by have h1 := HSN.out; have h2 := HM.out; simp [boru] at h1; omega
                  have HM1 := Lib.hid hM1
                  clear hM1
                  go_wp2
                  obtain ⟨wo3, rfl⟩ : ∃ wo : World, wo = wr := ⟨_, rfl⟩
                  go_loopw [14, 126] (fun v14 v wr => ∃ j : Nat, v = .int .i64 j ∧ v14 = .int .i64 ((cntZ (cs.take j) p q : Nat) : Int) ∧ j ≤ cs.length ∧ Below (wo3.heap.size + 1) (wo3.alloc (.cells #[.bool true, .int .i64 r, .int .i64 rp, .bool true, .int .i64 l, .int .i64 s] 59)) wr) (fun _ v _ => cs.length - (intOf v).toNat)
                  case atStart => exact ⟨0, rfl, by simp [cntZ], Nat.zero_le _, Below.refl _ _⟩
                  case round =>
                    obtain ⟨j, rfl, rfl, hj, hb3⟩ := hrel
                    have HB3 := Aside.mk hb3
                    have BR : Aside (Below wo3.heap.size wo3 wr) := ⟨((Below.refl _ wo3).alloc (Nat.le_refl _) _).trans (HB3.out.mono (Nat.le_succ _))⟩
                    have hb3c : ∀ b o, b < wo3.heap.size + 1 → wr.cell? ⟨b, o, none⟩ = (wo3.alloc (.cells #[.bool true, .int .i64 r, .int .i64 rp, .bool true, .int .i64 l, .int .i64 s] 59)).cell? ⟨b, o, none⟩ := fun b o h => hb3.cell (p := ⟨b, o, none⟩) h
                    have hs3 := hb3.size
                    have e3 : wr.cell? ⟨wo3.heap.size, 3, none⟩ = some (.bool true) := by rw [hb3c _ _ (by omega)]; go_simp
                    have e4 : wr.cell? ⟨wo3.heap.size, 4, none⟩ = some (.int .i64 l) := by rw [hb3c _ _ (by omega)]; go_simp
                    clear hb3 hb3c gw1 gw2 q0 q1 q2 q3 q4 q5
                    have hs3' : wo3.heap.size < wr.heap.size := by simp at hs3; omega
                    have hs3n : ¬ wo3.heap.size = wr.heap.size := by omega
                    have hcj := HCZ.out j
                    by_cases hjl : j < cs.length
                    · obtain ⟨x, hx⟩ : ∃ x, cs[j]? = some x := ⟨_, List.getElem?_eq_getElem hjl⟩
                      obtain ⟨ad3, rfl, hc⟩ := (H2.out.below (below_call HBW2.out (Nat.le_refl _) BR.out)) j x hx
                      have Hjx := Aside.mk hx
                      clear hx
                      obtain ⟨x0, x1, x2, x3⟩ := x
                      have p0 := hc.c0
                      have p1 := hc.c1
                      have p2 := hc.c2
                      have p3 := hc.c3
                      clear hc
                      have hsn : cntZ (cs.take (j + 1)) p q = cntZ (cs.take j) p q + if (decide ((p : Int) = x0) && decide ((q : Int) = x1)) = true then 1 else 0 := by
                        unfold cntZ
                        rw [take_snoc Hjx.out, List.countP_append, List.countP_singleton]
                      have HSN2 := Aside.mk hsn
                      clear hsn
                      generalize hcn : cntZ (cs.take j) p q = cn at hcj HSN2
                      by_cases c0 : x0 = p
                      · subst c0
                        by_cases c1 : x1 = q
                        · subst c1
                          have HE : Aside (cntZ (cs.take (j + 1)) p q = cn + 1) := ⟨by rw [HSN2.out]; simp⟩
                          go_wp2
                          go_roundw
                          case rel => exact ⟨j + 1, by go_num, by rw [HE.out]; go_num, by omega, HB3.out.alloc (by simpa using hs3) _⟩
                          case measure => simp [intOf]; omega
                        · have e1 : (x1 == (q : Int)) = false := by simpa using c1
                          have HE : Aside (cntZ (cs.take (j + 1)) p q = cn) := ⟨by rw [HSN2.out]; simp; omega⟩
                          clear c1
                          go_wp2
                          go_roundw
                          case rel => exact ⟨j + 1, by go_num, by rw [HE.out], by omega, HB3.out.alloc (by simpa using hs3) _⟩
                          case measure => simp [intOf]; omega
                      · have e1 : (x0 == (p : Int)) = false := by simpa using c0
                        have HE : Aside (cntZ (cs.take (j + 1)) p q = cn) := ⟨by rw [HSN2.out]; simp; omega⟩
                        clear c0
                        go_wp2
                        go_roundw
                        case rel => exact ⟨j + 1, by go_num, by rw [HE.out], by omega, HB3.out.alloc (by simpa using hs3) _⟩
                        case measure => simp [intOf]; omega
                    · have hke : cs.take j = cs := List.take_of_length_le (by omega)
                      rw [hke] at hcj ⊢
                      clear hke
                      generalize hcn : cntZ cs p q = cn at hcj ⊢
                      have HCN := Lib.hid hcn
                      clear hcn
                      by_cases el : l = cn
                      · subst el
                        go_wp2
                        go_roundw
                        case rel => exact ⟨q + 1, by go_num, by rw [HM1.out], by omega, below_call HBW2.out (Nat.le_refl _) BR.out, HBK2.out.below BR.out, below_call HB2.out (by simp) BR.out, HS2.out.step Ht.out Hx.out (fun _ => by simp [HCN.out])⟩
                        case measure => simp [intOf]; omega
                      · have el' : (l == (cn : Int)) = false := by simpa using el
                        have el'' : (l != (cn : Int)) = true := by simpa using el
                        have EL := Aside.mk el
                        clear el
                        go_wp2
                        go_ret
                        exact ⟨ret_f HB.out (fun h => EL.out (by have := h.slot p q _ _ Ht.out Hx.out rfl; simpa [HCN.out] using this)), below_call HBW2.out (Nat.le_refl _) BR.out⟩
            · have HS3 : Aside (SlS ts cs (p + 1) 0) := ⟨HS2.out.next Ht.out (by omega)⟩
              have HCe : Aside (N + (t.f0.take q).countP boru = (slotsOf (ts.take (p + 1))).countP boru) := ⟨by
                rw [slotsOf_snoc Ht.out, List.countP_append, HN.out, List.take_of_length_le (by omega)]⟩
              go_wp2
              go_roundw
              case rel => exact ⟨p + 1, by go_num, by rw [HCe.out], by omega, HBW2.out, HBK2.out, HS3.out⟩
              case measure => simp [intOf]; omega
        · have hke : ts.take p = ts := List.take_of_length_le (by omega)
          have hcl : (slotsOf ts).countP boru ≤ 200 := Nat.le_trans List.countP_le_length HD.out
          rw [hke]
          clear hke
          generalize hN : (slotsOf ts).countP boru = N at hcl ⊢
          have HN := Lib.hid hN
          clear hN
          have HF : Aside (b = true ↔ N = cs.length) := ⟨HB.out.trans ⟨fun h => HN.out ▸ h.cnt, fun h => ⟨HLn.out, fun p' k' t h' hp hk => HS.out p' k' t h' (.inl (by have := (List.getElem?_eq_some_iff.1 hp).1; omega)) hp hk, HN.out.trans h⟩⟩⟩
          go_wp2
          go_ret
          refine ⟨?_, HBW.out⟩
          refine ret_b ?_
          rw [Bool.eq_iff_iff, HF.out]
          simp
          try omega
end Go.Proofs.Ytidkmlolcfapdaa
