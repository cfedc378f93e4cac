import Derived.Test.YtidkmlolcfapdaaGw
set_option linter.unusedVariables false
set_option linter.unusedSimpArgs false
namespace Go.Proofs.Ytidkmlolcfapdaa
open Go.RowKit
def inB (n lo hi : Int) : Bool := decide (lo ≤ n) && decide (n ≤ hi)
theorem inB_iff {n lo hi : Int} : inB n lo hi = true ↔ lo ≤ n ∧ n ≤ hi := by simp [inB]
set_option maxHeartbeats 400000 in
theorem l1In_calls (n lo hi : Int) (w : World) : Calls Try.prog 37 #[.int .i64 n, .int .i64 lo, .int .i64 hi] w fun e w' => e = .returned (.bool (inB n lo hi)) ∧ w = w' := by
  go_enter Try.func37, Try.ntmps37
  go_wp2
  all_goals
    go_ret
    refine ⟨ret_b ?_, rfl⟩
    unfold inB
    first | (simp [*]; done) | (simp [*]; omega)
set_option maxHeartbeats 1000000 in
theorem l15Handle_calls (h : H) (w : World) :
    Calls Try.prog 95 #[vH h] w fun e w' => e = .returned (.bool (soundB h)) ∧ Below w.heap.size w w' := by
  obtain ⟨u, r, p, o, l, s⟩ := h
  have key : soundB ⟨u, r, p, o, l, s⟩ = (u && (inB r 0 9 && (inB p 0 1000000 && (inB l 0 1000 && (inB s 0 1000 && (o == (s == 0))))))) := by
    rw [Bool.eq_iff_iff]
    simp only [soundB, inB, Bool.and_eq_true, decide_eq_true_eq, beq_iff_eq]
    by_cases z : s = 0 <;> cases o <;> cases u <;> simp [z] <;> omega
  rw [key]
  clear key
  generalize h1 : inB r 0 9 = b1
  generalize h2 : inB p 0 1000000 = b2
  generalize h3 : inB l 0 1000 = b3
  generalize h4 : inB s 0 1000 = b4
  have g1 : ∀ w, Calls Try.prog 37 #[.int .i64 r, .int .i64 0, .int .i64 9] w fun e w' => e = .returned (.bool b1) ∧ w = w' := fun w => h1 ▸ l1In_calls r 0 9 w
  have g2 : ∀ w, Calls Try.prog 37 #[.int .i64 p, .int .i64 0, .int .i64 1000000] w fun e w' => e = .returned (.bool b2) ∧ w = w' := fun w => h2 ▸ l1In_calls p 0 1000000 w
  have g3 : ∀ w, Calls Try.prog 37 #[.int .i64 l, .int .i64 0, .int .i64 1000] w fun e w' => e = .returned (.bool b3) ∧ w = w' := fun w => h3 ▸ l1In_calls l 0 1000 w
  have g4 : ∀ w, Calls Try.prog 37 #[.int .i64 s, .int .i64 0, .int .i64 1000] w fun e w' => e = .returned (.bool b4) ∧ w = w' := fun w => h4 ▸ l1In_calls s 0 1000 w
  have G1 := Aside.mk g1
  have G2 := Aside.mk g2
  have G3 := Aside.mk g3
  have G4 := Aside.mk g4
  clear g1 g2 g3 g4 h1 h2 h3 h4
  cases u with
  | false =>
    go_enter Try.func95, Try.ntmps95
    go_wp2
    go_ret
    exact ⟨ret_b (by simp), (Below.refl _ _).alloc (Nat.le_refl _) _⟩
  | true =>
    go_enter Try.func95, Try.ntmps95
    go_wp2_with fail
    refine (G1.out _).mono ?_
    rintro e w1 ⟨rfl, rfl⟩
    cases b1 with
    | false =>
      go_wp2
      go_ret
      exact ⟨ret_b (by simp), (Below.refl _ _).alloc (Nat.le_refl _) _⟩
    | true =>
      go_wp2_with fail
      refine (G2.out _).mono ?_
      rintro e w1 ⟨rfl, rfl⟩
      cases b2 with
      | false =>
        go_wp2
        go_ret
        exact ⟨ret_b (by simp), (Below.refl _ _).alloc (Nat.le_refl _) _⟩
      | true =>
        go_wp2_with fail
        refine (G3.out _).mono ?_
        rintro e w1 ⟨rfl, rfl⟩
        cases b3 with
        | false =>
          go_wp2
          go_ret
          exact ⟨ret_b (by simp), (Below.refl _ _).alloc (Nat.le_refl _) _⟩
        | true =>
          go_wp2_with fail
          refine (G4.out _).mono ?_
          rintro e w1 ⟨rfl, rfl⟩
          cases b4 with
          | false =>
            go_wp2
            go_ret
            exact ⟨ret_b (by simp), (Below.refl _ _).alloc (Nat.le_refl _) _⟩
          | true =>
            go_wp2
            go_ret
            exact ⟨ret_b (by simp), (Below.refl _ _).alloc (Nat.le_refl _) _⟩
/-- A table is good, as the reference looks. -/
structure TOkS (sl : List H) (fr : List Int) : Prop where
  u : ∀ h ∈ sl, h.f0 = true → soundB h = true
  z : ∀ h ∈ sl, h.f0 = false → h = zH
  fs : ∀ (i : Nat) (n : Int), fr[i]? = some n → (0 ≤ n ∧ ∃ h, sl[n.toNat]? = some h ∧ h.f0 = false) ∧ n ∉ fr.take i
  l40 : sl.length ≤ 40
  cnt : fr.length = sl.countP (fun h => !h.f0)
set_option maxHeartbeats 1000000 in
theorem goodTableS_calls (vs vf : Value) (sl : List H) (fr : List Int) (w : World) (b : Bool)
    (h0 : RdS encH 6 w vs sl) (h1 : RdS encI 1 w vf fr) (hb : b = true ↔ TOkS sl fr) :
    Calls Try.prog 61 #[.agg #[vs, vf]] w fun e w' => e = .returned (.bool b) ∧ Below w.heap.size w w' := by
  obtain ⟨A0, c0, rfl, hl0, hm0, g0⟩ := h0
  obtain ⟨A1, c1, rfl, hl1, hm1, g1⟩ := h1
  have H0 := Aside.mk g0
  have H1 := Aside.mk g1
  have HB := Aside.mk hb
  clear g0 g1 hb
  go_enter Try.func61, Try.ntmps61
  go_wp2
  go_loopw [13, 3] (fun v c wr => ∃ k : Nat, v = .int .i64 k ∧ k ≤ sl.length ∧ c = .int .i64 (((sl.take k).countP (fun h => !h.f0) : Nat) : Int) ∧ Below w.heap.size w wr ∧ Blk wr w.heap.size #[.slice A0 sl.length c0, .slice A1 fr.length c1] 62 ∧ ∀ h ∈ sl.take k, (h.f0 = true → soundB h = true) ∧ (h.f0 = false → h = zH)) (fun v _ _ => sl.length - (intOf v).toNat)
  case atStart => exact ⟨0, rfl, Nat.zero_le _, rfl, (Below.refl _ _).alloc (Nat.le_refl _) _, Blk.new w _ _, by simp⟩
  case round =>
    obtain ⟨k, rfl, hk, rfl, hbw, hblk, hok⟩ := hrel
    have HBW := Aside.mk hbw
    have HBK := Aside.mk hblk
    have HO := Aside.mk hok
    have hsz := hblk.lt
    clear hbw hblk hok
    generalize hcn : (((sl.take k).countP (fun h => !h.f0) : Nat) : Int) = cn
    have cn0 : 0 ≤ cn := by omega
    have cnk : cn ≤ k := by
      rw [← hcn]
      have h1 := List.countP_le_length (p := fun h : H => !h.f0) (l := sl.take k)
      have h2 : (sl.take k).length ≤ k := List.length_take_le _ _
      omega
    have HC := Lib.hid hcn
    clear hcn
    by_cases hlt : k < sl.length
    · obtain ⟨h, hx⟩ : ∃ x, sl[k]? = some x := ⟨_, List.getElem?_eq_getElem hlt⟩
      obtain ⟨ad, rfl, hc⟩ := (H0.out.below HBW.out) k h hx
      have Hx := Aside.mk hx
      clear hx
      obtain ⟨u, r, rp, o, l, s⟩ := h
      have q0 := hc.c0
      have q1 := hc.c1
      have q2 := hc.c2
      have q3 := hc.c3
      have q4 := hc.c4
      have q5 := hc.c5
      clear hc
      have BA : Aside (∀ o, Below w.heap.size w (wr.alloc o)) := ⟨fun o => HBW.out.alloc HBW.out.size o⟩
      have BK : Aside (∀ o, Blk (wr.alloc o) w.heap.size #[.slice (some ad) sl.length c0, .slice A1 fr.length c1] 62) := ⟨fun o => HBK.out.alloc o⟩
      have Hmem : Aside ((⟨u, r, rp, o, l, s⟩ : H) ∈ sl) := ⟨List.mem_of_getElem? Hx.out⟩
      have Hn : Aside (∀ (q : (⟨u, r, rp, o, l, s⟩ : H).f0 = true → soundB ⟨u, r, rp, o, l, s⟩ = true) (q' : (⟨u, r, rp, o, l, s⟩ : H).f0 = false → (⟨u, r, rp, o, l, s⟩ : H) = zH), ∀ h ∈ sl.take (k + 1), (h.f0 = true → soundB h = true) ∧ (h.f0 = false → h = zH)) := ⟨fun q q' h hh => by
        rw [take_snoc Hx.out] at hh
        rcases List.mem_append.1 hh with hh | hh
        · exact HO.out h hh
        · rw [List.mem_singleton.1 hh]; exact ⟨q, q'⟩⟩
      have Hcnt : Aside ((((sl.take (k + 1)).countP (fun h => !h.f0) : Nat) : Int) = cn + (if u then 0 else 1)) := ⟨by
        rw [take_snoc Hx.out, List.countP_append, ← HC.out]
        cases u <;> simp⟩
      cases u with
      | true =>
        generalize hS : soundB ⟨true, r, rp, o, l, s⟩ = sb
        have HS := Lib.hid hS; clear hS
        go_wp2_with fail
        refine (l15Handle_calls ⟨true, r, rp, o, l, s⟩ _).mono ?_
        rintro e w1 ⟨rfl, hb1⟩
        have B1 : Aside (Below w.heap.size w w1) := ⟨below_call (BA.out _) (Nat.le_refl _) hb1⟩
        have K1 : Aside (Blk w1 w.heap.size #[.slice (some ad) sl.length c0, .slice A1 fr.length c1] 62) := ⟨(BK.out _).below hb1⟩
        obtain ⟨hb1c, _⟩ := bcell hb1
        have hz := hb1.size
        have hz' : wr.heap.size < w1.heap.size := by simp at hz; omega
        clear hb1 hz
        rw [HS.out]
        cases sb with
        | false =>
          go_wp2
          go_ret
          exact ⟨ret_f HB.out (fun h => by have := h.u _ Hmem.out rfl; rw [HS.out] at this; cases this), B1.out⟩
        | true =>
          go_wp2
          go_roundw
          case rel => exact ⟨k + 1, by go_num, by omega, by rw [Hcnt.out]; simp, B1.out, K1.out, Hn.out (fun _ => HS.out) (fun h => by cases h)⟩
          case measure => simp [intOf]; omega
      | false =>
        have eqz : ∀ (d : Nat) (w : World), _ := fun d w => eqH_run d w false false r 0 rp 0 o false l 0 s 0
        generalize hz : decide ((⟨false, r, rp, o, l, s⟩ : H) = ⟨false, 0, 0, false, 0, 0⟩) = z at eqz
        have HZ : Aside ((⟨false, r, rp, o, l, s⟩ : H) = zH ↔ z = true) := ⟨by rw [← hz]; simp [zH]⟩
        clear hz
        cases z with
        | true =>
          go_wp2
          go_roundw
          case rel => exact ⟨k + 1, by go_num, by omega, by rw [Hcnt.out]; simp, BA.out _, BK.out _, Hn.out (fun h => by cases h) (fun _ => HZ.out.2 (by simp))⟩
          case measure => simp [intOf]; omega
        | false =>
          go_wp2
          go_ret
          exact ⟨ret_f HB.out (fun h => by have := HZ.out.1 (h.z _ Hmem.out rfl); simp at this), BA.out _⟩
    · have hke : sl.take k = sl := List.take_of_length_le (by omega)
      have HC2 : Aside (((sl.countP (fun h => !h.f0) : Nat) : Int) = cn) := ⟨by rw [← HC.out, hke]⟩
      have HU : Aside (∀ h ∈ sl, (h.f0 = true → soundB h = true) ∧ (h.f0 = false → h = zH)) := ⟨by rw [← hke]; exact HO.out⟩
      clear hke
      have gb1 : wr.cell? ⟨w.heap.size, 1, none⟩ = some (.slice A1 fr.length c1) := HBK.out.cell 1
      go_wp2
      obtain ⟨wo, rfl⟩ : ∃ wo : World, wo = wr := ⟨_, rfl⟩
      go_loopw [43] (fun v wr => ∃ i : Nat, v = .int .i64 i ∧ i ≤ fr.length ∧ Below w.heap.size w wr ∧ Blk wr w.heap.size #[.slice A0 sl.length c0, .slice A1 fr.length c1] 62 ∧ ∀ (j : Nat) (n : Int), j < i → fr[j]? = some n → (0 ≤ n ∧ ∃ h, sl[n.toNat]? = some h ∧ h.f0 = false) ∧ n ∉ fr.take j) (fun v _ => fr.length - (intOf v).toNat)
      case atStart => exact ⟨0, rfl, Nat.zero_le _, HBW.out, HBK.out, fun j n h => by omega⟩
      case round =>
        clear HBW HBK hsz
        obtain ⟨i, rfl, hi, hbw, hblk, hok⟩ := hrel
        have HBW := Aside.mk hbw
        have HBK := Aside.mk hblk
        have HO2 := Aside.mk hok
        have hsz := hblk.lt
        have gc0 : wr.cell? ⟨w.heap.size, 0, none⟩ = some (.slice A0 sl.length c0) := hblk.cell 0
        have gc1 : wr.cell? ⟨w.heap.size, 1, none⟩ = some (.slice A1 fr.length c1) := hblk.cell 1
        clear hbw hblk hok
        by_cases hil : i < fr.length
        · obtain ⟨n, hn⟩ : ∃ n, fr[i]? = some n := ⟨_, List.getElem?_eq_getElem hil⟩
          obtain ⟨ad, rfl, hcx⟩ := (H1.out.below HBW.out).int hn
          have Hn := Aside.mk hn
          clear hn
          have hin := l1In_calls n 0 ((sl.length : Int) - 1)
          have HIN := Aside.mk hin
          clear hin
          by_cases hr : 0 ≤ n ∧ n < sl.length
          · obtain ⟨n0, nl⟩ := hr
            obtain ⟨m, rfl⟩ := Int.eq_ofNat_of_zero_le n0
            have hI : inB (m : Int) 0 ((sl.length : Int) - 1) = true := inB_iff.2 ⟨by omega, by omega⟩
            obtain ⟨h, hx⟩ : ∃ x, sl[m]? = some x := ⟨_, List.getElem?_eq_getElem (by omega)⟩
            obtain ⟨ad2, rfl, hc⟩ := (H0.out.below HBW.out) m h hx
            have Hx := Aside.mk hx
            clear hx
            obtain ⟨u, r, rp, o, l, s⟩ := h
            have q0 := hc.c0
            clear hc
            cases u with
            | true =>
              go_wp2_with fail
              refine (HIN.out _).mono ?_
              rintro e w1 ⟨rfl, rfl⟩
              rw [hI]
              clear hI
              go_wp2
              go_ret
              exact ⟨ret_f HB.out (fun h => by
                obtain ⟨⟨_, x, hx, hxu⟩, _⟩ := h.fs i _ Hn.out
                simp only [Int.toNat_natCast] at hx
                rw [Hx.out] at hx
                obtain rfl := Option.some.inj hx
                cases hxu), HBW.out⟩
            | false =>
              go_wp2_with fail
              refine (HIN.out _).mono ?_
              rintro e w1 ⟨rfl, rfl⟩
              rw [hI]
              clear hI
              go_wp2
              go_loop [68] (fun v => ∃ j : Nat, v = .int .i64 j ∧ j ≤ i ∧ (m : Int) ∉ fr.take j) (fun v => i - (intOf v).toNat)
              case atStart => exact ⟨0, rfl, Nat.zero_le _, by simp⟩
              case round =>
                obtain ⟨j, rfl, hj, hnj⟩ := hrel
                have HNJ := Aside.mk hnj
                clear hnj
                by_cases hji : j < i
                · obtain ⟨y, hy⟩ : ∃ y, fr[j]? = some y := ⟨_, List.getElem?_eq_getElem (by omega)⟩
                  obtain ⟨ad3, e3, hcy⟩ := (H1.out.below HBW.out).int hy
                  cases e3
                  have Hy := Aside.mk hy
                  clear hy
                  by_cases e : y = (m : Int)
                  · subst e
                    go_wp2
                    go_ret
                    exact ⟨ret_f HB.out (fun h => by
                      refine (h.fs i _ Hn.out).2 ?_
                      refine List.mem_of_getElem? (i := j) ?_
                      rw [List.getElem?_take, if_pos hji]
                      exact Hy.out), HBW.out⟩
                  · have e' : (y == (m : Int)) = false := by simpa using e
                    have HE := Aside.mk e
                    clear e
                    go_wp2
                    go_round
                    case rel => exact ⟨j + 1, by go_num, by omega, by
                      rw [take_snoc Hy.out, List.mem_append, List.mem_singleton]
                      rintro (h | h)
                      · exact HNJ.out h
                      · exact HE.out h.symm⟩
                    case measure => simp [intOf]; omega
                · have hji' : j = i := by omega
                  have HNI : Aside ((m : Int) ∉ fr.take i) := ⟨hji' ▸ HNJ.out⟩
                  clear hji'
                  go_wp2
                  go_roundw
                  case rel => exact ⟨i + 1, by go_num, by omega, HBW.out, HBK.out, fun j n hj hn => by
                    by_cases e : j = i
                    · subst e
                      rw [Hn.out] at hn
                      obtain rfl := Option.some.inj hn
                      exact ⟨⟨by omega, _, by simpa using Hx.out, rfl⟩, HNI.out⟩
                    · exact HO2.out j n (by omega) hn⟩
                  case measure => simp [intOf]; omega
          · have hI : inB n 0 ((sl.length : Int) - 1) = false := by
              rw [Bool.eq_false_iff]
              intro h
              rw [inB_iff] at h
              omega
            go_wp2_with fail
            refine (HIN.out _).mono ?_
            rintro e w1 ⟨rfl, rfl⟩
            rw [hI]
            clear hI
            go_wp2
            go_ret
            exact ⟨ret_f HB.out (fun h => by
              obtain ⟨⟨q0, x, hx, _⟩, _⟩ := h.fs i _ Hn.out
              have := (List.getElem?_eq_some_iff.1 hx).1
              omega), HBW.out⟩
        · by_cases c : (sl.length : Int) ≤ 40
          · have c' := decide_eq_true c
            by_cases d : (fr.length : Int) = cn
            · have d' : ((fr.length : Int) == cn) = true := by simpa using d
              have D := Aside.mk d
              clear d
              go_wp2
              go_ret
              exact ⟨ret_t HB.out ⟨fun h hh => (HU.out h hh).1, fun h hh => (HU.out h hh).2, fun j n hn => HO2.out j n (by have := (List.getElem?_eq_some_iff.1 hn).1; omega) hn, by omega, by have := HC2.out; have := D.out; omega⟩, HBW.out⟩
            · have d' : ((fr.length : Int) == cn) = false := by simpa using d
              have D := Aside.mk d
              clear d
              go_wp2
              go_ret
              exact ⟨ret_f HB.out (fun h => by have := HC2.out; have := D.out; have := h.cnt; omega), HBW.out⟩
          · have c' := decide_eq_false c
            go_wp2
            go_ret
            exact ⟨ret_f HB.out (fun h => by have := h.l40; omega), HBW.out⟩
end Go.Proofs.Ytidkmlolcfapdaa
