import Derived.Test.YtidkmlolcfapdaaTo
set_option linter.unusedVariables false
set_option linter.unusedSimpArgs false
namespace Go.Proofs.Ytidkmlolcfapdaa
open Go.RowKit

/-- A Used own handle. -/
def ownu (h : H) : Bool := h.f0 && h.f3
def reps (l : List H) : List Int := (l.filter ownu).map (·.f2)
def hOK (th : List Th) (h : H) : Prop := ∃ x, th[h.f2.toNat]? = some x ∧ x.f1 = true ∧ x.f0 = h.f1
def slotsOf (ts : List T) : List H := ts.flatMap (·.f0)
/-- Owners are right, as the program looks. -/
structure OwOk (ts : List T) (th : List Th) : Prop where
  ok : ∀ h ∈ slotsOf ts, ownu h = true → hOK th h
  nd : (reps (slotsOf ts)).Nodup
  al : ∀ (i : Nat) (x : Th), th[i]? = some x → (x.f1 = true ↔ (i : Int) ∈ reps (slotsOf ts))
theorem reps_append (a b : List H) : reps (a ++ b) = reps a ++ reps b := by simp [reps]
theorem reps_skip {h : H} (e : ownu h = false) : reps [h] = [] := by simp [reps, List.filter_cons, e]
theorem reps_one {h : H} (e : ownu h = true) : reps [h] = [h.f2] := by simp [reps, List.filter_cons, e]

structure OL (w : World) (th : List Th) (pre : List H) (wr : World) : Prop where
  b : Below w.heap.size w wr
  g : w.heap.size < wr.heap.size
  r : wr.rowIs w.heap.size 130 40 (fun j => .bool (decide ((j : Int) ∈ reps pre)))
  ok : ∀ h ∈ pre, ownu h = true → hOK th h
  nd : (reps pre).Nodup
theorem OL.start (w : World) (th : List Th) (C : Array Value) (hC : C = Array.replicate 40 (.bool false)) : OL w th [] (w.alloc (.cells C 130)) := by
  have h := World.rowIs_alloc w C 130 (fun j => .bool (decide ((j:Int) ∈ reps []))) (by
    intro i hi
    subst hC
    simp at hi
    simp [hi, reps])
  rw [show C.size = 40 by rw [hC]; simp] at h
  exact ⟨(Below.refl _ _).alloc (Nat.le_refl _) _, by simp, h, by simp, by simp [reps]⟩
theorem OL.move {w wr w2 : World} {th : List Th} {pre : List H} (h : OL w th pre wr) (hb : Below wr.heap.size wr w2) : OL w th pre w2 :=
  ⟨below_call h.b (Nat.le_refl _) hb, Nat.lt_of_lt_of_le h.g hb.size, h.r.of_block (hb.block _ h.g), h.ok, h.nd⟩
theorem OL.skip {w wr : World} {th : List Th} {pre : List H} {x : H} (h : OL w th pre wr) (e : ownu x = false) : OL w th (pre ++ [x]) wr := by
  have e' : reps (pre ++ [x]) = reps pre := by rw [reps_append, reps_skip e, List.append_nil]
  refine ⟨h.b, h.g, by rw [e']; exact h.r, ?_, by rw [e']; exact h.nd⟩
  intro y hy ho
  rcases List.mem_append.1 hy with hy | hy
  · exact h.ok y hy ho
  · rw [List.mem_singleton.1 hy, e] at ho
    cases ho
theorem OL.put {w wr : World} {th : List Th} {pre : List H} {x : H} {j : Nat} (h : OL w th pre wr) (e : ownu x = true) (hj : x.f2 = (j : Int)) (hk : hOK th x) (hn : (j : Int) ∉ reps pre) : OL w th (pre ++ [x]) (wr.setCell ⟨w.heap.size, j, none⟩ (.bool true)) := by
  have e' : reps (pre ++ [x]) = reps pre ++ [(j : Int)] := by rw [reps_append, reps_one e, hj]
  refine ⟨h.b.setCell (Nat.le_refl _) _, by simpa [World.setCell] using h.g, ?_, ?_, ?_⟩
  · rw [e']
    refine (h.r.set j _).congr ?_
    intro i hi
    by_cases q : i = j
    · subst q; simp
    · have q' : (i : Int) ≠ j := by omega
      simp [q, q']
  · intro y hy ho
    rcases List.mem_append.1 hy with hy | hy
    · exact h.ok y hy ho
    · rw [List.mem_singleton.1 hy]; exact hk
  · rw [e', List.nodup_append]
    exact ⟨h.nd, by simp, fun a ha b hb => by rw [List.mem_singleton.1 hb]; rintro rfl; exact hn ha⟩
theorem slotsOf_snoc {ts : List T} {p : Nat} {t : T} (h : ts[p]? = some t) : slotsOf (ts.take (p + 1)) = slotsOf (ts.take p) ++ t.f0 := by
  rw [take_snoc h]; simp [slotsOf]
/-- What is looked at is a part of all. -/
theorem pre_part {ts : List T} {p k : Nat} {t : T} {x : H} (h : ts[p]? = some t) (hx : t.f0[k]? = some x) : ∃ r, slotsOf ts = (slotsOf (ts.take p) ++ t.f0.take k) ++ (x :: r) := by
  obtain ⟨hl, he⟩ := List.getElem?_eq_some_iff.1 h
  obtain ⟨hk, hx'⟩ := List.getElem?_eq_some_iff.1 hx
  refine ⟨t.f0.drop (k + 1) ++ slotsOf (ts.drop (p + 1)), ?_⟩
  have h1 : ts = ts.take p ++ t :: ts.drop (p + 1) := by rw [← he, List.getElem_cons_drop, List.take_append_drop]
  have h2 : t.f0 = t.f0.take k ++ x :: t.f0.drop (k + 1) := by rw [← hx', List.getElem_cons_drop, List.take_append_drop]
  conv => lhs; rw [h1]
  simp only [slotsOf, List.flatMap_append, List.flatMap_cons]
  conv => lhs; rw [h2]
  simp
theorem OwOk.ok_at {ts : List T} {th : List Th} (h : OwOk ts th) {p k : Nat} {t : T} {x : H} (ht : ts[p]? = some t) (hx : t.f0[k]? = some x) (e : ownu x = true) : hOK th x ∧ x.f2 ∉ reps (slotsOf (ts.take p) ++ t.f0.take k) := by
  obtain ⟨r, hr⟩ := pre_part ht hx
  refine ⟨h.ok x (by rw [hr]; simp) e, fun hm => ?_⟩
  have := h.nd
  rw [hr, reps_append, List.nodup_append] at this
  refine this.2.2 _ hm x.f2 ?_ rfl
  rw [show x :: r = [x] ++ r from rfl, reps_append, reps_one e]
  simp

set_option maxHeartbeats 2000000 in
theorem ownersOk_calls (g : Nat) (v0 v1 v2 v3 : Value) (th : List Th) (ts : List T) (w : World) (b : Bool)
    (hg : Blk w g #[v0, v1, v2, v3] 35) (h0 : RdS encTh 2 w v0 th) (h1 : RdTs w v1 ts) (hth : th.length ≤ 40) (hpos : ∀ t ∈ ts, ∀ h ∈ t.f0, h.f0 = true → 0 ≤ h.f2) (hb : b = true ↔ OwOk ts th) :
    Calls Try.prog 59 #[.pointer (some ⟨g, 0, none⟩)] w fun e w' => e = .returned (.bool b) ∧ Below w.heap.size w w' := by
  obtain ⟨A0, c0, rfl, -, -, g0⟩ := h0
  obtain ⟨A1, c1, rfl, hl1, hm1, g1⟩ := h1
  have H0 := Aside.mk g0
  have H1 := Aside.mk g1
  have HB := Aside.mk hb
  have HP := Aside.mk hpos
  have gc0 : w.cell? ⟨g, 0, none⟩ = some (.slice A0 th.length c0) := hg.cell 0
  have gc1 : w.cell? ⟨g, 1, none⟩ = some (.slice A1 ts.length c1) := hg.cell 1
  have hgl := hg.lt
  have gne : ¬ g = w.heap.size := by omega
  clear g0 g1 hb hg hpos
  go_enter Try.func59, Try.ntmps59
  go_wp2
  go_loopw [15] (fun v wr => ∃ p : Nat, v = .int .i64 p ∧ p ≤ ts.length ∧ OL w th (slotsOf (ts.take p)) wr) (fun v _ => ts.length - (intOf v).toNat)
  case atStart => exact ⟨0, rfl, Nat.zero_le _, OL.start w th _ rfl⟩
  case round =>
    obtain ⟨p, rfl, hp, hR⟩ := hrel
    have HR := Aside.mk hR
    have hsz := hR.g
    clear hR
    by_cases hlt : p < ts.length
    · obtain ⟨t, ht⟩ : ∃ t, ts[p]? = some t := ⟨_, List.getElem?_eq_getElem hlt⟩
      obtain ⟨ad, s, f, rfl, hc, hs, hf⟩ := H1.out p t ht
      have Ht := Aside.mk ht
      clear ht
      have q0 := cell_old HR.out.b hc.c0
      have q1 := cell_old HR.out.b hc.c1
      clear hc
      obtain ⟨A2, c2, rfl, hl2, hm2, g2⟩ := hs
      obtain ⟨A3, c3, rfl, -, -, -⟩ := hf
      have H2 := Aside.mk g2
      clear g2
      go_wp2
      obtain ⟨wo, rfl⟩ : ∃ wo : World, wo = wr := ⟨_, rfl⟩
      go_loopw [22] (fun v wr => ∃ k : Nat, v = .int .i64 k ∧ k ≤ t.f0.length ∧ OL w th (slotsOf (ts.take p) ++ t.f0.take k) wr) (fun v _ => t.f0.length - (intOf v).toNat)
      case atStart => exact ⟨0, rfl, Nat.zero_le _, by simpa using HR.out.move ((Below.refl _ _).alloc (Nat.le_refl _) _)⟩
      case round =>
        obtain ⟨k, rfl, hk, hR2⟩ := hrel
        have HR2 := Aside.mk hR2
        have hsz2 := hR2.g
        clear hR2 q0 q1
        have gw0 := cell_old HR2.out.b gc0
        have hglw : g < wr.heap.size := by omega
        by_cases hkl : k < t.f0.length
        · obtain ⟨h, hx⟩ : ∃ x, t.f0[k]? = some x := ⟨_, List.getElem?_eq_getElem hkl⟩
          obtain ⟨ad2, rfl, hc⟩ := (H2.out.below HR2.out.b) k h hx
          have Hx := Aside.mk hx
          clear hx
          obtain ⟨u, r, rp, o, l, s⟩ := h
          have q0 := hc.c0
          have q1 := hc.c1
          have q2 := hc.c2
          have q3 := hc.c3
          have q4 := hc.c4
          have q5 := hc.c5
          clear hc
          have Hstep : Aside (slotsOf (ts.take p) ++ t.f0.take (k + 1) = (slotsOf (ts.take p) ++ t.f0.take k) ++ [⟨u, r, rp, o, l, s⟩]) := ⟨by rw [take_snoc Hx.out]; simp⟩
          cases u with
          | false =>
            go_wp2
            go_roundw
            case rel => exact ⟨k + 1, by go_num, by omega, by rw [Hstep.out]; exact (HR2.out.move ((Below.refl _ _).alloc (Nat.le_refl _) _)).skip rfl⟩
            case measure => simp [intOf]; omega
          | true =>
            cases o with
            | false =>
              go_wp2
              go_roundw
              case rel => exact ⟨k + 1, by go_num, by omega, by rw [Hstep.out]; exact (HR2.out.move ((Below.refl _ _).alloc (Nat.le_refl _) _)).skip rfl⟩
              case measure => simp [intOf]; omega
            | true =>
              have hrp : 0 ≤ rp := HP.out t (List.mem_of_getElem? Ht.out) _ (List.mem_of_getElem? Hx.out) rfl
              obtain ⟨j, rfl⟩ := Int.eq_ofNat_of_zero_le hrp
              by_cases j0 : (j : Int) ≥ th.length
              · have j0' := decide_eq_true j0
                have j0'' : decide (th.length ≤ j) = true := decide_eq_true (by omega)
                go_wp2
                go_quiet (fail)
                go_wp2
                go_ret
                exact ⟨ret_f HB.out (fun h => by
                  obtain ⟨⟨x, hx, _⟩, _⟩ := h.ok_at Ht.out Hx.out rfl
                  have := (List.getElem?_eq_some_iff.1 hx).1
                  simp at this; omega), below_call HR2.out.b (Nat.le_refl _) (below_drewN ((Below.refl _ _).alloc (Nat.le_refl _) _) _)⟩
              · have j0' := decide_eq_false j0
                have j0'' : decide (th.length ≤ j) = false := decide_eq_false (by omega)
                have j1 : (j : Int) < th.length := by omega
                have j40 : (j : Int) < 40 := by omega
                have jp : (0 : Int) ≤ (j : Int) := Int.natCast_nonneg j
                obtain ⟨x, hx⟩ : ∃ x, th[j]? = some x := ⟨_, List.getElem?_eq_getElem (by omega)⟩
                obtain ⟨ad3, rfl, hc⟩ := (H0.out.below HR2.out.b) j x hx
                have Hj := Aside.mk hx
                clear hx
                obtain ⟨xr, xa⟩ := x
                have t0 := hc.c0
                have t1 := hc.c1
                clear hc
                have t0' : ∀ o, (wr.alloc o).cell? (ad3.add (j * 2)) = some (.int .i64 xr) := fun o => cell_old ((Below.refl _ _).alloc (Nat.le_refl _) _) t0
                have t1' : ∀ o, (wr.alloc o).cell? ⟨(ad3.add (j * 2)).block, (ad3.add (j * 2)).off + 1, none⟩ = some (.bool xa) := fun o => cell_old ((Below.refl _ _).alloc (Nat.le_refl _) _) t1
                have hj : wr.cell? ⟨w.heap.size, j, none⟩ = some (.bool (decide ((j : Int) ∈ reps (slotsOf (ts.take p) ++ t.f0.take k)))) := HR2.out.r.cell (i := j) (by omega)
                have hfj := HR2.out.r.frozen j
                have HK : Aside (∀ y : Th, th[j]? = some y → y = ⟨xr, xa⟩) := ⟨fun y hy => by rw [Hj.out] at hy; exact (Option.some.inj hy).symm⟩
                cases xa with
                | false =>
                  go_wp2
                  go_quiet (fail)
                  go_wp2
                  go_ret
                  exact ⟨ret_f HB.out (fun h => by
                    obtain ⟨⟨x, hx, hxa, _⟩, _⟩ := h.ok_at Ht.out Hx.out rfl
                    rw [HK.out x hx] at hxa
                    cases hxa), below_call HR2.out.b (Nat.le_refl _) (below_drewN ((Below.refl _ _).alloc (Nat.le_refl _) _) _)⟩
                | true =>
                  by_cases e : xr = r
                  · subst e
                    by_cases m : (j : Int) ∈ reps (slotsOf (ts.take p) ++ t.f0.take k)
                    · rw [decide_eq_true m] at hj
                      have M := Aside.mk m
                      clear m
                      go_wp2
                      go_quiet (fail)
                      go_wp2
                      go_ret
                      exact ⟨ret_f HB.out (fun h => (h.ok_at Ht.out Hx.out rfl).2 M.out), below_call HR2.out.b (Nat.le_refl _) (below_drewN ((Below.refl _ _).alloc (Nat.le_refl _) _) _)⟩
                    · rw [decide_eq_false m] at hj
                      have M := Aside.mk m
                      clear m
                      go_wp2
                      go_quiet (fail)
                      go_wp2
                      go_roundw
                      case rel => exact ⟨k + 1, by go_num, by omega, by rw [Hstep.out]; exact (HR2.out.move (below_drewN ((Below.refl _ _).alloc (Nat.le_refl _) _) _)).put rfl rfl ⟨_, Hj.out, rfl, rfl⟩ M.out⟩
                      case measure => simp [intOf]; omega
                  · have e' : (xr != r) = true := by simpa using e
                    have E := Aside.mk e
                    clear e
                    go_wp2
                    go_quiet (fail)
                    go_wp2
                    go_ret
                    exact ⟨ret_f HB.out (fun h => by
                      obtain ⟨⟨x, hx, _, hxr⟩, _⟩ := h.ok_at Ht.out Hx.out rfl
                      rw [HK.out x hx] at hxr
                      exact E.out hxr), below_call HR2.out.b (Nat.le_refl _) (below_drewN ((Below.refl _ _).alloc (Nat.le_refl _) _) _)⟩
        · have hke : t.f0.take k = t.f0 := List.take_of_length_le (by omega)
          have HS : Aside (slotsOf (ts.take (p + 1)) = slotsOf (ts.take p) ++ t.f0.take k) := ⟨by rw [slotsOf_snoc Ht.out, hke]⟩
          clear hke
          go_wp2
          go_roundw
          case rel => exact ⟨p + 1, by go_num, by omega, by rw [HS.out]; exact HR2.out⟩
          case measure => simp [intOf]; omega
    · have hke : ts.take p = ts := List.take_of_length_le (by omega)
      have hR := HR.out
      rw [hke] at hR
      have HF := Aside.mk hR
      clear hR hke HR
      have gw0 := cell_old HF.out.b gc0
      go_wp2
      go_loopw [84] (fun v wr => ∃ k : Nat, v = .int .i64 k ∧ k ≤ th.length ∧ OL w th (slotsOf ts) wr ∧ ∀ i (x : Th), i < k → th[i]? = some x → (x.f1 = true ↔ (i : Int) ∈ reps (slotsOf ts))) (fun v _ => th.length - (intOf v).toNat)
      case atStart => exact ⟨0, rfl, Nat.zero_le _, HF.out, fun i x hi => by omega⟩
      case round =>
        clear HF gw0 hlt hp hsz
        obtain ⟨k, rfl, hk, hR, hal⟩ := hrel
        have HR := Aside.mk hR
        have HA := Aside.mk hal
        have hsz := hR.g
        clear hR hal
        by_cases hlt : k < th.length
        · obtain ⟨x, hx⟩ : ∃ x, th[k]? = some x := ⟨_, List.getElem?_eq_getElem hlt⟩
          obtain ⟨ad, rfl, hc⟩ := (H0.out.below HR.out.b) k x hx
          have Hx := Aside.mk hx
          clear hx
          obtain ⟨xr, xa⟩ := x
          have q0 := hc.c0
          have q1 := hc.c1
          clear hc
          have hj : wr.cell? ⟨w.heap.size, k, none⟩ = some (.bool (decide ((k : Int) ∈ reps (slotsOf ts)))) := HR.out.r.cell (i := k) (by omega)
          generalize hm : decide ((k:Int) ∈ reps (slotsOf ts)) = m at hj
          have hj' : ∀ o, (wr.alloc o).cell? ⟨w.heap.size, k, none⟩ = some (.bool m) := fun o => cell_old (((Below.refl _ _).alloc (Nat.le_refl _) _)) hj
          have k0 : (0 : Int) ≤ (k : Int) := Int.natCast_nonneg k
          have k40 : (k : Int) < 40 := by omega
          have HE : Aside ((k : Int) ∈ reps (slotsOf ts) ↔ m = true) := ⟨by rw [← hm]; simp⟩
          clear hm
          by_cases e : xa = m
          · obtain rfl := e
            go_wp2
            go_quiet (fail)
            go_wp2
            go_roundw
            case rel =>
              refine ⟨k + 1, by go_num, by omega, HR.out.move (below_drewN ((Below.refl _ _).alloc (Nat.le_refl _) _) _), fun i x hi hx => ?_⟩
              by_cases q : i = k
              · subst q
                rw [Hx.out] at hx
                obtain rfl := Option.some.inj hx
                rw [HE.out]
              · exact HA.out i x (by omega) hx
            case measure => simp [intOf]; omega
          · have e' : (xa == m) = false := by simpa using e
            have E := Aside.mk e
            clear e
            go_wp2
            go_quiet (fail)
            go_wp2
            go_ret
            exact ⟨ret_f HB.out (fun h => by
              have h3 := h.al k _ Hx.out
              rw [HE.out] at h3
              apply E.out
              rw [Bool.eq_iff_iff]
              exact h3), below_call HR.out.b (Nat.le_refl _) (below_drewN ((Below.refl _ _).alloc (Nat.le_refl _) _) _)⟩
        · go_wp2
          go_ret
          exact ⟨ret_t HB.out ⟨HR.out.ok, HR.out.nd, fun i x hx => HA.out i x (by have := (List.getElem?_eq_some_iff.1 hx).1; omega) hx⟩, HR.out.b⟩
end Go.Proofs.Ytidkmlolcfapdaa
