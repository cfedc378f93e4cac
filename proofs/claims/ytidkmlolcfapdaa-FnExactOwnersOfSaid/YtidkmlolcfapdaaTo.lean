import Derived.Test.YtidkmlolcfapdaaGt
set_option linter.unusedVariables false
set_option linter.unusedSimpArgs false
namespace Go.Proofs.Ytidkmlolcfapdaa
open Go.RowKit

/-- Things and those that ended are right, as the program looks. -/
structure ThOk (th : List Th) (en : List Int) : Prop where
  l40 : th.length ≤ 40
  len : en.length ≤ th.length
  ok : ∀ x ∈ en, 0 ≤ x ∧ x < (th.length : Int)
  nd : en.Nodup
  t : ∀ (k : Nat) (x : Th), th[k]? = some x → 0 ≤ x.f0 ∧ x.f0 ≤ 9 ∧ (x.f1 = true ↔ (k : Int) ∉ en)

def AR1 (w : World) (g : Nat) (n : Nat) (fr : List Int) (wr : World) (k : Nat) : Prop :=
  Below w.heap.size w wr ∧ w.heap.size ≤ g ∧ wr.rowIs g 130 40 (fun j => .bool (decide ((j:Int) ∈ fr.take k))) ∧ (∀ x ∈ fr.take k, 0 ≤ x ∧ x < (n : Int)) ∧ (fr.take k).Nodup ∧ k ≤ fr.length
theorem AR1.start {w W : World} (hb : Below w.heap.size w W) (n : Nat) (fr : List Int) (C : Array Value) (hC : C = Array.replicate 40 (.bool false)) :
    AR1 w W.heap.size n fr (W.alloc (.cells C 130)) 0 := by
  refine ⟨hb.alloc hb.size _, hb.size, ?_, by simp, by simp, Nat.zero_le _⟩
  have h := World.rowIs_alloc W C 130 (fun j => .bool (decide ((j:Int) ∈ fr.take 0))) (by
    intro i hi
    subst hC
    simp at hi
    simp [hi])
  rw [show C.size = 40 by rw [hC]; simp] at h
  exact h
theorem AR1.step {w : World} {g n : Nat} {fr : List Int} {wr : World} {k j : Nat} (h : AR1 w g n fr wr k) (hk : fr[k]? = some (j : Int)) (hj : (j : Int) < n) (hnj : (j : Int) ∉ fr.take k) :
    AR1 w g n fr (wr.setCell ⟨g, j, none⟩ (.bool true)) (k + 1) := by
  obtain ⟨h1, h2, h3, h4, h5, h6⟩ := h
  have ht := take_snoc hk
  refine ⟨h1.setCell h2 _, h2, (h3.set j _).congr ?_, ?_, ?_, ?_⟩
  · intro i hi
    rw [ht]
    by_cases e : i = j
    · subst e; simp
    · have e' : (i : Int) ≠ j := by omega
      simp [e, e']
  · intro x hx
    rw [ht] at hx
    rcases List.mem_append.1 hx with hx | hx
    · exact h4 x hx
    · rw [List.mem_singleton.1 hx]; omega
  · rw [ht, List.nodup_append]
    exact ⟨h5, by simp, fun a ha b hb => by rw [List.mem_singleton.1 hb]; rintro rfl; exact hnj ha⟩
  · have := (List.getElem?_eq_some_iff.1 hk).1
    omega
/-- A later loop: the array stays, each of the first k is looked at. -/
def AR2 (w : World) (g : Nat) (P : Nat → Prop) (m : Nat) (f : Nat → Bool) (wr : World) (k : Nat) : Prop :=
  Below w.heap.size w wr ∧ w.heap.size ≤ g ∧ g < wr.heap.size ∧ wr.rowIs g 130 40 (fun j => .bool (f j)) ∧ k ≤ m ∧ ∀ i, i < k → P i
theorem AR2.step {w : World} {g : Nat} {P : Nat → Prop} {m : Nat} {f : Nat → Bool} {wr w2 : World} {k : Nat} (h : AR2 w g P m f wr k) (hb : Below wr.heap.size wr w2) (hk : k < m) (hp : P k) : AR2 w g P m f w2 (k + 1) := by
  obtain ⟨h1, h2, h3, h4, h5, h6⟩ := h
  refine ⟨below_call h1 (Nat.le_refl _) hb, h2, Nat.lt_of_lt_of_le h3 hb.size, h4.of_block (hb.block _ h3), hk, fun i hi => ?_⟩
  by_cases e : i = k
  · subst e; exact hp
  · exact h6 i (by omega)

set_option maxHeartbeats 1000000 in
theorem thingsOk_calls (g : Nat) (v0 v1 v2 v3 : Value) (th : List Th) (en : List Int) (w : World) (b : Bool)
    (hg : Blk w g #[v0, v1, v2, v3] 35) (h0 : RdS encTh 2 w v0 th) (h1 : RdS encI 1 w v3 en) (hb : b = true ↔ ThOk th en) :
    Calls Try.prog 58 #[.pointer (some ⟨g, 0, none⟩)] w fun e w' => e = .returned (.bool b) ∧ Below w.heap.size w w' := by
  obtain ⟨A0, c0, rfl, -, -, g0⟩ := h0
  obtain ⟨A1, c1, rfl, -, -, g1⟩ := h1
  have H0 := Aside.mk g0
  have H1 := Aside.mk g1
  have HB := Aside.mk hb
  have HG := Aside.mk hg
  have gc0 : w.cell? ⟨g, 0, none⟩ = some (.slice A0 th.length c0) := hg.cell 0
  have gc3 : w.cell? ⟨g, 3, none⟩ = some (.slice A1 en.length c1) := hg.cell 3
  have hgl := hg.lt
  have gne : ¬ g = w.heap.size := by omega
  clear g0 g1 hb hg
  by_cases c : th.length > 40
  · have c' : decide ((th.length : Int) > 40) = true := decide_eq_true (by omega)
    go_enter Try.func58, Try.ntmps58
    go_wp2
    go_quiet (fail)
    go_wp2
    go_ret
    exact ⟨ret_f HB.out (fun h => by have := h.l40; omega), below_drewN (Below.refl _ _) _⟩
  · by_cases d : en.length > th.length
    · have c' : decide ((th.length : Int) > 40) = false := decide_eq_false (by omega)
      have d' : decide ((en.length : Int) > (th.length : Int)) = true := decide_eq_true (by omega)
      have d'' : decide (th.length < en.length) = true := decide_eq_true (by omega)
      go_enter Try.func58, Try.ntmps58
      go_wp2
      go_quiet (fail)
      go_wp2
      go_ret
      exact ⟨ret_f HB.out (fun h => by have := h.len; omega), below_drewN (Below.refl _ _) _⟩
    · have c' : decide ((th.length : Int) > 40) = false := decide_eq_false (by omega)
      have d' : decide ((en.length : Int) > (th.length : Int)) = false := decide_eq_false (by omega)
      have d'' : decide (th.length < en.length) = false := decide_eq_false (by omega)
      go_enter Try.func58, Try.ntmps58
      go_wp2
      go_quiet (fail)
      go_wp2
      go_loopw [32] (fun v wr => ∃ k : Nat, v = .int .i64 k ∧ AR1 w w.heap.size th.length en wr k) (fun v _ => en.length - (intOf v).toNat)
      case atStart => exact ⟨0, rfl, AR1.start (below_drewN (Below.refl _ _) _) _ _ _ rfl⟩
      case round =>
        obtain ⟨k, rfl, hR⟩ := hrel
        have HR := Aside.mk hR
        obtain ⟨-, -, -, -, -, hk⟩ := hR
        have hc0 := cell_old HR.out.1 gc0
        by_cases hlt : k < en.length
        · obtain ⟨x, hx⟩ : ∃ x, en[k]? = some x := ⟨_, List.getElem?_eq_getElem hlt⟩
          obtain ⟨ad, rfl, hcx⟩ := (H1.out.below HR.out.1).int hx
          have Hx := Aside.mk hx
          clear hx
          by_cases x0 : x < 0
          · have x0' := decide_eq_true x0
            go_wp2
            go_ret
            exact ⟨ret_f HB.out (fun h => by have := h.ok x (List.mem_of_getElem? Hx.out); omega), HR.out.1⟩
          · by_cases x1 : x ≥ th.length
            · have x0' := decide_eq_false x0
              have x1' := decide_eq_true x1
              go_wp2
              go_ret
              exact ⟨ret_f HB.out (fun h => by have := h.ok x (List.mem_of_getElem? Hx.out); omega), HR.out.1⟩
            · have x0' := decide_eq_false x0
              have x1' := decide_eq_false x1
              obtain ⟨j, rfl⟩ := Int.eq_ofNat_of_zero_le (by omega : 0 ≤ x)
              have hj := HR.out.2.2.1.cell (i := j) (by omega)
              have hfj := HR.out.2.2.1.frozen j
              by_cases x2 : (j:Int) ∈ en.take k
              · rw [decide_eq_true x2] at hj
                have X2 := Aside.mk x2
                clear x2
                go_wp2
                go_ret
                exact ⟨ret_f HB.out (fun h => not_nodup Hx.out X2.out h.nd), HR.out.1⟩
              · rw [decide_eq_false x2] at hj
                have X2 := Aside.mk x2
                clear x2
                go_wp2
                go_roundw
                case rel => exact ⟨k + 1, by go_num, HR.out.step Hx.out (by omega) X2.out⟩
                case measure => simp [intOf]; omega
        · have hke : en.take k = en := List.take_of_length_le (by omega)
          have hG : AR2 w w.heap.size (fun i => ∀ x, th[i]? = some x → 0 ≤ x.f0 ∧ x.f0 ≤ 9 ∧ (x.f1 = true ↔ (i : Int) ∉ en)) th.length (fun j => decide ((j : Int) ∈ en)) wr 0 := by
            refine ⟨HR.out.1, Nat.le_refl _, HR.out.2.2.1.lt, ?_, Nat.zero_le _, fun i hi => by omega⟩
            have := HR.out.2.2.1
            rwa [hke] at this
          have HO : Aside ((∀ x ∈ en, 0 ≤ x ∧ x < (th.length : Int)) ∧ en.Nodup) := ⟨by
            have h4 := HR.out.2.2.2.1
            have h5 := HR.out.2.2.2.2.1
            rw [hke] at h4 h5
            exact ⟨h4, h5⟩⟩
          have HG2 := Aside.mk hG
          clear hG hke HR
          go_wp2
          go_loopw [60] (fun v wr => ∃ k : Nat, v = .int .i64 k ∧ AR2 w w.heap.size (fun i => ∀ x, th[i]? = some x → 0 ≤ x.f0 ∧ x.f0 ≤ 9 ∧ (x.f1 = true ↔ (i : Int) ∉ en)) th.length (fun j => decide ((j : Int) ∈ en)) wr k) (fun v _ => th.length - (intOf v).toNat)
          case atStart => exact ⟨0, rfl, HG2.out⟩
          case round =>
            clear HG2 hc0 hlt hk
            obtain ⟨k, rfl, hR⟩ := hrel
            have HR := Aside.mk hR
            obtain ⟨-, -, hsz, -, hk, -⟩ := hR
            by_cases hlt : k < th.length
            · obtain ⟨x, hx⟩ : ∃ x, th[k]? = some x := ⟨_, List.getElem?_eq_getElem hlt⟩
              obtain ⟨ad, rfl, hc⟩ := (H0.out.below HR.out.1) k x hx
              have Hx := Aside.mk hx
              clear hx
              obtain ⟨r, al⟩ := x
              have q0 := hc.c0
              have q1 := hc.c1
              clear hc
              have hj : wr.cell? ⟨w.heap.size, k, none⟩ = some (.bool (decide ((k : Int) ∈ en))) := HR.out.2.2.2.1.cell (i := k) (by omega)
              generalize hm : decide ((k:Int) ∈ en) = m at hj
              have hj' : ∀ o, (wr.alloc o).cell? ⟨w.heap.size, k, none⟩ = some (.bool m) := fun o => cell_old (((Below.refl _ _).alloc (Nat.le_refl _) _)) hj
              have k0 : (0 : Int) ≤ (k : Int) := Int.natCast_nonneg k
              have k40 : (k : Int) < 40 := by omega
              have HE : Aside ((k : Int) ∈ en ↔ m = true) := ⟨by rw [← hm]; simp⟩
              clear hm
              by_cases r0 : r < 0
              · have r0' := decide_eq_true r0
                go_wp2
                go_quiet (fail)
                go_wp2
                go_ret
                exact ⟨ret_f HB.out (fun h => by have h3 := h.t k _ Hx.out; simp only at h3; omega), below_call HR.out.1 (Nat.le_refl _) (below_drewN ((Below.refl _ _).alloc (Nat.le_refl _) _) _)⟩
              · have r0' := decide_eq_false r0
                by_cases r9 : 9 < r
                · have r9' : decide (r > 9) = true := decide_eq_true r9
                  go_wp2
                  go_quiet (fail)
                  go_wp2
                  go_ret
                  exact ⟨ret_f HB.out (fun h => by have h3 := h.t k _ Hx.out; simp only at h3; omega), below_call HR.out.1 (Nat.le_refl _) (below_drewN ((Below.refl _ _).alloc (Nat.le_refl _) _) _)⟩
                · have r9' : decide (r > 9) = false := decide_eq_false r9
                  by_cases e : al = m
                  · obtain rfl := e
                    go_wp2
                    go_quiet (fail)
                    go_wp2
                    go_ret
                    exact ⟨ret_f HB.out (fun h => by have h3 := (h.t k _ Hx.out).2.2; rw [HE.out] at h3; cases al <;> simp at h3), below_call HR.out.1 (Nat.le_refl _) (below_drewN ((Below.refl _ _).alloc (Nat.le_refl _) _) _)⟩
                  · have e' : (al == m) = false := by simpa using e
                    have E := Aside.mk e
                    clear e
                    go_wp2
                    go_quiet (fail)
                    go_wp2
                    go_roundw
                    case rel =>
                      refine ⟨k + 1, by go_num, HR.out.step (below_drewN ((Below.refl _ _).alloc (Nat.le_refl _) _) _) (by omega) (fun x hx => ?_)⟩
                      rw [Hx.out] at hx
                      obtain rfl := Option.some.inj hx
                      refine ⟨by simp only; omega, by simp only; omega, ?_⟩
                      rw [HE.out]
                      have := E.out
                      cases al <;> cases m <;> simp_all
                    case measure => simp [intOf]; omega
            · go_wp2
              go_ret
              exact ⟨ret_t HB.out ⟨by omega, by omega, HO.out.1, HO.out.2, fun i x hi => HR.out.2.2.2.2.2 i (by have := (List.getElem?_eq_some_iff.1 hi).1; omega) x hi⟩, HR.out.1⟩
end Go.Proofs.Ytidkmlolcfapdaa
