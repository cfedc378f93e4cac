import Derived.Test.YtidkmlolcfapdaaSt
set_option linter.unusedVariables false
set_option linter.unusedSimpArgs false
namespace Go.Proofs.Ytidkmlolcfapdaa
open Go.RowKit
set_option maxHeartbeats 1000000 in
theorem l16Has_calls (v : Value) (l : List Int) (n : Int) (w : World) (h : RdS encI 1 w v l) :
    Calls Try.prog 62 #[v, .int .i64 n] w fun e w' => e = .returned (.bool (decide (n ∈ l))) ∧ w = w' := by
  obtain ⟨A, c, rfl, hl, hm, g⟩ := h
  have H1 := Aside.mk g
  clear g
  generalize hb : decide (n ∈ l) = b
  have HB : Aside (b = true ↔ n ∈ l) := ⟨by rw [← hb]; simp⟩
  clear hb
  go_enter Try.func62, Try.ntmps62
  go_wp2
  go_loop [9] (fun v => ∃ j : Nat, v = .int .i64 j ∧ j ≤ l.length ∧ n ∉ l.take j) (fun v => l.length - (intOf v).toNat)
  case atStart => exact ⟨0, rfl, Nat.zero_le _, by simp⟩
  case round =>
    obtain ⟨j, rfl, hj, hnj⟩ := hrel
    have HNJ := Aside.mk hnj
    clear hnj
    by_cases hji : j < l.length
    · obtain ⟨y, hy⟩ : ∃ y, l[j]? = some y := ⟨_, List.getElem?_eq_getElem hji⟩
      obtain ⟨ad, rfl, hcy⟩ := H1.out.int hy
      have Hy := Aside.mk hy
      clear hy
      by_cases e : y = n
      · subst e
        go_wp2
        go_ret
        exact ⟨ret_t HB.out (List.mem_of_getElem? Hy.out), rfl⟩
      · have e' : (y == n) = false := by simpa using e
        have HE := Aside.mk e
        clear e
        go_wp2
        go_round
        case rel => exact ⟨j + 1, by go_num, by omega, by
          rw [take_snoc Hy.out, List.mem_append, List.mem_singleton]
          rintro (h | h)
          · exact HNJ.out h
          · exact HE.out h.symm⟩
        case measure => simp [intOf]; omega
    · have hke : l.take j = l := List.take_of_length_le (by omega)
      have HN : Aside (n ∉ l) := ⟨hke ▸ HNJ.out⟩
      clear hke
      go_wp2
      go_ret
      exact ⟨ret_f HB.out HN.out, rfl⟩
def slotT (sl : List H) (k : Int) : Option H := if 0 ≤ k then sl[k.toNat]? else none
set_option maxHeartbeats 1000000 in
theorem l16Used_calls (vs vf : Value) (sl : List H) (k : Int) (w : World) (a : H) (ha : (slotT sl k).getD zH = a) (h0 : RdS encH 6 w vs sl) :
    Calls Try.prog 96 #[.agg #[vs, vf], .int .i64 k] w fun e w' => e = .returned (.tuple #[.agg #[.bool a.f0, .int .i64 a.f1, .int .i64 a.f2, .bool a.f3, .int .i64 a.f4, .int .i64 a.f5], .bool a.f0]) ∧ Below w.heap.size w w' := by
  obtain ⟨A0, c0, rfl, hl0, hm0, g0⟩ := h0
  have hin := l1In_calls k 0 ((sl.length : Int) - 1)
  have HIN := Aside.mk hin
  clear hin
  by_cases hr : 0 ≤ k ∧ k < sl.length
  · obtain ⟨n0, nl⟩ := hr
    obtain ⟨m, rfl⟩ := Int.eq_ofNat_of_zero_le n0
    have hI : inB (m : Int) 0 ((sl.length : Int) - 1) = true := inB_iff.2 ⟨by omega, by omega⟩
    obtain ⟨h, hx⟩ : ∃ x, sl[m]? = some x := ⟨_, List.getElem?_eq_getElem (by omega)⟩
    obtain ⟨ad2, rfl, hc⟩ := g0 m h hx
    have E : h = a := by rw [← ha]; simp [slotT, hx]
    subst E
    clear hx g0 ha
    obtain ⟨u, r, rp, o, l, s⟩ := h
    have q0 := hc.c0
    have q1 := hc.c1
    have q2 := hc.c2
    have q3 := hc.c3
    have q4 := hc.c4
    have q5 := hc.c5
    clear hc
    have r0 : ∀ o o2, _ := fun o o2 => cell_old (((Below.refl _ _).alloc (Nat.le_refl _) o).alloc (by simp) o2) q0
    have r1 : ∀ o o2, _ := fun o o2 => cell_old (((Below.refl _ _).alloc (Nat.le_refl _) o).alloc (by simp) o2) q1
    have r2 : ∀ o o2, _ := fun o o2 => cell_old (((Below.refl _ _).alloc (Nat.le_refl _) o).alloc (by simp) o2) q2
    have r3 : ∀ o o2, _ := fun o o2 => cell_old (((Below.refl _ _).alloc (Nat.le_refl _) o).alloc (by simp) o2) q3
    have r4 : ∀ o o2, _ := fun o o2 => cell_old (((Below.refl _ _).alloc (Nat.le_refl _) o).alloc (by simp) o2) q4
    have r5 : ∀ o o2, _ := fun o o2 => cell_old (((Below.refl _ _).alloc (Nat.le_refl _) o).alloc (by simp) o2) q5
    go_enter Try.func96, Try.ntmps96
    go_wp2_with fail
    refine (HIN.out _).mono ?_
    rintro e w1 ⟨rfl, rfl⟩
    rw [hI]
    clear hI
    go_wp2
    go_region
    all_goals
      go_wp2
      exact bodyPost_ret (v := .tuple #[.agg #[.bool u, .int .i64 r, .int .i64 rp, .bool o, .int .i64 l, .int .i64 s], .bool u]) (by simp [results, Try.results96, go_sem]) rfl ⟨rfl, by repeat (first | exact Below.refl _ _ | refine Below.drew ?_ | refine below_drewN ?_ _ | refine Below.alloc ?_ (by simp) _ | refine Below.setCell ?_ (by simp) _)⟩
  · have hI : inB k 0 ((sl.length : Int) - 1) = false := by
      rw [Bool.eq_false_iff]
      intro h
      rw [inB_iff] at h
      omega
    have E : zH = a := by
      rw [← ha, slotT]
      split
      · rw [List.getElem?_eq_none (by omega)]; rfl
      · rfl
    subst E
    go_enter Try.func96, Try.ntmps96
    go_wp2_with fail
    refine (HIN.out _).mono ?_
    rintro e w1 ⟨rfl, rfl⟩
    rw [hI]
    clear hI
    go_wp2
    exact bodyPost_ret (v := .tuple #[vH zH, .bool false]) (by simp [results, Try.results96, go_sem, zH]) rfl ⟨rfl, by repeat (first | exact Below.refl _ _ | refine Below.drew ?_ | refine below_drewN ?_ _ | refine Below.alloc ?_ (by simp) _ | refine Below.setCell ?_ (by simp) _)⟩
end Go.Proofs.Ytidkmlolcfapdaa
