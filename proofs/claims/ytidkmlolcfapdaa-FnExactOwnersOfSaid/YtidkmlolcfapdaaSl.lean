import Derived.Test.YtidkmlolcfapdaaOo
import Derived.Test.YtidkmlolcfapdaaMap
import Derived.Laws.ResultCell
set_option linter.unusedVariables false
set_option linter.unusedSimpArgs false
namespace Go.Proofs.Ytidkmlolcfapdaa
open Go.RowKit
/-- The slot at a place, used or not. -/
def slotv (ts : List T) (p k : Int) : Option H := if 0 ≤ p ∧ 0 ≤ k then (ts[p.toNat]?).bind (fun t => t.f0[k.toNat]?) else none
theorem slotv_some {ts : List T} {p k : Nat} {t : T} {h : H} (ht : ts[p]? = some t) (hh : t.f0[k]? = some h) : slotv ts p k = some h := by
  simp [slotv, ht, hh]
set_option maxHeartbeats 1000000 in
theorem slot_calls (g : Nat) (v0 v1 v2 v3 : Value) (ts : List T) (w : World) (p k : Int)
    (hg : Blk w g #[v0, v1, v2, v3] 35) (h1 : RdTs w v1 ts) :
    Calls Try.prog 94 #[.pointer (some ⟨g, 0, none⟩), .int .i64 p, .int .i64 k] w fun e w' => e = .returned (.tuple #[vH ((slotv ts p k).getD zH), .bool ((slotv ts p k).getD zH).f0]) ∧ Below w.heap.size w w' := by
  obtain ⟨A1, c1, rfl, hl1, hm1, g1⟩ := h1
  have H1 := Aside.mk g1
  have gc1 : w.cell? ⟨g, 1, none⟩ = some (.slice A1 ts.length c1) := hg.cell 1
  have hgl := hg.lt
  have gne : ¬ g = w.heap.size := by omega
  clear g1 hg
  by_cases c0 : p < 0
  · have c0' := decide_eq_true c0
    have E : Aside (slotv ts p k = none) := ⟨by simp [slotv]; omega⟩
    go_enter Try.func94, Try.ntmps94
    go_wp2
    exact bodyPost_ret (v := .tuple #[vH zH, .bool false]) (by simp [results, Try.results94, go_sem, zH]) rfl ⟨by rw [E.out]; rfl, (Below.refl _ _).alloc (Nat.le_refl _) _⟩
  · have c0' := decide_eq_false c0
    by_cases d0 : p ≥ ts.length
    · have d0' := decide_eq_true d0
      have E : Aside (slotv ts p k = none) := ⟨by simp only [slotv]; split <;> simp [List.getElem?_eq_none (show ts.length ≤ p.toNat by omega)]⟩
      go_enter Try.func94, Try.ntmps94
      go_wp2
      exact bodyPost_ret (v := .tuple #[vH zH, .bool false]) (by simp [results, Try.results94, go_sem, zH]) rfl ⟨by rw [E.out]; rfl, (Below.refl _ _).alloc (Nat.le_refl _) _⟩
    · have d0' := decide_eq_false d0
      by_cases e0 : k < 0
      · have e0' := decide_eq_true e0
        have E : Aside (slotv ts p k = none) := ⟨by simp [slotv]; omega⟩
        go_enter Try.func94, Try.ntmps94
        go_wp2
        exact bodyPost_ret (v := .tuple #[vH zH, .bool false]) (by simp [results, Try.results94, go_sem, zH]) rfl ⟨by rw [E.out]; rfl, (Below.refl _ _).alloc (Nat.le_refl _) _⟩
      · have e0' := decide_eq_false e0
        obtain ⟨n, rfl⟩ := Int.eq_ofNat_of_zero_le (by omega : 0 ≤ p)
        obtain ⟨m, rfl⟩ := Int.eq_ofNat_of_zero_le (by omega : 0 ≤ k)
        obtain ⟨t, ht⟩ : ∃ t, ts[n]? = some t := ⟨_, List.getElem?_eq_getElem (by omega)⟩
        obtain ⟨ad, s, f, rfl, hc, hs, hf⟩ := H1.out n t ht
        have q0 := hc.c0
        have q0' : ∀ o, (w.alloc o).cell? (ad.add (n * 2)) = some s := fun o => cell_old ((Below.refl _ _).alloc (Nat.le_refl _) _) q0
        clear hc
        obtain ⟨A2, c2, rfl, hl2, hm2, g2⟩ := hs
        have n0 : (n : Int) < ts.length := by omega
        by_cases f0 : (m : Int) ≥ t.f0.length
        · have f0' := decide_eq_true f0
          have f0'' : decide (t.f0.length ≤ m) = true := decide_eq_true (by omega)
          have E : Aside (slotv ts n m = none) := ⟨by simp [slotv, ht]; omega⟩
          clear ht g2 hf
          go_enter Try.func94, Try.ntmps94
          go_wp2
          exact bodyPost_ret (v := .tuple #[vH zH, .bool false]) (by simp [results, Try.results94, go_sem, zH]) rfl ⟨by rw [E.out]; rfl, (Below.refl _ _).alloc (Nat.le_refl _) _⟩
        · have f0' := decide_eq_false f0
          have f0'' : decide (t.f0.length ≤ m) = false := decide_eq_false (by omega)
          have m0 : (m : Int) < t.f0.length := by omega
          obtain ⟨h, hh⟩ : ∃ h, t.f0[m]? = some h := ⟨_, List.getElem?_eq_getElem (by omega)⟩
          obtain ⟨ad2, rfl, hc⟩ := g2 m h hh
          have E : Aside (slotv ts n m = some h) := ⟨slotv_some ht hh⟩
          clear ht hh hf
          obtain ⟨u, r, rp, o, l, s⟩ := h
          have q0 := hc.c0
          have q1 := hc.c1
          have q2 := hc.c2
          have q3 := hc.c3
          have q4 := hc.c4
          have q5 := hc.c5
          clear hc
          have r0 : ∀ o, _ := fun o => cell_old ((Below.refl _ _).alloc (Nat.le_refl _) o) q0
          have r1 : ∀ o, _ := fun o => cell_old ((Below.refl _ _).alloc (Nat.le_refl _) o) q1
          have r2 : ∀ o, _ := fun o => cell_old ((Below.refl _ _).alloc (Nat.le_refl _) o) q2
          have r3 : ∀ o, _ := fun o => cell_old ((Below.refl _ _).alloc (Nat.le_refl _) o) q3
          have r4 : ∀ o, _ := fun o => cell_old ((Below.refl _ _).alloc (Nat.le_refl _) o) q4
          have r5 : ∀ o, _ := fun o => cell_old ((Below.refl _ _).alloc (Nat.le_refl _) o) q5
          go_enter Try.func94, Try.ntmps94
          go_wp2
          go_region
          all_goals
            go_wp2
            exact bodyPost_ret (v := .tuple #[.agg #[.bool u, .int .i64 r, .int .i64 rp, .bool o, .int .i64 l, .int .i64 s], .bool u]) (by simp [results, Try.results94, go_sem]) rfl ⟨by rw [E.out]; rfl, by repeat (first | exact Below.refl _ _ | refine Below.drew ?_ | refine below_drewN ?_ _ | refine Below.alloc ?_ (by simp) _ | refine Below.setCell ?_ (by simp) _)⟩
end Go.Proofs.Ytidkmlolcfapdaa
