import Derived.Test.YtidkmlolcfapdaaBase
import Derived.Test.YtidkmlolcfapdaaEq
set_option linter.unusedVariables false
set_option linter.unusedSimpArgs false
namespace Go.Proofs.Ytidkmlolcfapdaa
open Go.RowKit

def soundB (h : H) : Bool := h.f0 && decide (0 ≤ h.f1) && decide (h.f1 ≤ 9) && decide (0 ≤ h.f2) && decide (h.f2 ≤ 1000000) && decide (0 ≤ h.f4) && decide (h.f4 ≤ 1000) && (if h.f3 then h.f5 == 0 else decide (1 ≤ h.f5) && decide (h.f5 ≤ 1000))
set_option maxHeartbeats 400000 in
theorem sound_calls (h : H) (w : World) :
    Calls Try.prog 93 #[vH h] w fun e w' => e = .returned (.bool (soundB h)) ∧ Below w.heap.size w w' := by
  obtain ⟨u, r, p, o, l, s⟩ := h
  go_enter Try.func93, Try.ntmps93
  go_wp2
  all_goals
    go_ret
    refine ⟨ret_b ?_, (Below.refl _ _).alloc (Nat.le_refl _) _⟩
    unfold soundB
    first | (simp [*]; done) | (simp [*]; omega)

/-- A table is good, as the program looks. -/
structure TOk (sl : List H) (fr : List Int) : Prop where
  l40 : sl.length ≤ 40
  lfr : fr.length ≤ sl.length
  ok : ∀ x ∈ fr, 0 ≤ x ∧ x < (sl.length : Int)
  nd : fr.Nodup
  z : ∀ (k : Nat) (h : H), sl[k]? = some h → ((k : Int) ∈ fr ↔ h = zH)
  s : ∀ (k : Nat) (h : H), sl[k]? = some h → (k : Int) ∉ fr → soundB h = true

def GT1 (w : World) (vs vf : Value) (n : Nat) (fr : List Int) (wr : World) (k : Nat) : Prop :=
  Below w.heap.size w wr ∧ Blk wr w.heap.size #[vs, vf] 62 ∧ wr.rowIs (w.heap.size+1) 130 40 (fun j => .bool (decide ((j:Int) ∈ fr.take k))) ∧ (∀ x ∈ fr.take k, 0 ≤ x ∧ x < (n : Int)) ∧ (fr.take k).Nodup ∧ k ≤ fr.length
theorem GT1.start (w : World) (vs vf : Value) (n : Nat) (fr : List Int) (C : Array Value) (hC : C = Array.replicate 40 (.bool false)) :
    GT1 w vs vf n fr ((w.alloc (.cells #[vs, vf] 62)).alloc (.cells C 130)) 0 := by
  refine ⟨((Below.refl _ _).alloc (Nat.le_refl _) _).alloc (by simp) _, (Blk.new w _ _).alloc _, ?_, by simp, by simp, Nat.zero_le _⟩
  have h := World.rowIs_alloc (w.alloc (.cells #[vs, vf] 62)) C 130 (fun j => .bool (decide ((j:Int) ∈ fr.take 0))) (by
    intro i hi
    subst hC
    simp at hi
    simp [hi])
  rw [show C.size = 40 by rw [hC]; simp] at h
  simpa using h
theorem take_snoc {α : Type} {l : List α} {k : Nat} {x : α} (h : l[k]? = some x) : l.take (k + 1) = l.take k ++ [x] := by
  obtain ⟨hlt, he⟩ := List.getElem?_eq_some_iff.1 h
  rw [List.take_succ_eq_append_getElem hlt, he]
theorem GT1.step {w : World} {vs vf : Value} {n : Nat} {fr : List Int} {wr : World} {k j : Nat} (h : GT1 w vs vf n fr wr k) (hk : fr[k]? = some (j : Int)) (hj : (j : Int) < n) (hnj : (j : Int) ∉ fr.take k) :
    GT1 w vs vf n fr (wr.setCell ⟨w.heap.size + 1, j, none⟩ (.bool true)) (k + 1) := by
  obtain ⟨h1, h2, h3, h4, h5, h6⟩ := h
  have ht := take_snoc hk
  refine ⟨h1.setCell (by simp) _, h2.far (by simp) _, (h3.set j _).congr ?_, ?_, ?_, ?_⟩
  · intro i hi
    rw [ht]
    by_cases e : i = j
    · subst e; simp
    · have e' : (i : Int) ≠ j := by omega
      simp [e, e']
  · intro x hx
    rw [ht] at hx
    rcases List.mem_append.1 hx with hx | hx
    · exact h4 x hx
    · rw [List.mem_singleton.1 hx]; omega
  · rw [ht, List.nodup_append]
    exact ⟨h5, by simp, fun a ha b hb => by rw [List.mem_singleton.1 hb]; rintro rfl; exact hnj ha⟩
  · have := (List.getElem?_eq_some_iff.1 hk).1
    omega
theorem mem_of_take {l : List Int} {k : Nat} {x : Int} (h : x ∈ l.take k) : x ∈ l := List.mem_of_mem_take h
theorem not_nodup {l : List Int} {k : Nat} {x : Int} (hk : l[k]? = some x) (h : x ∈ l.take k) : ¬ l.Nodup := by
  intro hn
  rw [← List.take_append_drop k l] at hn
  obtain ⟨hlt, he⟩ := List.getElem?_eq_some_iff.1 hk
  rw [List.nodup_append] at hn
  refine hn.2.2 x h x ?_ rfl
  rw [List.drop_eq_getElem_cons hlt, he]
  exact List.mem_cons_self

/-- The second loop. -/
def GT2 (w : World) (vs vf : Value) (sl : List H) (fr : List Int) (wr : World) (k : Nat) : Prop :=
  Below w.heap.size w wr ∧ w.heap.size + 1 < wr.heap.size ∧ wr.rowIs (w.heap.size+1) 130 40 (fun j => .bool (decide ((j:Int) ∈ fr))) ∧ k ≤ sl.length ∧ (∀ (i : Nat) (h : H), i < k → sl[i]? = some h → ((i : Int) ∈ fr ↔ h = zH) ∧ ((i : Int) ∉ fr → soundB h = true))

theorem GT2.step {w : World} {vs vf : Value} {sl : List H} {fr : List Int} {wr w2 : World} {k : Nat} {h : H} (g : GT2 w vs vf sl fr wr k) (hk : sl[k]? = some h) (hb : Below wr.heap.size wr w2)
    (h1 : (k : Int) ∈ fr ↔ h = zH) (h2 : (k : Int) ∉ fr → soundB h = true) : GT2 w vs vf sl fr w2 (k + 1) := by
  obtain ⟨g1, g2, g3, g4, g5⟩ := g
  refine ⟨below_call g1 (Nat.le_refl _) hb, Nat.lt_of_lt_of_le g2 hb.size, g3.of_block (hb.block _ g2), ?_, fun i h' hi he => ?_⟩
  · have := (List.getElem?_eq_some_iff.1 hk).1
    omega
  · by_cases e : i = k
    · subst e
      rw [hk] at he
      obtain rfl := Option.some.inj he
      exact ⟨h1, h2⟩
    · exact g5 i h' (by omega) he
set_option maxHeartbeats 1000000 in
theorem goodTable_calls (vs vf : Value) (sl : List H) (fr : List Int) (w : World) (b : Bool)
    (h0 : RdS encH 6 w vs sl) (h1 : RdS encI 1 w vf fr) (hb : b = true ↔ TOk sl fr) :
    Calls Try.prog 57 #[.agg #[vs, vf]] w fun e w' => e = .returned (.bool b) ∧ Below w.heap.size w w' := by
  obtain ⟨A0, c0, rfl, -, -, g0⟩ := h0
  obtain ⟨A1, c1, rfl, -, -, g1⟩ := h1
  have H0 := Aside.mk g0
  have H1 := Aside.mk g1
  have HB := Aside.mk hb
  clear g0 g1 hb
  by_cases c : sl.length > 40
  · have c' : decide ((sl.length : Int) > 40) = true := decide_eq_true (by omega)
    go_enter Try.func57, Try.ntmps57
    go_wp2
    go_ret
    exact ⟨ret_f HB.out (fun h => by have := h.l40; omega), (Below.refl _ _).alloc (Nat.le_refl _) _⟩
  · by_cases d : fr.length > sl.length
    · have c' : decide ((sl.length : Int) > 40) = false := decide_eq_false (by omega)
      have d' : decide ((fr.length : Int) > (sl.length : Int)) = true := decide_eq_true (by omega)
      have d'' : decide (sl.length < fr.length) = true := decide_eq_true (by omega)
      go_enter Try.func57, Try.ntmps57
      go_wp2
      go_ret
      exact ⟨ret_f HB.out (fun h => by have := h.lfr; omega), (Below.refl _ _).alloc (Nat.le_refl _) _⟩
    · have c' : decide ((sl.length : Int) > 40) = false := decide_eq_false (by omega)
      have d' : decide ((fr.length : Int) > (sl.length : Int)) = false := decide_eq_false (by omega)
      have d'' : decide (sl.length < fr.length) = false := decide_eq_false (by omega)
      go_enter Try.func57, Try.ntmps57
      go_wp2
      go_loopw [24] (fun v wr => ∃ k : Nat, v = .int .i64 k ∧ GT1 w (.slice A0 sl.length c0) (.slice A1 fr.length c1) sl.length fr wr k) (fun v _ => fr.length - (intOf v).toNat)
      case atStart => exact ⟨0, rfl, GT1.start w _ _ _ _ _ rfl⟩
      case round =>
        obtain ⟨k, rfl, hR⟩ := hrel
        have HR := Aside.mk hR
        obtain ⟨-, -, -, -, -, hk⟩ := hR
        have hc0 : wr.cell? ⟨w.heap.size, 0, none⟩ = some (.slice A0 sl.length c0) := HR.out.2.1.cell 0
        by_cases hlt : k < fr.length
        · obtain ⟨x, hx⟩ : ∃ x, fr[k]? = some x := ⟨_, List.getElem?_eq_getElem hlt⟩
          obtain ⟨ad, rfl, hcx⟩ := (H1.out.below HR.out.1).int hx
          have Hx := Aside.mk hx
          clear hx
          by_cases x0 : x < 0
          · have x0' := decide_eq_true x0
            go_wp2
            go_ret
            exact ⟨ret_f HB.out (fun h => by have := h.ok x (List.mem_of_getElem? Hx.out); omega), HR.out.1⟩
          · by_cases x1 : x ≥ sl.length
            · have x0' := decide_eq_false x0
              have x1' := decide_eq_true x1
              go_wp2
              go_ret
              exact ⟨ret_f HB.out (fun h => by have := h.ok x (List.mem_of_getElem? Hx.out); omega), HR.out.1⟩
            · have x0' := decide_eq_false x0
              have x1' := decide_eq_false x1
              obtain ⟨j, rfl⟩ := Int.eq_ofNat_of_zero_le (by omega : 0 ≤ x)
              have hj := HR.out.2.2.1.cell (i := j) (by omega)
              have hfj := HR.out.2.2.1.frozen j
              by_cases x2 : (j:Int) ∈ fr.take k
              · rw [decide_eq_true x2] at hj
                have X2 := Aside.mk x2
                clear x2
                go_wp2
                go_ret
                exact ⟨ret_f HB.out (fun h => not_nodup Hx.out X2.out h.nd), HR.out.1⟩
              · rw [decide_eq_false x2] at hj
                have X2 := Aside.mk x2
                clear x2
                go_wp2
                go_roundw
                case rel => exact ⟨k + 1, by go_num, HR.out.step Hx.out (by omega) X2.out⟩
                case measure => simp [intOf]; omega
        · have hke : fr.take k = fr := List.take_of_length_le (by omega)
          have hG : GT2 w (.slice A0 sl.length c0) (.slice A1 fr.length c1) sl fr wr 0 := by
            refine ⟨HR.out.1, HR.out.2.2.1.lt, ?_, Nat.zero_le _, fun i h hi => by omega⟩
            have := HR.out.2.2.1
            rwa [hke] at this
          have HO : Aside ((∀ x ∈ fr, 0 ≤ x ∧ x < (sl.length : Int)) ∧ fr.Nodup) := ⟨by
            have h4 := HR.out.2.2.2.1
            have h5 := HR.out.2.2.2.2.1
            rw [hke] at h4 h5
            exact ⟨h4, h5⟩⟩
          have HG := Aside.mk hG
          clear hG hke HR
          go_wp2
          go_loopw [48] (fun v wr => ∃ k : Nat, v = .int .i64 k ∧ GT2 w (.slice A0 sl.length c0) (.slice A1 fr.length c1) sl fr wr k) (fun v _ => sl.length - (intOf v).toNat)
          case atStart => exact ⟨0, rfl, HG.out⟩
          case round =>
            clear HG hc0 hlt hk
            rename_i wr0 _ _
            obtain ⟨k, rfl, hR⟩ := hrel
            have HR := Aside.mk hR
            obtain ⟨-, hsz, -, hk, -⟩ := hR
            by_cases hlt : k < sl.length
            · obtain ⟨h, hx⟩ : ∃ x, sl[k]? = some x := ⟨_, List.getElem?_eq_getElem hlt⟩
              obtain ⟨ad, rfl, hc⟩ := (H0.out.below HR.out.1) k h hx
              have Hx := Aside.mk hx
              clear hx
              obtain ⟨u, r, p, o, l, s⟩ := h
              have q0 := hc.c0
              have q1 := hc.c1
              have q2 := hc.c2
              have q3 := hc.c3
              have q4 := hc.c4
              have q5 := hc.c5
              clear hc
              have hj := HR.out.2.2.1.cell (i := k) (by omega)
              generalize hm : decide ((k:Int) ∈ fr) = m at hj
              have Hm := Lib.hid hm; clear hm
              have hj' : ∀ o, (wr.alloc o).cell? ⟨w.heap.size + 1, k, none⟩ = some (.bool m) := fun o => cell_old (((Below.refl _ _).alloc (Nat.le_refl _) _)) hj
              have eqz : ∀ (d : Nat) (w : World), _ := fun d w => eqH_run d w u false r 0 p 0 o false l 0 s 0
              have k0 : (0 : Int) ≤ (k : Int) := Int.natCast_nonneg k
              have k40 : (k : Int) < 40 := by omega
              have hsz' : w.heap.size < wr.heap.size := by omega
              generalize hz : decide ((⟨u, r, p, o, l, s⟩ : H) = ⟨false, 0, 0, false, 0, 0⟩) = z at eqz
              have Hz := Lib.hid hz; clear hz
              generalize hS : soundB ⟨u, r, p, o, l, s⟩ = sb
              have HS := Lib.hid hS; clear hS
              have HE : Aside (((k : Int) ∈ fr ↔ m = true) ∧ ((⟨u, r, p, o, l, s⟩ : H) = zH ↔ z = true)) := ⟨by rw [← Hm.out]; simp, by rw [← Hz.out]; simp [zH]⟩
              cases m with
              | true =>
                cases z with
                | true =>
                  go_wp2
                  go_quiet (fail)
                  go_wp2
                  go_roundw
                  case rel => exact ⟨k + 1, by go_num, HR.out.step Hx.out (below_drewN ((Below.refl _ _).alloc (Nat.le_refl _) _) _) (by rw [HE.out.1, HE.out.2]) (fun h => absurd (HE.out.1.2 (by simp)) h)⟩
                  case measure => simp [intOf]; omega
                | false =>
                  go_wp2
                  go_quiet (fail)
                  go_wp2
                  go_ret
                  exact ⟨ret_f HB.out (fun h => by have h3 := h.z k _ Hx.out; rw [HE.out.1, HE.out.2] at h3; simp at h3), below_call HR.out.1 (Nat.le_refl _) (below_drewN ((Below.refl _ _).alloc (Nat.le_refl _) _) _)⟩
              | false =>
                cases z with
                | true =>
                  go_wp2
                  go_quiet (fail)
                  go_wp2
                  go_ret
                  exact ⟨ret_f HB.out (fun h => by have h3 := h.z k _ Hx.out; rw [HE.out.1, HE.out.2] at h3; simp at h3), below_call HR.out.1 (Nat.le_refl _) (below_drewN ((Below.refl _ _).alloc (Nat.le_refl _) _) _)⟩
                | false =>
                  go_wp2
                  go_region_held3 (fun w' => w'.cell? ⟨w.heap.size + 1, k, none⟩ = some (.bool false) ∧ w'.cell? ⟨wr.heap.size, 0, none⟩ = some (.bool u) ∧ w'.cell? ⟨wr.heap.size, 1, none⟩ = some (.int .i64 r) ∧ w'.cell? ⟨wr.heap.size, 2, none⟩ = some (.int .i64 p) ∧ w'.cell? ⟨wr.heap.size, 3, none⟩ = some (.bool o) ∧ w'.cell? ⟨wr.heap.size, 4, none⟩ = some (.int .i64 l) ∧ w'.cell? ⟨wr.heap.size, 5, none⟩ = some (.int .i64 s)) (simp [*]) ((go_at_call 93; refine (sound_calls ⟨u, r, p, o, l, s⟩ _).mono ?_; rintro e w1 ⟨rfl, hb1⟩; obtain ⟨hb1c, _⟩ := bcell hb1; have HB1 := Aside.mk hb1; clear hb1; rw [HS.out]))
                  cases sb with
                  | false =>
                    go_wp2
                    go_ret
                    exact ⟨ret_f HB.out (fun h => by have h3 := h.s k _ Hx.out (by rw [HE.out.1]; simp); rw [HS.out] at h3; simp at h3), below_call HR.out.1 (Nat.le_refl _) (below_call (((Below.refl _ _).alloc (Nat.le_refl _) _).drew) (Nat.le_refl _) HB1.out)⟩
                  | true =>
                    go_wp2
                    go_roundw
                    case rel => exact ⟨k + 1, by go_num, HR.out.step Hx.out (below_call (((Below.refl _ _).alloc (Nat.le_refl _) _).drew) (Nat.le_refl _) HB1.out) (by rw [HE.out.1, HE.out.2]) (fun _ => HS.out)⟩
                    case measure => simp [intOf]; omega
            · go_wp2
              go_ret
              exact ⟨ret_t HB.out ⟨by omega, by omega, HO.out.1, HO.out.2, fun i h hi => (HR.out.2.2.2.2 i h (by have := (List.getElem?_eq_some_iff.1 hi).1; omega) hi).1, fun i h hi => (HR.out.2.2.2.2 i h (by have := (List.getElem?_eq_some_iff.1 hi).1; omega) hi).2⟩, HR.out.1⟩
end Go.Proofs.Ytidkmlolcfapdaa
