import Derived.Test.YtidkmlolcfapdaaLw
set_option linter.unusedVariables false
set_option linter.unusedSimpArgs false
namespace Go.Proofs.Ytidkmlolcfapdaa
open Go.RowKit
/-! The law's marks: laid, and looked for. -/
theorem Row.opened {α : Type} {enc : α → List Value} {sz : Nat} {e : TypeId} {w : World} {lo : Nat} {v : Value} {l : List α} (h : Row enc sz e w lo v l) : ∃ A c, v = .slice A l.length c ∧ l.length ≤ c ∧ c ≤ 9223372036854775807 ∧ (0 < l.length → ∃ g, A = some ⟨g, 0, none⟩) := by
  rcases h.2 with ⟨rfl, hn⟩ | ⟨g, cap, cur, rfl, hlo, hg, hc, hm, -⟩
  · exact ⟨none, 0, by rw [hn], by omega, by omega, fun h => by omega⟩
  · exact ⟨_, cap, rfl, hc, by simpa [maxLen] using hm, fun _ => ⟨g, rfl⟩⟩
def b3 (k : Int) : Bool := k % 3 == 0
def mk1I (k : Int) : Int := k
def mk1Th (k : Int) : Th := ⟨k, b3 (k + 1)⟩
def mk1L (k : Int) : L := ⟨k, k + 1, k + 1 + 1, k + 1 + 1 + 1⟩
def mk1H (k : Int) : H := ⟨b3 k, k + 1, k + 1 + 1, b3 (k + 1 + 1 + 1), k + 1 + 1 + 1 + 1, k + 1 + 1 + 1 + 1 + 1⟩
/-- n marked elements from k on. -/
def mks {α : Type} (mk1 : Int → α) (sz n : Nat) (k : Int) : List α := (List.range n).map (fun i => mk1 (k + (sz * i : Nat)))
theorem mks_len {α : Type} (mk1 : Int → α) (sz n : Nat) (k : Int) : (mks mk1 sz n k).length = n := by simp [mks]
theorem mks_snoc {α : Type} (mk1 : Int → α) (sz n : Nat) (k : Int) : mks mk1 sz (n + 1) k = mks mk1 sz n k ++ [mk1 (k + (sz * n : Nat))] := by
  unfold mks; rw [List.range_succ, List.map_append]; rfl
theorem mks_get {α : Type} (mk1 : Int → α) (sz n : Nat) (k : Int) {i : Nat} (h : i < n) : (mks mk1 sz n k)[i]? = some (mk1 (k + (sz * i : Nat))) := by
  unfold mks; rw [List.getElem?_map, List.getElem?_range h]; rfl
set_option maxHeartbeats 4000000 in
set_option maxRecDepth 100000 in
theorem mark46_calls (v : Value) (l : List Th) (k : Int) (w : World) (lo : Nat) (h : Row encTh 2 50 w lo v l) (h0 : 0 ≤ k) (h1 : k + (2 * l.length : Nat) ≤ 1099511627776) :
    Calls Try.prog 46 #[v, .int .i64 k] w fun e w' => e = .returned (.int .i64 (k + (2 * l.length : Nat))) ∧ Row encTh 2 50 w' lo v (mks mk1Th 2 l.length k) ∧ w.grownBy w' v.ownBlock := by
  obtain ⟨A, c, rfl, hl, hm, hA⟩ := h.opened
  have HP0 := Aside.mk h.part
  have HA := Aside.mk hA
  clear h hA
  generalize hn : l.length = n at hl h1 HP0 HA ⊢
  clear hn
  go_enter Try.func46, Try.ntmps46
  go_wp2
  go_loopw [1, 5] (fun v1 v wr => ∃ i : Nat, v = .int .i64 i ∧ v1 = .int .i64 (k + (2 * i : Nat)) ∧ i ≤ n ∧ Part encTh 2 50 wr lo (.slice A n c) n (mks mk1Th 2 i k) ∧ w.grownBy wr (Value.ownBlock (.slice A n c))) (fun _ v _ => n - (intOf v).toNat)
  case atStart => exact ⟨0, rfl, by simp, Nat.zero_le _, HP0.out, World.grownBy.refl _ _⟩
  case round =>
    clear HP0
    obtain ⟨i, rfl, rfl, hi, hP, hg⟩ := hrel
    have HP := Aside.mk hP
    have HG := Aside.mk hg
    clear hP hg
    by_cases hlt : i < n
    · obtain ⟨g, rfl⟩ := HA.out (by omega)
      obtain ⟨u0x, hu0⟩ := HP.out.cell (j := i * 2) (by omega)
      have hf0 := HP.out.frozen (i * 2)
      obtain ⟨u1x, hu1⟩ := HP.out.cell (j := i * 2 + 1) (by omega)
      have hf1 := HP.out.frozen (i * 2 + 1)
      have HST := Aside.mk (HP.out.step (x := mk1Th (k + (2 * i : Nat))) rfl (by rw [mks_len]; exact hlt))
      have HM := Aside.mk (mks_snoc mk1Th 2 i k)
      have hml : (mks mk1Th 2 i k).length * 2 = i * 2 := by rw [mks_len]
      rw [hml, ← HM.out] at HST
      have hkk : k + (2 * (i + 1) : Nat) = k + (2 * i : Nat) + 2 := by omega
      have HKK := Lib.hid hkk
      have b0 : 0 ≤ k + (2 * i : Nat) := by omega
      have b1 : k + (2 * i : Nat) ≤ 1099511627776 := by omega
      clear hml HM hkk
      generalize hke : k + (2 * i : Nat) = kk at HST HKK b0 b1 ⊢
      clear hke
      go_wp2
      go_roundw
      case rel => exact ⟨i + 1, by go_num, by rw [HKK.out]; go_num, by omega, HST.out.1, HG.out.trans HST.out.2⟩
      case measure => simp [intOf]; omega
    · have hke : i = n := by omega
      have HP2 : Aside (Row encTh 2 50 wr lo (.slice A n c) (mks mk1Th 2 n k)) := ⟨by have h := HP.out; rw [hke] at h; exact h.row (mks_len _ _ _ _)⟩
      have HKE : Aside (k + (2 * i : Nat) = k + (2 * n : Nat)) := ⟨by rw [hke]⟩
      clear hke
      go_wp2
      go_ret
      exact ⟨by rw [HKE.out]; rfl, HP2.out, HG.out⟩
set_option maxHeartbeats 4000000 in
set_option maxRecDepth 100000 in
theorem held68_calls (v : Value) (n : Nat) (k : Int) (w : World) (h : RdS encTh 2 w v (mks mk1Th 2 n k)) (h0 : 0 ≤ k) (h1 : k + (2 * n : Nat) ≤ 1099511627776) :
    Calls Try.prog 68 #[v, .int .i64 k] w fun e w' => e = .returned (.int .i64 (k + (2 * n : Nat))) ∧ w = w' := by
  obtain ⟨A, c, rfl, hl, hm, g⟩ := h
  rw [mks_len] at hl ⊢
  have H1 := Aside.mk g
  clear g
  go_enter Try.func68, Try.ntmps68
  go_wp2
  go_loop [1, 5] (fun v1 v => ∃ i : Nat, v = .int .i64 i ∧ v1 = .int .i64 (k + (2 * i : Nat)) ∧ i ≤ n) (fun _ v => n - (intOf v).toNat)
  case atStart => exact ⟨0, rfl, by simp, Nat.zero_le _⟩
  case round =>
    obtain ⟨i, rfl, rfl, hi⟩ := hrel
    by_cases hlt : i < n
    · obtain ⟨ad, rfl, hc⟩ := H1.out i _ (mks_get mk1Th 2 n k hlt)
      have hkk : k + (2 * (i + 1) : Nat) = k + (2 * i : Nat) + 2 := by omega
      have HKK := Lib.hid hkk
      have b0 : 0 ≤ k + (2 * i : Nat) := by omega
      have b1 : k + (2 * i : Nat) ≤ 1099511627776 := by omega
      clear hkk
      generalize hke : k + (2 * i : Nat) = kk at hc HKK b0 b1 ⊢
      simp only [mk1Th, b3, encTh] at hc
      have q0 := hc.c0
      have q1 := hc.c1
      clear hke hc
      go_wp2
      go_round
      case rel => exact ⟨i + 1, by go_num, by rw [HKK.out]; go_num, by omega⟩
      case measure => simp [intOf]; omega
    · have hke : i = n := by omega
      subst hke
      go_wp2
      go_ret
      exact ⟨rfl, rfl⟩
set_option maxHeartbeats 4000000 in
set_option maxRecDepth 100000 in
theorem mark48_calls (v : Value) (l : List L) (k : Int) (w : World) (lo : Nat) (h : Row encL 4 114 w lo v l) (h0 : 0 ≤ k) (h1 : k + (4 * l.length : Nat) ≤ 1099511627776) :
    Calls Try.prog 48 #[v, .int .i64 k] w fun e w' => e = .returned (.int .i64 (k + (4 * l.length : Nat))) ∧ Row encL 4 114 w' lo v (mks mk1L 4 l.length k) ∧ w.grownBy w' v.ownBlock := by
  obtain ⟨A, c, rfl, hl, hm, hA⟩ := h.opened
  have HP0 := Aside.mk h.part
  have HA := Aside.mk hA
  clear h hA
  generalize hn : l.length = n at hl h1 HP0 HA ⊢
  clear hn
  go_enter Try.func48, Try.ntmps48
  go_wp2
  go_loopw [1, 5] (fun v1 v wr => ∃ i : Nat, v = .int .i64 i ∧ v1 = .int .i64 (k + (4 * i : Nat)) ∧ i ≤ n ∧ Part encL 4 114 wr lo (.slice A n c) n (mks mk1L 4 i k) ∧ w.grownBy wr (Value.ownBlock (.slice A n c))) (fun _ v _ => n - (intOf v).toNat)
  case atStart => exact ⟨0, rfl, by simp, Nat.zero_le _, HP0.out, World.grownBy.refl _ _⟩
  case round =>
    clear HP0
    obtain ⟨i, rfl, rfl, hi, hP, hg⟩ := hrel
    have HP := Aside.mk hP
    have HG := Aside.mk hg
    clear hP hg
    by_cases hlt : i < n
    · obtain ⟨g, rfl⟩ := HA.out (by omega)
      obtain ⟨u0x, hu0⟩ := HP.out.cell (j := i * 4) (by omega)
      have hf0 := HP.out.frozen (i * 4)
      obtain ⟨u1x, hu1⟩ := HP.out.cell (j := i * 4 + 1) (by omega)
      have hf1 := HP.out.frozen (i * 4 + 1)
      obtain ⟨u2x, hu2⟩ := HP.out.cell (j := i * 4 + 2) (by omega)
      have hf2 := HP.out.frozen (i * 4 + 2)
      obtain ⟨u3x, hu3⟩ := HP.out.cell (j := i * 4 + 3) (by omega)
      have hf3 := HP.out.frozen (i * 4 + 3)
      have HST := Aside.mk (HP.out.step (x := mk1L (k + (4 * i : Nat))) rfl (by rw [mks_len]; exact hlt))
      have HM := Aside.mk (mks_snoc mk1L 4 i k)
      have hml : (mks mk1L 4 i k).length * 4 = i * 4 := by rw [mks_len]
      rw [hml, ← HM.out] at HST
      have hkk : k + (4 * (i + 1) : Nat) = k + (4 * i : Nat) + 4 := by omega
      have HKK := Lib.hid hkk
      have b0 : 0 ≤ k + (4 * i : Nat) := by omega
      have b1 : k + (4 * i : Nat) ≤ 1099511627776 := by omega
      clear hml HM hkk
      generalize hke : k + (4 * i : Nat) = kk at HST HKK b0 b1 ⊢
      clear hke
      go_wp2
      go_roundw
      case rel => exact ⟨i + 1, by go_num, by rw [HKK.out]; go_num, by omega, HST.out.1, HG.out.trans HST.out.2⟩
      case measure => simp [intOf]; omega
    · have hke : i = n := by omega
      have HP2 : Aside (Row encL 4 114 wr lo (.slice A n c) (mks mk1L 4 n k)) := ⟨by have h := HP.out; rw [hke] at h; exact h.row (mks_len _ _ _ _)⟩
      have HKE : Aside (k + (4 * i : Nat) = k + (4 * n : Nat)) := ⟨by rw [hke]⟩
      clear hke
      go_wp2
      go_ret
      exact ⟨by rw [HKE.out]; rfl, HP2.out, HG.out⟩
set_option maxHeartbeats 4000000 in
set_option maxRecDepth 100000 in
theorem held70_calls (v : Value) (n : Nat) (k : Int) (w : World) (h : RdS encL 4 w v (mks mk1L 4 n k)) (h0 : 0 ≤ k) (h1 : k + (4 * n : Nat) ≤ 1099511627776) :
    Calls Try.prog 70 #[v, .int .i64 k] w fun e w' => e = .returned (.int .i64 (k + (4 * n : Nat))) ∧ w = w' := by
  obtain ⟨A, c, rfl, hl, hm, g⟩ := h
  rw [mks_len] at hl ⊢
  have H1 := Aside.mk g
  clear g
  go_enter Try.func70, Try.ntmps70
  go_wp2
  go_loop [1, 5] (fun v1 v => ∃ i : Nat, v = .int .i64 i ∧ v1 = .int .i64 (k + (4 * i : Nat)) ∧ i ≤ n) (fun _ v => n - (intOf v).toNat)
  case atStart => exact ⟨0, rfl, by simp, Nat.zero_le _⟩
  case round =>
    obtain ⟨i, rfl, rfl, hi⟩ := hrel
    by_cases hlt : i < n
    · obtain ⟨ad, rfl, hc⟩ := H1.out i _ (mks_get mk1L 4 n k hlt)
      have hkk : k + (4 * (i + 1) : Nat) = k + (4 * i : Nat) + 4 := by omega
      have HKK := Lib.hid hkk
      have b0 : 0 ≤ k + (4 * i : Nat) := by omega
      have b1 : k + (4 * i : Nat) ≤ 1099511627776 := by omega
      clear hkk
      generalize hke : k + (4 * i : Nat) = kk at hc HKK b0 b1 ⊢
      simp only [mk1L, b3, encL] at hc
      have q0 := hc.c0
      have q1 := hc.c1
      have q2 := hc.c2
      have q3 := hc.c3
      clear hke hc
      go_wp2
      go_round
      case rel => exact ⟨i + 1, by go_num, by rw [HKK.out]; go_num, by omega⟩
      case measure => simp [intOf]; omega
    · have hke : i = n := by omega
      subst hke
      go_wp2
      go_ret
      exact ⟨rfl, rfl⟩
set_option maxHeartbeats 4000000 in
set_option maxRecDepth 100000 in
theorem mark78_calls (v : Value) (l : List H) (k : Int) (w : World) (lo : Nat) (h : Row encH 6 59 w lo v l) (h0 : 0 ≤ k) (h1 : k + (6 * l.length : Nat) ≤ 1099511627776) :
    Calls Try.prog 78 #[v, .int .i64 k] w fun e w' => e = .returned (.int .i64 (k + (6 * l.length : Nat))) ∧ Row encH 6 59 w' lo v (mks mk1H 6 l.length k) ∧ w.grownBy w' v.ownBlock := by
  obtain ⟨A, c, rfl, hl, hm, hA⟩ := h.opened
  have HP0 := Aside.mk h.part
  have HA := Aside.mk hA
  clear h hA
  generalize hn : l.length = n at hl h1 HP0 HA ⊢
  clear hn
  go_enter Try.func78, Try.ntmps78
  go_wp2
  go_loopw [1, 5] (fun v1 v wr => ∃ i : Nat, v = .int .i64 i ∧ v1 = .int .i64 (k + (6 * i : Nat)) ∧ i ≤ n ∧ Part encH 6 59 wr lo (.slice A n c) n (mks mk1H 6 i k) ∧ w.grownBy wr (Value.ownBlock (.slice A n c))) (fun _ v _ => n - (intOf v).toNat)
  case atStart => exact ⟨0, rfl, by simp, Nat.zero_le _, HP0.out, World.grownBy.refl _ _⟩
  case round =>
    clear HP0
    obtain ⟨i, rfl, rfl, hi, hP, hg⟩ := hrel
    have HP := Aside.mk hP
    have HG := Aside.mk hg
    clear hP hg
    by_cases hlt : i < n
    · obtain ⟨g, rfl⟩ := HA.out (by omega)
      obtain ⟨u0x, hu0⟩ := HP.out.cell (j := i * 6) (by omega)
      have hf0 := HP.out.frozen (i * 6)
      obtain ⟨u1x, hu1⟩ := HP.out.cell (j := i * 6 + 1) (by omega)
      have hf1 := HP.out.frozen (i * 6 + 1)
      obtain ⟨u2x, hu2⟩ := HP.out.cell (j := i * 6 + 2) (by omega)
      have hf2 := HP.out.frozen (i * 6 + 2)
      obtain ⟨u3x, hu3⟩ := HP.out.cell (j := i * 6 + 3) (by omega)
      have hf3 := HP.out.frozen (i * 6 + 3)
      obtain ⟨u4x, hu4⟩ := HP.out.cell (j := i * 6 + 4) (by omega)
      have hf4 := HP.out.frozen (i * 6 + 4)
      obtain ⟨u5x, hu5⟩ := HP.out.cell (j := i * 6 + 5) (by omega)
      have hf5 := HP.out.frozen (i * 6 + 5)
      have HST := Aside.mk (HP.out.step (x := mk1H (k + (6 * i : Nat))) rfl (by rw [mks_len]; exact hlt))
      have HM := Aside.mk (mks_snoc mk1H 6 i k)
      have hml : (mks mk1H 6 i k).length * 6 = i * 6 := by rw [mks_len]
      rw [hml, ← HM.out] at HST
      have hkk : k + (6 * (i + 1) : Nat) = k + (6 * i : Nat) + 6 := by omega
      have HKK := Lib.hid hkk
      have b0 : 0 ≤ k + (6 * i : Nat) := by omega
      have b1 : k + (6 * i : Nat) ≤ 1099511627776 := by omega
      clear hml HM hkk
      generalize hke : k + (6 * i : Nat) = kk at HST HKK b0 b1 ⊢
      clear hke
      go_wp2
      go_roundw
      case rel => exact ⟨i + 1, by go_num, by rw [HKK.out]; go_num, by omega, HST.out.1, HG.out.trans HST.out.2⟩
      case measure => simp [intOf]; omega
    · have hke : i = n := by omega
      have HP2 : Aside (Row encH 6 59 wr lo (.slice A n c) (mks mk1H 6 n k)) := ⟨by have h := HP.out; rw [hke] at h; exact h.row (mks_len _ _ _ _)⟩
      have HKE : Aside (k + (6 * i : Nat) = k + (6 * n : Nat)) := ⟨by rw [hke]⟩
      clear hke
      go_wp2
      go_ret
      exact ⟨by rw [HKE.out]; rfl, HP2.out, HG.out⟩
set_option maxHeartbeats 4000000 in
set_option maxRecDepth 100000 in
theorem held99_calls (v : Value) (n : Nat) (k : Int) (w : World) (h : RdS encH 6 w v (mks mk1H 6 n k)) (h0 : 0 ≤ k) (h1 : k + (6 * n : Nat) ≤ 1099511627776) :
    Calls Try.prog 99 #[v, .int .i64 k] w fun e w' => e = .returned (.int .i64 (k + (6 * n : Nat))) ∧ w = w' := by
  obtain ⟨A, c, rfl, hl, hm, g⟩ := h
  rw [mks_len] at hl ⊢
  have H1 := Aside.mk g
  clear g
  go_enter Try.func99, Try.ntmps99
  go_wp2
  go_loop [1, 5] (fun v1 v => ∃ i : Nat, v = .int .i64 i ∧ v1 = .int .i64 (k + (6 * i : Nat)) ∧ i ≤ n) (fun _ v => n - (intOf v).toNat)
  case atStart => exact ⟨0, rfl, by simp, Nat.zero_le _⟩
  case round =>
    obtain ⟨i, rfl, rfl, hi⟩ := hrel
    by_cases hlt : i < n
    · obtain ⟨ad, rfl, hc⟩ := H1.out i _ (mks_get mk1H 6 n k hlt)
      have hkk : k + (6 * (i + 1) : Nat) = k + (6 * i : Nat) + 6 := by omega
      have HKK := Lib.hid hkk
      have b0 : 0 ≤ k + (6 * i : Nat) := by omega
      have b1 : k + (6 * i : Nat) ≤ 1099511627776 := by omega
      clear hkk
      generalize hke : k + (6 * i : Nat) = kk at hc HKK b0 b1 ⊢
      simp only [mk1H, b3, encH] at hc
      have q0 := hc.c0
      have q1 := hc.c1
      have q2 := hc.c2
      have q3 := hc.c3
      have q4 := hc.c4
      have q5 := hc.c5
      clear hke hc
      go_wp2
      go_round
      case rel => exact ⟨i + 1, by go_num, by rw [HKK.out]; go_num, by omega⟩
      case measure => simp [intOf]; omega
    · have hke : i = n := by omega
      subst hke
      go_wp2
      go_ret
      exact ⟨rfl, rfl⟩
set_option maxHeartbeats 4000000 in
set_option maxRecDepth 100000 in
theorem mark15_calls (v : Value) (l : List Int) (k : Int) (w : World) (lo : Nat) (h : Row encI 1 3 w lo v l) (h0 : 0 ≤ k) (h1 : k + (1 * l.length : Nat) ≤ 1099511627776) :
    Calls Try.prog 15 #[v, .int .i64 k] w fun e w' => e = .returned (.int .i64 (k + (1 * l.length : Nat))) ∧ Row encI 1 3 w' lo v (mks mk1I 1 l.length k) ∧ w.grownBy w' v.ownBlock := by
  obtain ⟨A, c, rfl, hl, hm, hA⟩ := h.opened
  have HP0 := Aside.mk h.part
  have HA := Aside.mk hA
  clear h hA
  generalize hn : l.length = n at hl h1 HP0 HA ⊢
  clear hn
  go_enter Try.func15, Try.ntmps15
  go_wp2
  go_loopw [1, 5] (fun v1 v wr => ∃ i : Nat, v = .int .i64 i ∧ v1 = .int .i64 (k + (1 * i : Nat)) ∧ i ≤ n ∧ Part encI 1 3 wr lo (.slice A n c) n (mks mk1I 1 i k) ∧ w.grownBy wr (Value.ownBlock (.slice A n c))) (fun _ v _ => n - (intOf v).toNat)
  case atStart => exact ⟨0, rfl, by simp, Nat.zero_le _, HP0.out, World.grownBy.refl _ _⟩
  case round =>
    clear HP0
    obtain ⟨i, rfl, rfl, hi, hP, hg⟩ := hrel
    have HP := Aside.mk hP
    have HG := Aside.mk hg
    clear hP hg
    by_cases hlt : i < n
    · obtain ⟨g, rfl⟩ := HA.out (by omega)
      obtain ⟨u0x, hu0⟩ := HP.out.cell (j := i) (by omega)
      have hf0 := HP.out.frozen (i)
      have HST := Aside.mk (HP.out.step (x := mk1I (k + (1 * i : Nat))) rfl (by rw [mks_len]; exact hlt))
      have HM := Aside.mk (mks_snoc mk1I 1 i k)
      have hml : (mks mk1I 1 i k).length * 1 = i := by rw [mks_len]; exact Nat.mul_one i
      rw [hml, ← HM.out] at HST
      have hkk : k + (1 * (i + 1) : Nat) = k + (1 * i : Nat) + 1 := by omega
      have HKK := Lib.hid hkk
      have b0 : 0 ≤ k + (1 * i : Nat) := by omega
      have b1 : k + (1 * i : Nat) ≤ 1099511627776 := by omega
      clear hml HM hkk
      generalize hke : k + (1 * i : Nat) = kk at HST HKK b0 b1 ⊢
      clear hke
      go_wp2
      go_roundw
      case rel => exact ⟨i + 1, by go_num, by rw [HKK.out], by omega, HST.out.1, HG.out.trans HST.out.2⟩
      case measure => simp [intOf]; omega
    · have hke : i = n := by omega
      have HP2 : Aside (Row encI 1 3 wr lo (.slice A n c) (mks mk1I 1 n k)) := ⟨by have h := HP.out; rw [hke] at h; exact h.row (mks_len _ _ _ _)⟩
      have HKE : Aside (k + (1 * i : Nat) = k + (1 * n : Nat)) := ⟨by rw [hke]⟩
      clear hke
      go_wp2
      go_ret
      exact ⟨by rw [HKE.out]; rfl, HP2.out, HG.out⟩
set_option maxHeartbeats 4000000 in
set_option maxRecDepth 100000 in
theorem held16_calls (v : Value) (n : Nat) (k : Int) (w : World) (h : RdS encI 1 w v (mks mk1I 1 n k)) (h0 : 0 ≤ k) (h1 : k + (1 * n : Nat) ≤ 1099511627776) :
    Calls Try.prog 16 #[v, .int .i64 k] w fun e w' => e = .returned (.int .i64 (k + (1 * n : Nat))) ∧ w = w' := by
  obtain ⟨A, c, rfl, hl, hm, g⟩ := h
  rw [mks_len] at hl ⊢
  have H1 := Aside.mk g
  clear g
  go_enter Try.func16, Try.ntmps16
  go_wp2
  go_loop [1, 5] (fun v1 v => ∃ i : Nat, v = .int .i64 i ∧ v1 = .int .i64 (k + (1 * i : Nat)) ∧ i ≤ n) (fun _ v => n - (intOf v).toNat)
  case atStart => exact ⟨0, rfl, by simp, Nat.zero_le _⟩
  case round =>
    obtain ⟨i, rfl, rfl, hi⟩ := hrel
    by_cases hlt : i < n
    · obtain ⟨ad, rfl, hc⟩ := H1.out i _ (mks_get mk1I 1 n k hlt)
      have hkk : k + (1 * (i + 1) : Nat) = k + (1 * i : Nat) + 1 := by omega
      have HKK := Lib.hid hkk
      have b0 : 0 ≤ k + (1 * i : Nat) := by omega
      have b1 : k + (1 * i : Nat) ≤ 1099511627776 := by omega
      clear hkk
      generalize hke : k + (1 * i : Nat) = kk at hc HKK b0 b1 ⊢
      simp only [mk1I, b3, encI, Nat.mul_one] at hc
      have q0 := hc.c0
      clear hke hc
      go_wp2
      go_round
      case rel => exact ⟨i + 1, by go_num, by rw [HKK.out], by omega⟩
      case measure => simp [intOf]; omega
    · have hke : i = n := by omega
      subst hke
      go_wp2
      go_ret
      exact ⟨rfl, rfl⟩
end Go.Proofs.Ytidkmlolcfapdaa
