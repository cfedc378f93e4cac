import Derived.Test.YtidkmlolcfapdaaLe
set_option linter.unusedVariables false
set_option linter.unusedSimpArgs false
namespace Go.Proofs.Ytidkmlolcfapdaa
open Go.RowKit
/-! The law's copies of its arguments. -/
/-- Cells stored one behind the other. -/
def sets (xs : List Value) (b : Nat) : List Value → List Value
  | [] => xs
  | u :: us => sets (xs.set b u) (b + 1) us
theorem sets_eq : ∀ (us xs : List Value) (b : Nat), b + us.length ≤ xs.length → sets xs b us = xs.take b ++ us ++ xs.drop (b + us.length) := by
  intro us
  induction us with
  | nil => intro xs b h; simp [sets]
  | cons u us ih =>
    intro xs b h
    simp only [List.length_cons] at h
    have hb : b < xs.length := by omega
    have e := List.set_eq_take_append_cons_drop (l := xs) (i := b) (a := u)
    rw [if_pos hb] at e
    have hl : (xs.take b).length = b := by simp; omega
    rw [sets, ih _ _ (by rw [List.length_set]; omega)]
    have e1 : (xs.set b u).take (b + 1) = xs.take b ++ [u] := by
      have e0 : (xs.take b).take (b + 1) = xs.take b := List.take_of_length_le (by omega)
      rw [e, List.take_append, hl, e0]
      simp
    have e2 : (xs.set b u).drop (b + 1 + us.length) = xs.drop (b + (us.length + 1)) := by
      rw [List.drop_set_of_lt (by omega)]
      congr 1
      omega
    rw [e1, e2]
    simp
theorem sets_take {us xs : List Value} {b : Nat} (h : b + us.length ≤ xs.length) : (sets xs b us).take (b + us.length) = xs.take b ++ us := by
  rw [sets_eq us xs b h]
  have hl : (xs.take b ++ us).length = b + us.length := by simp; omega
  rw [← hl, List.take_left]
/-- A row whose first i elements are told. -/
structure Part {α : Type} (enc : α → List Value) (sz : Nat) (e : TypeId) (w : World) (lo : Nat) (v : Value) (n : Nat) (d : List α) : Prop where
  own : ∃ xs, w.ownsRow lo e sz v n xs ∧ xs.take (d.length * sz) = d.flatMap enc
theorem Part.row {α : Type} {enc : α → List Value} {sz : Nat} {e : TypeId} {w : World} {lo : Nat} {v : Value} {n : Nat} {d : List α} (h : Part enc sz e w lo v n d) (hd : d.length = n) : Row enc sz e w lo v d := by
  obtain ⟨xs, h1, h2⟩ := h.own
  unfold Row
  rw [hd, ← h2, hd, List.take_of_length_le (by rw [h1.1]; exact Nat.le_refl _)]
  exact h1
theorem Row.part {α : Type} {enc : α → List Value} {sz : Nat} {e : TypeId} {w : World} {lo : Nat} {v : Value} {l : List α} (h : Row enc sz e w lo v l) : Part enc sz e w lo v l.length ([] : List α) := ⟨_, h, by simp⟩
theorem Part.below {α : Type} {enc : α → List Value} {sz : Nat} {e : TypeId} {w w' : World} {lo : Nat} {v : Value} {n : Nat} {d : List α} (h : Part enc sz e w lo v n d) (hb : Below w.heap.size w w') : Part enc sz e w' lo v n d := by
  obtain ⟨xs, h1, h2⟩ := h.own
  refine ⟨xs, ⟨h1.1, ?_⟩, h2⟩
  rcases h1.2 with hn | ⟨g, cap, cur, rfl, hlo, hg, rest⟩
  · exact .inl hn
  · exact .inr ⟨g, cap, cur, rfl, hlo, (hb.block g (Array.getElem?_eq_some_iff.1 hg).1).trans hg, rest⟩
theorem Part.cell {α : Type} {enc : α → List Value} {sz : Nat} {e : TypeId} {w : World} {lo g n c : Nat} {d : List α} (h : Part enc sz e w lo (.slice (some ⟨g, 0, none⟩) n c) n d) {j : Nat} (hj : j < n * sz) : ∃ u, w.cell? ⟨g, j, none⟩ = some u := by
  obtain ⟨xs, h1, h2⟩ := h.own
  rw [h1.cellAt j hj]
  have hl := h1.1
  exact ⟨_, List.getElem?_eq_getElem (by omega)⟩
theorem Part.frozen {α : Type} {enc : α → List Value} {sz : Nat} {e : TypeId} {w : World} {lo g n c : Nat} {d : List α} (h : Part enc sz e w lo (.slice (some ⟨g, 0, none⟩) n c) n d) (j : Nat) : w.frozen? ⟨g, j, none⟩ = false := by
  obtain ⟨xs, h1, h2⟩ := h.own
  exact h1.frozenAt j
theorem Part.lt {α : Type} {enc : α → List Value} {sz : Nat} {e : TypeId} {w : World} {lo : Nat} {v : Value} {n : Nat} {d : List α} (h : Part enc sz e w lo v n d) : ∀ k, v.ownBlock = some k → lo ≤ k ∧ k < w.heap.size := by
  obtain ⟨xs, h1, h2⟩ := h.own
  exact h1.lt
/-- The world behind stores one behind the other. -/
def wsets (w : World) (g b : Nat) : List Value → World
  | [] => w
  | u :: us => wsets (w.setCell ⟨g, b, none⟩ u) g (b + 1) us
theorem wsets_owns {w : World} {lo : Nat} {e : TypeId} {sz g n c : Nat} : ∀ (us xs : List Value) (w : World) (b : Nat), w.ownsRow lo e sz (.slice (some ⟨g, 0, none⟩) n c) n xs →
    (wsets w g b us).ownsRow lo e sz (.slice (some ⟨g, 0, none⟩) n c) n (sets xs b us) ∧ w.grownBy (wsets w g b us) (some g) := by
  intro us
  induction us with
  | nil => intro xs w b h; exact ⟨h, World.grownBy.refl _ _⟩
  | cons u us ih =>
    intro xs w b h
    obtain ⟨h1, h2⟩ := h.stored b u
    obtain ⟨h3, h4⟩ := ih _ _ (b + 1) h1
    exact ⟨h3, h2.trans h4⟩
theorem Part.step {α : Type} {enc : α → List Value} {sz : Nat} {e : TypeId} {w : World} {lo g n c : Nat} {d : List α} {x : α} (h : Part enc sz e w lo (.slice (some ⟨g, 0, none⟩) n c) n d) (hsz : (enc x).length = sz) (hd : d.length < n) :
    Part enc sz e (wsets w g (d.length * sz) (enc x)) lo (.slice (some ⟨g, 0, none⟩) n c) n (d ++ [x]) ∧ w.grownBy (wsets w g (d.length * sz) (enc x)) (some g) := by
  obtain ⟨xs, h1, h2⟩ := h.own
  obtain ⟨h3, h4⟩ := wsets_owns (w := w) (enc x) xs w (d.length * sz) h1
  refine ⟨⟨_, h3, ?_⟩, h4⟩
  have hl := h1.1
  have hm : (d.length + 1) * sz ≤ n * sz := Nat.mul_le_mul_right _ hd
  have e1 : (d ++ [x]).length * sz = d.length * sz + (enc x).length := by rw [List.length_append, hsz]; simp [Nat.succ_mul, Nat.add_mul]
  rw [e1, sets_take (by rw [hsz, hl, ← Nat.succ_mul]; exact hm), h2]
  simp
theorem below_grown {B : Nat} {a w w' : World} {g : Nat} (h : Below B a w) (hB : B ≤ w.heap.size) (k : w.grownBy w' (some g)) (hg : B ≤ g) : Below B a w' := h.grown k hB (by intro i hi; cases hi; exact hg)
theorem made31 (n : Nat) (hn : n ≤ 1048576) : ∃ C : Array Value, C.size = n * 2 ∧ ∀ W : World, (Instr.makeSlice 31 (.int .i64 (n : Int)) (.int .i64 (n : Int))).run Try.prog W = .ok (.slice (some ⟨W.heap.size, 0, none⟩) n n) (W.alloc (.cells C 50)) := by
  have h3 : (Try.prog.info? 50).map (fun i => (i.zero, i.size, i.bytes)) = some (some (.agg #[.int .i64 0, .bool false]), 2, 16) := by kernel_rfl
  obtain ⟨i, hi, he⟩ := Option.map_eq_some_iff.1 h3
  simp only [Prod.mk.injEq] at he
  refine ⟨madeCells (Value.cells (.agg #[.int .i64 0, .bool false])) (n * 2), size_madeCells _ _, fun W => ?_⟩
  have := run_make (P := Try.prog) W 31 50 i (.agg #[.int .i64 0, .bool false]) (by kernel_rfl) hi he.1 .i64 .i64 n n (by omega) (by omega) (by rw [he.2.2]; omega) (by omega)
  rw [this, he.2.1]
  simp
theorem made33 (n : Nat) (hn : n ≤ 1048576) : ∃ C : Array Value, C.size = n * 4 ∧ ∀ W : World, (Instr.makeSlice 33 (.int .i64 (n : Int)) (.int .i64 (n : Int))).run Try.prog W = .ok (.slice (some ⟨W.heap.size, 0, none⟩) n n) (W.alloc (.cells C 114)) := by
  have h3 : (Try.prog.info? 114).map (fun i => (i.zero, i.size, i.bytes)) = some (some (.agg #[.int .i64 0, .int .i64 0, .int .i64 0, .int .i64 0]), 4, 32) := by kernel_rfl
  obtain ⟨i, hi, he⟩ := Option.map_eq_some_iff.1 h3
  simp only [Prod.mk.injEq] at he
  refine ⟨madeCells (Value.cells (.agg #[.int .i64 0, .int .i64 0, .int .i64 0, .int .i64 0])) (n * 4), size_madeCells _ _, fun W => ?_⟩
  have := run_make (P := Try.prog) W 33 114 i (.agg #[.int .i64 0, .int .i64 0, .int .i64 0, .int .i64 0]) (by kernel_rfl) hi he.1 .i64 .i64 n n (by omega) (by omega) (by rw [he.2.2]; omega) (by omega)
  rw [this, he.2.1]
  simp
theorem made60 (n : Nat) (hn : n ≤ 1048576) : ∃ C : Array Value, C.size = n * 6 ∧ ∀ W : World, (Instr.makeSlice 60 (.int .i64 (n : Int)) (.int .i64 (n : Int))).run Try.prog W = .ok (.slice (some ⟨W.heap.size, 0, none⟩) n n) (W.alloc (.cells C 59)) := by
  have h3 : (Try.prog.info? 59).map (fun i => (i.zero, i.size, i.bytes)) = some (some (.agg #[.bool false, .int .i64 0, .int .i64 0, .bool false, .int .i64 0, .int .i64 0]), 6, 48) := by kernel_rfl
  obtain ⟨i, hi, he⟩ := Option.map_eq_some_iff.1 h3
  simp only [Prod.mk.injEq] at he
  refine ⟨madeCells (Value.cells (.agg #[.bool false, .int .i64 0, .int .i64 0, .bool false, .int .i64 0, .int .i64 0])) (n * 6), size_madeCells _ _, fun W => ?_⟩
  have := run_make (P := Try.prog) W 60 59 i (.agg #[.bool false, .int .i64 0, .int .i64 0, .bool false, .int .i64 0, .int .i64 0]) (by kernel_rfl) hi he.1 .i64 .i64 n n (by omega) (by omega) (by rw [he.2.2]; omega) (by omega)
  rw [this, he.2.1]
  simp
theorem made32 (n : Nat) (hn : n ≤ 1048576) : ∃ C : Array Value, C.size = n * 2 ∧ ∀ W : World, (Instr.makeSlice 32 (.int .i64 (n : Int)) (.int .i64 (n : Int))).run Try.prog W = .ok (.slice (some ⟨W.heap.size, 0, none⟩) n n) (W.alloc (.cells C 62)) := by
  have h3 : (Try.prog.info? 62).map (fun i => (i.zero, i.size, i.bytes)) = some (some (.agg #[.slice none 0 0, .slice none 0 0]), 2, 48) := by kernel_rfl
  obtain ⟨i, hi, he⟩ := Option.map_eq_some_iff.1 h3
  simp only [Prod.mk.injEq] at he
  refine ⟨madeCells (Value.cells (.agg #[.slice none 0 0, .slice none 0 0])) (n * 2), size_madeCells _ _, fun W => ?_⟩
  have := run_make (P := Try.prog) W 32 62 i (.agg #[.slice none 0 0, .slice none 0 0]) (by kernel_rfl) hi he.1 .i64 .i64 n n (by omega) (by omega) (by rw [he.2.2]; omega) (by omega)
  rw [this, he.2.1]
  simp
theorem made25 (n : Nat) (hn : n ≤ 1048576) : ∃ C : Array Value, C.size = n * 1 ∧ ∀ W : World, (Instr.makeSlice 25 (.int .i64 (n : Int)) (.int .i64 (n : Int))).run Try.prog W = .ok (.slice (some ⟨W.heap.size, 0, none⟩) n n) (W.alloc (.cells C 3)) := by
  have h3 : (Try.prog.info? 3).map (fun i => (i.zero, i.size, i.bytes)) = some (some (.int .i64 0), 1, 8) := by kernel_rfl
  obtain ⟨i, hi, he⟩ := Option.map_eq_some_iff.1 h3
  simp only [Prod.mk.injEq] at he
  refine ⟨madeCells (Value.cells (.int .i64 0)) (n * 1), size_madeCells _ _, fun W => ?_⟩
  have := run_make (P := Try.prog) W 25 3 i (.int .i64 0) (by kernel_rfl) hi he.1 .i64 .i64 n n (by omega) (by omega) (by rw [he.2.2]; omega) (by omega)
  rw [this, he.2.1]
  simp
set_option maxHeartbeats 1000000 in
set_option maxRecDepth 100000 in
theorem to72_calls (x : Th) (w : World) : Calls Try.prog 72 #[.agg #[.int .i64 x.f0, .bool x.f1]] w fun e w' => e = .returned (.agg #[.int .i64 x.f0, .bool x.f1]) ∧ Below w.heap.size w w' := by
  obtain ⟨a0, a1⟩ := x
  go_enter Try.func72, Try.ntmps72
  go_wp2
  exact bodyPost_ret (v := .agg #[.int .i64 a0, .bool a1]) (by simp [results, Try.results72, go_sem]) rfl ⟨rfl, by repeat (first | exact Below.refl _ _ | refine Below.drew ?_ | refine below_drewN ?_ _ | refine Below.alloc ?_ (by simp; try omega) _ | refine Below.setCell ?_ (by simp) _)⟩
theorem encTh_len (x : Th) : (encTh x).length = 2 := rfl
set_option maxHeartbeats 4000000 in
set_option maxRecDepth 100000 in
theorem to38_calls (va : Value) (l : List Th) (w : World) (ha : RdS encTh 2 w va l) (hn : l.length ≤ 1048576) :
    Calls Try.prog 38 #[va] w fun e w' => ∃ v, e = .returned v ∧ Row encTh 2 50 w' w.heap.size v l ∧ Below w.heap.size w w' := by
  obtain ⟨A, c, rfl, hl, hm, g⟩ := ha
  have H1 := Aside.mk g
  clear g
  obtain ⟨C, hC, hmk⟩ := made31 l.length hn
  have HP0 : Aside (Part encTh 2 50 (w.alloc (.cells C 50)) w.heap.size (.slice (some ⟨w.heap.size, 0, none⟩) l.length l.length) l.length ([] : List Th)) := ⟨⟨_, World.ownsRow_lit w C l.length (Nat.le_refl _) (by simp [maxLen]; omega) hC, by simp⟩⟩
  clear hC
  go_enter Try.func38, Try.ntmps38
  go_wp2
  go_loopw [4] (fun v wr => ∃ k : Nat, v = .int .i64 k ∧ k ≤ l.length ∧ Part encTh 2 50 wr w.heap.size (.slice (some ⟨w.heap.size, 0, none⟩) l.length l.length) l.length (l.take k) ∧ w.heap.size < wr.heap.size ∧ Below w.heap.size w wr) (fun v _ => l.length - (intOf v).toNat)
  case atStart => exact ⟨0, rfl, Nat.zero_le _, HP0.out, by simp, (Below.refl _ _).alloc (Nat.le_refl _) _⟩
  case round =>
    clear hmk HP0
    obtain ⟨k, rfl, hk, hP, hsz, hbw⟩ := hrel
    have HBW := Aside.mk hbw
    have HP := Aside.mk hP
    clear hbw hP
    by_cases hlt : k < l.length
    · obtain ⟨x, hx⟩ : ∃ x, l[k]? = some x := ⟨_, List.getElem?_eq_getElem hlt⟩
      obtain ⟨ad, rfl, hc⟩ := (H1.out.below HBW.out) k x hx
      have Hx := Aside.mk hx
      obtain ⟨a0, a1⟩ := x
      have p0 := hc.c0
      have p1 := hc.c1
      clear hc hx
      go_wp2_with fail
      refine (to72_calls ⟨a0, a1⟩ _).mono ?_
      rintro e w1 ⟨rfl, hb1⟩
      have HP1 := Aside.mk (HP.out.below hb1)
      have HB1 : Aside (Below w.heap.size w w1) := ⟨below_call HBW.out (Nat.le_refl _) hb1⟩
      have hz1 := hb1.size
      obtain ⟨u0x, hu0⟩ := HP1.out.cell (j := k * 2) (by omega)
      have hf0 := HP1.out.frozen (k * 2)
      obtain ⟨u1x, hu1⟩ := HP1.out.cell (j := k * 2 + 1) (by omega)
      have hf1 := HP1.out.frozen (k * 2 + 1)
      have HST := Aside.mk (HP1.out.step (x := ⟨a0, a1⟩) rfl (by rw [List.length_take]; omega))
      have hlk : (l.take k).length = k := by rw [List.length_take]; omega
      rw [hlk] at HST
      clear hb1 hlk
      go_wp2
      go_roundw
      case rel => exact ⟨k + 1, by go_num, by omega, by rw [take_snoc Hx.out]; exact HST.out.1, by have := HST.out.2.size; exact Nat.lt_of_lt_of_le hsz (Nat.le_trans hz1 this), below_grown HB1.out HB1.out.size HST.out.2 (Nat.le_refl _)⟩
      case measure => simp [intOf]; omega
    · have hke : l.take k = l := List.take_of_length_le (by omega)
      rw [hke] at HP
      clear hke
      go_wp2
      go_ret
      exact ⟨_, rfl, HP.out.row rfl, HBW.out⟩
set_option maxHeartbeats 1000000 in
set_option maxRecDepth 100000 in
theorem to74_calls (x : L) (w : World) : Calls Try.prog 74 #[.agg #[.int .i64 x.f0, .int .i64 x.f1, .int .i64 x.f2, .int .i64 x.f3]] w fun e w' => e = .returned (.agg #[.int .i64 x.f0, .int .i64 x.f1, .int .i64 x.f2, .int .i64 x.f3]) ∧ Below w.heap.size w w' := by
  obtain ⟨a0, a1, a2, a3⟩ := x
  go_enter Try.func74, Try.ntmps74
  go_wp2
  exact bodyPost_ret (v := .agg #[.int .i64 a0, .int .i64 a1, .int .i64 a2, .int .i64 a3]) (by simp [results, Try.results74, go_sem]) rfl ⟨rfl, by repeat (first | exact Below.refl _ _ | refine Below.drew ?_ | refine below_drewN ?_ _ | refine Below.alloc ?_ (by simp; try omega) _ | refine Below.setCell ?_ (by simp) _)⟩
theorem encL_len (x : L) : (encL x).length = 4 := rfl
set_option maxHeartbeats 4000000 in
set_option maxRecDepth 100000 in
theorem to40_calls (va : Value) (l : List L) (w : World) (ha : RdS encL 4 w va l) (hn : l.length ≤ 1048576) :
    Calls Try.prog 40 #[va] w fun e w' => ∃ v, e = .returned v ∧ Row encL 4 114 w' w.heap.size v l ∧ Below w.heap.size w w' := by
  obtain ⟨A, c, rfl, hl, hm, g⟩ := ha
  have H1 := Aside.mk g
  clear g
  obtain ⟨C, hC, hmk⟩ := made33 l.length hn
  have HP0 : Aside (Part encL 4 114 (w.alloc (.cells C 114)) w.heap.size (.slice (some ⟨w.heap.size, 0, none⟩) l.length l.length) l.length ([] : List L)) := ⟨⟨_, World.ownsRow_lit w C l.length (Nat.le_refl _) (by simp [maxLen]; omega) hC, by simp⟩⟩
  clear hC
  go_enter Try.func40, Try.ntmps40
  go_wp2
  go_loopw [4] (fun v wr => ∃ k : Nat, v = .int .i64 k ∧ k ≤ l.length ∧ Part encL 4 114 wr w.heap.size (.slice (some ⟨w.heap.size, 0, none⟩) l.length l.length) l.length (l.take k) ∧ w.heap.size < wr.heap.size ∧ Below w.heap.size w wr) (fun v _ => l.length - (intOf v).toNat)
  case atStart => exact ⟨0, rfl, Nat.zero_le _, HP0.out, by simp, (Below.refl _ _).alloc (Nat.le_refl _) _⟩
  case round =>
    clear hmk HP0
    obtain ⟨k, rfl, hk, hP, hsz, hbw⟩ := hrel
    have HBW := Aside.mk hbw
    have HP := Aside.mk hP
    clear hbw hP
    by_cases hlt : k < l.length
    · obtain ⟨x, hx⟩ : ∃ x, l[k]? = some x := ⟨_, List.getElem?_eq_getElem hlt⟩
      obtain ⟨ad, rfl, hc⟩ := (H1.out.below HBW.out) k x hx
      have Hx := Aside.mk hx
      obtain ⟨a0, a1, a2, a3⟩ := x
      have p0 := hc.c0
      have p1 := hc.c1
      have p2 := hc.c2
      have p3 := hc.c3
      clear hc hx
      go_wp2_with fail
      refine (to74_calls ⟨a0, a1, a2, a3⟩ _).mono ?_
      rintro e w1 ⟨rfl, hb1⟩
      have HP1 := Aside.mk (HP.out.below hb1)
      have HB1 : Aside (Below w.heap.size w w1) := ⟨below_call HBW.out (Nat.le_refl _) hb1⟩
      have hz1 := hb1.size
      obtain ⟨u0x, hu0⟩ := HP1.out.cell (j := k * 4) (by omega)
      have hf0 := HP1.out.frozen (k * 4)
      obtain ⟨u1x, hu1⟩ := HP1.out.cell (j := k * 4 + 1) (by omega)
      have hf1 := HP1.out.frozen (k * 4 + 1)
      obtain ⟨u2x, hu2⟩ := HP1.out.cell (j := k * 4 + 2) (by omega)
      have hf2 := HP1.out.frozen (k * 4 + 2)
      obtain ⟨u3x, hu3⟩ := HP1.out.cell (j := k * 4 + 3) (by omega)
      have hf3 := HP1.out.frozen (k * 4 + 3)
      have HST := Aside.mk (HP1.out.step (x := ⟨a0, a1, a2, a3⟩) rfl (by rw [List.length_take]; omega))
      have hlk : (l.take k).length = k := by rw [List.length_take]; omega
      rw [hlk] at HST
      clear hb1 hlk
      go_wp2
      go_roundw
      case rel => exact ⟨k + 1, by go_num, by omega, by rw [take_snoc Hx.out]; exact HST.out.1, by have := HST.out.2.size; exact Nat.lt_of_lt_of_le hsz (Nat.le_trans hz1 this), below_grown HB1.out HB1.out.size HST.out.2 (Nat.le_refl _)⟩
      case measure => simp [intOf]; omega
    · have hke : l.take k = l := List.take_of_length_le (by omega)
      rw [hke] at HP
      clear hke
      go_wp2
      go_ret
      exact ⟨_, rfl, HP.out.row rfl, HBW.out⟩
set_option maxHeartbeats 1000000 in
set_option maxRecDepth 100000 in
theorem to109_calls (x : H) (w : World) : Calls Try.prog 109 #[.agg #[.bool x.f0, .int .i64 x.f1, .int .i64 x.f2, .bool x.f3, .int .i64 x.f4, .int .i64 x.f5]] w fun e w' => e = .returned (.agg #[.bool x.f0, .int .i64 x.f1, .int .i64 x.f2, .bool x.f3, .int .i64 x.f4, .int .i64 x.f5]) ∧ Below w.heap.size w w' := by
  obtain ⟨a0, a1, a2, a3, a4, a5⟩ := x
  go_enter Try.func109, Try.ntmps109
  go_wp2
  exact bodyPost_ret (v := .agg #[.bool a0, .int .i64 a1, .int .i64 a2, .bool a3, .int .i64 a4, .int .i64 a5]) (by simp [results, Try.results109, go_sem]) rfl ⟨rfl, by repeat (first | exact Below.refl _ _ | refine Below.drew ?_ | refine below_drewN ?_ _ | refine Below.alloc ?_ (by simp; try omega) _ | refine Below.setCell ?_ (by simp) _)⟩
theorem encH_len (x : H) : (encH x).length = 6 := rfl
set_option maxHeartbeats 4000000 in
set_option maxRecDepth 100000 in
theorem to101_calls (va : Value) (l : List H) (w : World) (ha : RdS encH 6 w va l) (hn : l.length ≤ 1048576) :
    Calls Try.prog 101 #[va] w fun e w' => ∃ v, e = .returned v ∧ Row encH 6 59 w' w.heap.size v l ∧ Below w.heap.size w w' := by
  obtain ⟨A, c, rfl, hl, hm, g⟩ := ha
  have H1 := Aside.mk g
  clear g
  obtain ⟨C, hC, hmk⟩ := made60 l.length hn
  have HP0 : Aside (Part encH 6 59 (w.alloc (.cells C 59)) w.heap.size (.slice (some ⟨w.heap.size, 0, none⟩) l.length l.length) l.length ([] : List H)) := ⟨⟨_, World.ownsRow_lit w C l.length (Nat.le_refl _) (by simp [maxLen]; omega) hC, by simp⟩⟩
  clear hC
  go_enter Try.func101, Try.ntmps101
  go_wp2
  go_loopw [4] (fun v wr => ∃ k : Nat, v = .int .i64 k ∧ k ≤ l.length ∧ Part encH 6 59 wr w.heap.size (.slice (some ⟨w.heap.size, 0, none⟩) l.length l.length) l.length (l.take k) ∧ w.heap.size < wr.heap.size ∧ Below w.heap.size w wr) (fun v _ => l.length - (intOf v).toNat)
  case atStart => exact ⟨0, rfl, Nat.zero_le _, HP0.out, by simp, (Below.refl _ _).alloc (Nat.le_refl _) _⟩
  case round =>
    clear hmk HP0
    obtain ⟨k, rfl, hk, hP, hsz, hbw⟩ := hrel
    have HBW := Aside.mk hbw
    have HP := Aside.mk hP
    clear hbw hP
    by_cases hlt : k < l.length
    · obtain ⟨x, hx⟩ : ∃ x, l[k]? = some x := ⟨_, List.getElem?_eq_getElem hlt⟩
      obtain ⟨ad, rfl, hc⟩ := (H1.out.below HBW.out) k x hx
      have Hx := Aside.mk hx
      obtain ⟨a0, a1, a2, a3, a4, a5⟩ := x
      have p0 := hc.c0
      have p1 := hc.c1
      have p2 := hc.c2
      have p3 := hc.c3
      have p4 := hc.c4
      have p5 := hc.c5
      clear hc hx
      go_wp2_with fail
      refine (to109_calls ⟨a0, a1, a2, a3, a4, a5⟩ _).mono ?_
      rintro e w1 ⟨rfl, hb1⟩
      have HP1 := Aside.mk (HP.out.below hb1)
      have HB1 : Aside (Below w.heap.size w w1) := ⟨below_call HBW.out (Nat.le_refl _) hb1⟩
      have hz1 := hb1.size
      obtain ⟨u0x, hu0⟩ := HP1.out.cell (j := k * 6) (by omega)
      have hf0 := HP1.out.frozen (k * 6)
      obtain ⟨u1x, hu1⟩ := HP1.out.cell (j := k * 6 + 1) (by omega)
      have hf1 := HP1.out.frozen (k * 6 + 1)
      obtain ⟨u2x, hu2⟩ := HP1.out.cell (j := k * 6 + 2) (by omega)
      have hf2 := HP1.out.frozen (k * 6 + 2)
      obtain ⟨u3x, hu3⟩ := HP1.out.cell (j := k * 6 + 3) (by omega)
      have hf3 := HP1.out.frozen (k * 6 + 3)
      obtain ⟨u4x, hu4⟩ := HP1.out.cell (j := k * 6 + 4) (by omega)
      have hf4 := HP1.out.frozen (k * 6 + 4)
      obtain ⟨u5x, hu5⟩ := HP1.out.cell (j := k * 6 + 5) (by omega)
      have hf5 := HP1.out.frozen (k * 6 + 5)
      have HST := Aside.mk (HP1.out.step (x := ⟨a0, a1, a2, a3, a4, a5⟩) rfl (by rw [List.length_take]; omega))
      have hlk : (l.take k).length = k := by rw [List.length_take]; omega
      rw [hlk] at HST
      clear hb1 hlk
      go_wp2
      go_roundw
      case rel => exact ⟨k + 1, by go_num, by omega, by rw [take_snoc Hx.out]; exact HST.out.1, by have := HST.out.2.size; exact Nat.lt_of_lt_of_le hsz (Nat.le_trans hz1 this), below_grown HB1.out HB1.out.size HST.out.2 (Nat.le_refl _)⟩
      case measure => simp [intOf]; omega
    · have hke : l.take k = l := List.take_of_length_le (by omega)
      rw [hke] at HP
      clear hke
      go_wp2
      go_ret
      exact ⟨_, rfl, HP.out.row rfl, HBW.out⟩
set_option maxHeartbeats 4000000 in
set_option maxRecDepth 100000 in
theorem to41_calls (va : Value) (l : List Int) (w : World) (ha : RdS encI 1 w va l) (hn : l.length ≤ 1048576) :
    Calls Try.prog 41 #[va] w fun e w' => ∃ v, e = .returned v ∧ Row encI 1 3 w' w.heap.size v l ∧ Below w.heap.size w w' := by
  obtain ⟨A, c, rfl, hl, hm, g⟩ := ha
  have H1 := Aside.mk g
  clear g
  obtain ⟨C, hC, hmk⟩ := made25 l.length hn
  have HP0 : Aside (Part encI 1 3 (w.alloc (.cells C 3)) w.heap.size (.slice (some ⟨w.heap.size, 0, none⟩) l.length l.length) l.length ([] : List Int)) := ⟨⟨_, World.ownsRow_lit w C l.length (Nat.le_refl _) (by simp [maxLen]; omega) hC, by simp⟩⟩
  clear hC
  go_enter Try.func41, Try.ntmps41
  go_wp2
  go_loopw [4] (fun v wr => ∃ k : Nat, v = .int .i64 k ∧ k ≤ l.length ∧ Part encI 1 3 wr w.heap.size (.slice (some ⟨w.heap.size, 0, none⟩) l.length l.length) l.length (l.take k) ∧ w.heap.size < wr.heap.size ∧ Below w.heap.size w wr) (fun v _ => l.length - (intOf v).toNat)
  case atStart => exact ⟨0, rfl, Nat.zero_le _, HP0.out, by simp, (Below.refl _ _).alloc (Nat.le_refl _) _⟩
  case round =>
    clear hmk HP0
    obtain ⟨k, rfl, hk, hP, hsz, hbw⟩ := hrel
    have HBW := Aside.mk hbw
    have HP := Aside.mk hP
    clear hbw hP
    by_cases hlt : k < l.length
    · obtain ⟨x, hx⟩ : ∃ x, l[k]? = some x := ⟨_, List.getElem?_eq_getElem hlt⟩
      obtain ⟨ad, rfl, hc⟩ := (H1.out.below HBW.out).int hx
      have Hx := Aside.mk hx
      clear hx
      obtain ⟨u0x, hu0⟩ := HP.out.cell (j := k) (by omega)
      have hf0 := HP.out.frozen k
      have HST := Aside.mk (HP.out.step (x := x) rfl (by rw [List.length_take]; omega))
      have hlk : (l.take k).length * 1 = k := by rw [List.length_take]; omega
      rw [hlk] at HST
      clear hlk
      go_wp2
      go_roundw
      case rel => exact ⟨k + 1, by go_num, by omega, by rw [take_snoc Hx.out]; exact HST.out.1, by have := HST.out.2.size; exact Nat.lt_of_lt_of_le hsz this, below_grown HBW.out HBW.out.size HST.out.2 (Nat.le_refl _)⟩
      case measure => simp [intOf]; omega
    · have hke : l.take k = l := List.take_of_length_le (by omega)
      rw [hke] at HP
      clear hke
      go_wp2
      go_ret
      exact ⟨_, rfl, HP.out.row rfl, HBW.out⟩
end Go.Proofs.Ytidkmlolcfapdaa
