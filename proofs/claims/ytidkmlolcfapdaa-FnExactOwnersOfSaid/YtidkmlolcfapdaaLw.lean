import Derived.Test.YtidkmlolcfapdaaLt
set_option linter.unusedVariables false
set_option linter.unusedSimpArgs false
namespace Go.Proofs.Ytidkmlolcfapdaa
open Go.RowKit
/-! A world that a call owns, and the law's copy of its argument. -/
def apart (a b : Value) : Prop := ∀ g, a.ownBlock = some g → b.ownBlock ≠ some g
abbrev Apart (l : List Value) : Prop := l.Pairwise apart
def encP (p : Value × Value) : List Value := [p.1, p.2]
/-- All blocks lie below N. -/
def under (l : List Value) (N : Nat) : Prop := ∀ a ∈ l, ∀ g, a.ownBlock = some g → g < N
def over (l : List Value) (N : Nat) : Prop := ∀ a ∈ l, ∀ g, a.ownBlock = some g → N ≤ g
theorem Apart.append {l r : List Value} {N : Nat} (hl : Apart l) (hr : Apart r) (h1 : under l N) (h2 : over r N) : Apart (l ++ r) :=
  List.pairwise_append.2 ⟨hl, hr, fun a ha b hb g e1 e2 => by
    have := h1 a ha g e1
    have := h2 b hb g e2
    omega⟩
theorem under.mono {l : List Value} {N M : Nat} (h : under l N) (hm : N ≤ M) : under l M := fun a ha g e => Nat.lt_of_lt_of_le (h a ha g e) hm
theorem over.mono {l : List Value} {N M : Nat} (h : over l M) (hm : N ≤ M) : over l N := fun a ha g e => Nat.le_trans hm (h a ha g e)
def tvs (tv : List (Value × Value)) : List Value := tv.flatMap encP
/-- The rows of tables. -/
structure TabsOk (w : World) (lo : Nat) (tv : List (Value × Value)) (ts : List T) : Prop where
  len : tv.length = ts.length
  row : ∀ (i : Nat) (p : Value × Value) (t : T), tv[i]? = some p → ts[i]? = some t → Row encH 6 59 w lo p.1 t.f0 ∧ RowI w lo p.2 t.f1
/-- A world of one's own. -/
structure OwnW (w : World) (lo : Nat) (v0 v1 v2 v3 : Value) (m : Wd) (tv : List (Value × Value)) : Prop where
  th : Row encTh 2 50 w lo v0 m.f0
  tb : Row encP 2 62 w lo v1 tv
  ts : TabsOk w lo tv m.f1
  cs : Row encL 4 114 w lo v2 m.f2
  en : RowI w lo v3 m.f3
  ap : Apart ([v0, v1, v2, v3] ++ tvs tv)
theorem encI_len (x : Int) : (encI x).length = 1 := rfl
theorem encP_len (x : Value × Value) : (encP x).length = 2 := rfl
theorem TabsOk.rd {w : World} {lo : Nat} {v : Value} {tv : List (Value × Value)} {ts : List T} (h : TabsOk w lo tv ts) (hr : Row encP 2 62 w lo v tv) : RdTs w v ts := by
  obtain ⟨A, c, e, h1, h2, h3⟩ := hr.rd encP_len
  refine ⟨A, c, by rw [e, h.len], by rw [← h.len]; exact h1, h2, fun i t ht => ?_⟩
  have hi : i < tv.length := by rw [h.len]; exact (List.getElem?_eq_some_iff.1 ht).1
  obtain ⟨p, hp⟩ : ∃ p, tv[i]? = some p := ⟨_, List.getElem?_eq_getElem hi⟩
  obtain ⟨ad, ea, ha⟩ := h3 i p hp
  obtain ⟨r1, r2⟩ := h.row i p t hp ht
  exact ⟨ad, p.1, p.2, ea, ha, r1.rd encH_len, r2.rd encI_len⟩
theorem OwnW.rd {w : World} {lo : Nat} {v0 v1 v2 v3 : Value} {m : Wd} {tv : List (Value × Value)} (h : OwnW w lo v0 v1 v2 v3 m tv) : RdW w v0 v1 v2 v3 m :=
  ⟨h.th.rd encTh_len, h.ts.rd h.tb, h.cs.rd encL_len, h.en.rd encI_len⟩
theorem TabsOk.below {w w' : World} {lo : Nat} {tv : List (Value × Value)} {ts : List T} (h : TabsOk w lo tv ts) (hb : Below w.heap.size w w') : TabsOk w' lo tv ts :=
  ⟨h.len, fun i p t hp ht => ⟨(h.row i p t hp ht).1.below hb, (h.row i p t hp ht).2.below hb⟩⟩
theorem OwnW.below {w w' : World} {lo : Nat} {v0 v1 v2 v3 : Value} {m : Wd} {tv : List (Value × Value)} (h : OwnW w lo v0 v1 v2 v3 m tv) (hb : Below w.heap.size w w') : OwnW w' lo v0 v1 v2 v3 m tv :=
  ⟨h.th.below hb, h.tb.below hb, h.ts.below hb, h.cs.below hb, h.en.below hb, h.ap⟩
theorem mem_tvs {tv : List (Value × Value)} {a : Value} : a ∈ tvs tv ↔ ∃ (i : Nat) (p : Value × Value), tv[i]? = some p ∧ (a = p.1 ∨ a = p.2) := by
  unfold tvs
  rw [List.mem_flatMap]
  constructor
  · rintro ⟨p, hp, ha⟩
    obtain ⟨i, hi⟩ := List.getElem?_of_mem hp
    simp [encP] at ha
    exact ⟨i, p, hi, ha⟩
  · rintro ⟨i, p, hi, ha⟩
    exact ⟨p, List.mem_of_getElem? hi, by simpa [encP] using ha⟩
theorem TabsOk.lt {w : World} {lo : Nat} {tv : List (Value × Value)} {ts : List T} (h : TabsOk w lo tv ts) : ∀ a ∈ tvs tv, ∀ g, a.ownBlock = some g → lo ≤ g ∧ g < w.heap.size := by
  intro a ha g hg
  obtain ⟨i, p, hi, hp⟩ := mem_tvs.1 ha
  have hit : i < ts.length := by rw [← h.len]; exact (List.getElem?_eq_some_iff.1 hi).1
  obtain ⟨r1, r2⟩ := h.row i p _ hi (List.getElem?_eq_getElem hit)
  rcases hp with rfl | rfl
  · exact r1.lt g hg
  · exact r2.lt g hg
theorem TabsOk.kept {w w' : World} {lo : Nat} {tv : List (Value × Value)} {ts : List T} {b : Option Nat} (h : TabsOk w lo tv ts) (hg : w.grownBy w' b) (hne : ∀ a ∈ tvs tv, a.ownBlock = none ∨ a.ownBlock ≠ b) : TabsOk w' lo tv ts :=
  ⟨h.len, fun i p t hp ht => ⟨(h.row i p t hp ht).1.kept hg (hne _ (mem_tvs.2 ⟨i, p, hp, .inl rfl⟩)), (h.row i p t hp ht).2.kept hg (hne _ (mem_tvs.2 ⟨i, p, hp, .inr rfl⟩))⟩⟩
theorem TabsOk.snoc {w : World} {lo : Nat} {tv : List (Value × Value)} {ts : List T} {p : Value × Value} {t : T} (h : TabsOk w lo tv ts) (h1 : Row encH 6 59 w lo p.1 t.f0) (h2 : RowI w lo p.2 t.f1) : TabsOk w lo (tv ++ [p]) (ts ++ [t]) := by
  refine ⟨by simp [h.len], fun i q u hq hu => ?_⟩
  by_cases c : i < tv.length
  · rw [List.getElem?_append_left c] at hq
    rw [List.getElem?_append_left (by rw [← h.len]; exact c)] at hu
    exact h.row i q u hq hu
  · have hi := (List.getElem?_eq_some_iff.1 hq).1
    simp at hi
    have e : i = tv.length := by omega
    subst e
    rw [List.getElem?_append_right (Nat.le_refl _)] at hq
    rw [List.getElem?_append_right (by rw [h.len]; exact Nat.le_refl _), h.len] at hu
    simp at hq hu
    subst hq hu
    exact ⟨h1, h2⟩
theorem Row.far {α : Type} {enc : α → List Value} {sz : Nat} {e : TypeId} {w : World} {lo : Nat} {v : Value} {l : List α} (h : Row enc sz e w lo v l) {a : Addr} (ha : a.block < lo) (u : Value) : Row enc sz e (w.setCell a u) lo v l := by
  refine h.kept (b := some a.block) ⟨rfl, rfl, rfl, by simp, fun k _ hk => heap_setCell_other w a k u (fun e => hk (by simp [e]))⟩ ?_
  cases hv : v.ownBlock with
  | none => exact .inl rfl
  | some g =>
    refine .inr fun e => ?_
    have := (h.lt g hv).1
    cases e
    omega
set_option maxHeartbeats 2000000 in
set_option maxRecDepth 100000 in
theorem to73_calls (vs vf : Value) (t : T) (w : World) (h1 : RdS encH 6 w vs t.f0) (h2 : RdS encI 1 w vf t.f1) (n1 : t.f0.length ≤ 1048576) (n2 : t.f1.length ≤ 1048576) :
    Calls Try.prog 73 #[.agg #[vs, vf]] w fun e w' => ∃ p : Value × Value, e = .returned (.agg #[p.1, p.2]) ∧ Row encH 6 59 w' w.heap.size p.1 t.f0 ∧ RowI w' w.heap.size p.2 t.f1 ∧ apart p.1 p.2 ∧ Below w.heap.size w w' := by
  have H1 := Aside.mk h1
  have H2 := Aside.mk h2
  obtain ⟨A1, c1, rfl, -⟩ := h1
  obtain ⟨A2, c2, rfl, -⟩ := h2
  have HAL : Aside (∀ o o2 o3, Below w.heap.size w (((w.alloc o).alloc o2).alloc o3)) := ⟨fun o o2 o3 => (((Below.refl _ _).alloc (Nat.le_refl _) _).alloc (by simp) _).alloc (by simp; try omega) _⟩
  go_enter Try.func73, Try.ntmps73
  go_wp2_with fail
  refine (to101_calls _ t.f0 _ (H1.out.below (HAL.out _ _ _)) n1).mono ?_
  rintro e w1 ⟨s, rfl, hr, hb1⟩
  have HR := Aside.mk hr
  have HB1 : Aside (Below w.heap.size w w1) := ⟨below_call (HAL.out _ _ _) (Nat.le_refl _) hb1⟩
  obtain ⟨hb1c, hb1f⟩ := bcell hb1
  have hsz : w.heap.size + 3 ≤ w1.heap.size := by have := hb1.size; simp at this; omega
  have hz0 : w.heap.size < w1.heap.size := by omega
  have hz1 : w.heap.size + 1 < w1.heap.size := by omega
  have hz2 : w.heap.size + 1 + 1 < w1.heap.size := by omega
  obtain ⟨A3, c3, rfl, -⟩ := hr.rd encH_len
  clear hr hb1
  go_wp2_with fail
  refine (to41_calls _ t.f1 _ (H2.out.below (HB1.out.setCell (by simp; try omega) _)) n2).mono ?_
  rintro e w2 ⟨f, rfl, hr2, hb2⟩
  have HR2 := Aside.mk hr2
  have HRa : Aside (Row encH 6 59 w2 (w.heap.size + 3) (.slice A3 t.f0.length c3) t.f0) := ⟨by
    have h := (HR.out.far (a := ⟨w.heap.size + 1 + 1, 0, none⟩) (by simp) (.slice A3 t.f0.length c3)).below hb2
    exact h.base (fun k hk => by have := (h.lt k hk).1; simpa using this)⟩
  have HB2 : Aside (Below w.heap.size w w2) := ⟨below_call (HB1.out.setCell (by simp; try omega) _) (by simp; try omega) hb2⟩
  obtain ⟨hb2c, hb2f⟩ := bcell hb2
  have hs2 := hb2.size
  have hy1 : w.heap.size + 1 < w2.heap.size := by simp at hs2; omega
  have hy2 : w.heap.size + 1 + 1 < w2.heap.size := by simp at hs2; omega
  have hls : ∀ g, f.ownBlock = some g → w1.heap.size ≤ g := fun g hg => by have := (hr2.lt g hg).1; simpa using this
  obtain ⟨A4, c4, rfl, -⟩ := hr2.rd encI_len
  have hl3 : ∀ g, (Value.slice A3 t.f0.length c3).ownBlock = some g → g < w1.heap.size := fun g hg => (HR.out.lt g hg).2
  have HL := Aside.mk hls
  have HL3 := Aside.mk hl3
  have d0 : w2.cell? ⟨w.heap.size + 1, 0, none⟩ = some (.slice none 0 0) := by
    rw [hb2c _ _ (by simp; try omega)]
    go_simp
  have d1 : w2.cell? ⟨w.heap.size + 1, 1, none⟩ = some (.slice none 0 0) := by
    rw [hb2c _ _ (by simp; try omega)]
    go_simp
  clear hr2 hb2 hls hl3 hs2
  go_wp2
  refine bodyPost_ret (v := .agg #[.slice A3 t.f0.length c3, .slice A4 t.f1.length c4]) (by simp [results, Try.results73, go_sem, d0, d1]) rfl ⟨(.slice A3 t.f0.length c3, .slice A4 t.f1.length c4), rfl, ?_, ?_, ?_, ?_⟩
  · have h := ((HRa.out.far (a := ⟨w.heap.size + 1 + 1, 1, none⟩) (by simp) (.slice A4 t.f1.length c4)).far (a := ⟨w.heap.size + 1, 0, none⟩) (by simp; try omega) (.slice A3 t.f0.length c3)).far (a := ⟨w.heap.size + 1, 1, none⟩) (by simp; try omega) (.slice A4 t.f1.length c4)
    exact h.base (fun k hk => by have := (h.lt k hk).1; omega)
  · have h0 : Row encI 1 3 w2 (w.heap.size + 3) (.slice A4 t.f1.length c4) t.f1 := HR2.out.base (fun k hk => by have := HL.out k hk; omega)
    have h := ((h0.far (a := ⟨w.heap.size + 1 + 1, 1, none⟩) (by simp) (.slice A4 t.f1.length c4)).far (a := ⟨w.heap.size + 1, 0, none⟩) (by simp; try omega) (.slice A3 t.f0.length c3)).far (a := ⟨w.heap.size + 1, 1, none⟩) (by simp; try omega) (.slice A4 t.f1.length c4)
    exact h.base (fun k hk => by have := (h.lt k hk).1; omega)
  · intro g e1 e2
    have := HL.out g e2
    have := HL3.out g e1
    omega
  · exact ((HB2.out.setCell (by simp; try omega) _).setCell (by simp) _).setCell (by simp) _

theorem Part.kept {α : Type} {enc : α → List Value} {sz : Nat} {e : TypeId} {w w' : World} {lo : Nat} {v : Value} {n : Nat} {d : List α} {b : Option Nat} (h : Part enc sz e w lo v n d) (hg : w.grownBy w' b) (hne : v.ownBlock = none ∨ v.ownBlock ≠ b) : Part enc sz e w' lo v n d := by
  obtain ⟨xs, h1, h2⟩ := h.own
  exact ⟨xs, h1.kept hg hne, h2⟩
theorem tvs_snoc (tv : List (Value × Value)) (p : Value × Value) : tvs (tv ++ [p]) = tvs tv ++ [p.1, p.2] := by simp [tvs, encP]
set_option maxHeartbeats 4000000 in
set_option maxRecDepth 100000 in
theorem to39_calls (va : Value) (l : List T) (w : World) (ha : RdTs w va l) (hn : l.length ≤ 1048576) (hls : ∀ t ∈ l, t.f0.length ≤ 1048576 ∧ t.f1.length ≤ 1048576) :
    Calls Try.prog 39 #[va] w fun e w' => ∃ v tv, e = .returned v ∧ Row encP 2 62 w' w.heap.size v tv ∧ TabsOk w' w.heap.size tv l ∧ Apart (v :: tvs tv) ∧ Below w.heap.size w w' := by
  obtain ⟨A, c, rfl, hl, hm, g⟩ := ha
  have H1 := Aside.mk g
  have HLS := Aside.mk hls
  clear g hls
  obtain ⟨C, hC, hmk⟩ := made32 l.length hn
  have HP0 : Aside (Part encP 2 62 (w.alloc (.cells C 62)) w.heap.size (.slice (some ⟨w.heap.size, 0, none⟩) l.length l.length) l.length []) := ⟨⟨_, World.ownsRow_lit w C l.length (Nat.le_refl _) (by simp [maxLen]; omega) hC, by simp⟩⟩
  clear hC
  go_enter Try.func39, Try.ntmps39
  go_wp2
  go_loopw [4] (fun v wr => ∃ (k : Nat) (tv : List (Value × Value)), v = .int .i64 k ∧ k ≤ l.length ∧ tv.length = k ∧ Part encP 2 62 wr w.heap.size (.slice (some ⟨w.heap.size, 0, none⟩) l.length l.length) l.length tv ∧ TabsOk wr w.heap.size tv (l.take k) ∧ Apart (.slice (some ⟨w.heap.size, 0, none⟩) l.length l.length :: tvs tv) ∧ w.heap.size < wr.heap.size ∧ Below w.heap.size w wr) (fun v _ => l.length - (intOf v).toNat)
  case atStart => exact ⟨0, [], rfl, Nat.zero_le _, rfl, HP0.out, ⟨rfl, fun i p t hp => by simp at hp⟩, by simp [tvs], by simp, (Below.refl _ _).alloc (Nat.le_refl _) _⟩
  case round =>
    clear hmk HP0
    obtain ⟨k, tv, rfl, hk, htv, hP, hT, hA, hsz, hbw⟩ := hrel
    have HBW := Aside.mk hbw
    have HP := Aside.mk hP
    have HT := Aside.mk hT
    have HA := Aside.mk hA
    have HTV := Lib.hid htv
    clear hbw hP hT hA htv
    by_cases hlt : k < l.length
    · obtain ⟨t, hx⟩ : ∃ x, l[k]? = some x := ⟨_, List.getElem?_eq_getElem hlt⟩
      obtain ⟨ad, s, f, rfl, hc, hs, hf⟩ := (H1.out.below HBW.out) k t hx
      have Hx := Aside.mk hx
      have HS := Aside.mk hs
      have HF := Aside.mk hf
      obtain ⟨n1, n2⟩ := HLS.out t (List.mem_of_getElem? hx)
      obtain ⟨A1, c1, rfl, -⟩ := hs
      obtain ⟨A2, c2, rfl, -⟩ := hf
      have p0 := hc.c0
      have p1 := hc.c1
      clear hc hx
      go_wp2_with fail
      refine (to73_calls _ _ t _ HS.out HF.out n1 n2).mono ?_
      rintro e w1 ⟨p, rfl, hr1, hr2, hap, hb1⟩
      have HP1 := Aside.mk (HP.out.below hb1)
      have HT1 := Aside.mk (HT.out.below hb1)
      have HB1 : Aside (Below w.heap.size w w1) := ⟨below_call HBW.out (Nat.le_refl _) hb1⟩
      have hz1 := hb1.size
      have HR1 := Aside.mk hr1
      have HR2 := Aside.mk hr2
      have HAP := Aside.mk hap
      obtain ⟨u0x, hu0⟩ := HP1.out.cell (j := k * 2) (by omega)
      obtain ⟨u1x, hu1⟩ := HP1.out.cell (j := k * 2 + 1) (by omega)
      have hf0 := HP1.out.frozen (k * 2)
      have hf1 := HP1.out.frozen (k * 2 + 1)
      have HST := Aside.mk (HP1.out.step (x := p) rfl (by rw [HTV.out]; exact hlt))
      rw [HTV.out] at HST
      obtain ⟨s, f⟩ := p
      simp only at hr1 hr2
      obtain ⟨A3, c3, rfl, -⟩ := hr1.rd encH_len
      obtain ⟨A4, c4, rfl, -⟩ := hr2.rd encI_len
      clear hr1 hr2 hap hb1
      have HNEW : Aside (TabsOk (wsets w1 w.heap.size (k * 2) (encP (.slice A3 t.f0.length c3, .slice A4 t.f1.length c4))) w.heap.size (tv ++ [(.slice A3 t.f0.length c3, .slice A4 t.f1.length c4)]) (l.take (k + 1))) := ⟨by
        rw [take_snoc Hx.out]
        have hk1 := HST.out.2
        refine TabsOk.snoc (HT1.out.kept hk1 fun a ha => ?_) ?_ ?_
        · cases hv : a.ownBlock with
          | none => exact .inl rfl
          | some g =>
            refine .inr fun e => ?_
            cases e
            exact (List.pairwise_cons.1 HA.out).1 a ha _ rfl hv
        · refine (HR1.out.kept hk1 ?_).base (fun g hg => ?_)
          · cases hv : (Value.slice A3 t.f0.length c3).ownBlock with
            | none => exact .inl rfl
            | some g =>
              refine .inr fun e => ?_
              have := (HR1.out.lt g hv).1
              cases e
              omega
          · have := (HR1.out.lt g hg).1
            omega
        · refine (HR2.out.kept hk1 ?_).base (fun g hg => ?_)
          · cases hv : (Value.slice A4 t.f1.length c4).ownBlock with
            | none => exact .inl rfl
            | some g =>
              refine .inr fun e => ?_
              have := (HR2.out.lt g hv).1
              cases e
              omega
          · have := (HR2.out.lt g hg).1
            omega⟩
      have HANEW : Aside (Apart (.slice (some ⟨w.heap.size, 0, none⟩) l.length l.length :: tvs (tv ++ [(.slice A3 t.f0.length c3, .slice A4 t.f1.length c4)]))) := ⟨by
        rw [tvs_snoc]
        refine Apart.append (l := .slice (some ⟨w.heap.size, 0, none⟩) l.length l.length :: tvs tv) (N := wr.heap.size) HA.out (List.pairwise_pair.2 HAP.out) ?_ ?_
        · intro a ha g hg
          rcases List.mem_cons.1 ha with rfl | ha
          · exact (HP.out.lt g hg).2
          · exact (HT.out.lt a ha g hg).2
        · intro a ha g hg
          simp at ha
          rcases ha with rfl | rfl
          · exact (HR1.out.lt g hg).1
          · exact (HR2.out.lt g hg).1⟩
      go_wp2
      go_roundw
      case rel => exact ⟨k + 1, tv ++ [(Value.slice A3 t.f0.length c3, Value.slice A4 t.f1.length c4)], by go_num, by omega, by simp [HTV.out], HST.out.1, HNEW.out, HANEW.out, by have := HST.out.2.size; exact Nat.lt_of_lt_of_le hsz (Nat.le_trans hz1 this), below_grown HB1.out HB1.out.size HST.out.2 (Nat.le_refl _)⟩
      case measure => simp [intOf]; omega
    · have hke : l.take k = l := List.take_of_length_le (by omega)
      rw [hke] at HT
      have HTV2 : Aside (tv.length = l.length) := ⟨by rw [HTV.out]; omega⟩
      clear hke
      go_wp2
      go_ret
      exact ⟨_, tv, rfl, HP.out.row HTV2.out, HT.out, HA.out, HBW.out⟩

set_option maxHeartbeats 4000000 in
set_option maxRecDepth 100000 in
theorem toWorld_calls (v0 v1 v2 v3 : Value) (m : Wd) (w : World) (h : RdW w v0 v1 v2 v3 m) (hn : m.f0.length + (m.f1.length + totT m.f1) + m.f2.length + m.f3.length ≤ 1048576) :
    Calls Try.prog 10 #[.agg #[v0, v1, v2, v3]] w fun e w' => ∃ a0 a1 a2 a3 tv, e = .returned (.agg #[a0, a1, a2, a3]) ∧ OwnW w' w.heap.size a0 a1 a2 a3 m tv ∧ Below w.heap.size w w' := by
  obtain ⟨th, ts, cs, en⟩ := m
  have HW := Aside.mk h
  obtain ⟨A0, c0, rfl, -⟩ := h.things
  obtain ⟨A1, c1, rfl, -⟩ := h.tables
  obtain ⟨A2, c2, rfl, -⟩ := h.calls
  obtain ⟨A3, c3, rfl, -⟩ := h.ended
  simp only at HW hn ⊢
  have HLT : Aside (∀ t ∈ ts, t.f0.length ≤ 1048576 ∧ t.f1.length ≤ 1048576) := ⟨fun t ht => by
    obtain ⟨i, hi⟩ := List.getElem?_of_mem ht
    have h1 := totT_snoc hi
    have h2 : totT (ts.take (i + 1)) ≤ totT ts := by
      conv => rhs; rw [← List.take_append_drop (i + 1) ts]
      unfold totT
      rw [List.map_append, List.sum_append]
      omega
    omega⟩
  clear h
  have HAL : Aside (∀ o o2 o3, Below w.heap.size w (((w.alloc o).alloc o2).alloc o3)) := ⟨fun o o2 o3 => (((Below.refl _ _).alloc (Nat.le_refl _) _).alloc (by simp) _).alloc (by simp; omega) _⟩
  go_enter Try.func10, Try.ntmps10
  go_wp2_with fail
  refine (to38_calls _ th _ (HW.out.things.below (HAL.out _ _ _)) (by omega)).mono ?_
  rintro e w1 ⟨x0, rfl, hr, hb1⟩
  have HB1 : Aside (Below w.heap.size w w1) := ⟨below_call (HAL.out _ _ _) (Nat.le_refl _) hb1⟩
  obtain ⟨hb1c, hb1f⟩ := bcell hb1
  have hs1 : w.heap.size + 3 ≤ w1.heap.size := by have := hb1.size; simp at this; omega
  have hz0 : w.heap.size < w1.heap.size := by omega
  have hz1 : w.heap.size + 1 < w1.heap.size := by omega
  have hz2 : w.heap.size + 1 + 1 < w1.heap.size := by omega
  have HR0 : Aside (Row encTh 2 50 w1 (w.heap.size + 3) x0 th) := ⟨hr.base (fun k hk => by have := (hr.lt k hk).1; simpa using this)⟩
  have BX : Aside (Blk w1 w.heap.size #[.slice A0 th.length c0, .slice A1 ts.length c1, .slice A2 cs.length c2, .slice A3 en.length c3] 27) := ⟨(((Blk.new w _ _).alloc _).alloc _).below hb1⟩
  have hz : Blk (((w.alloc (.cells #[.slice A0 th.length c0, .slice A1 ts.length c1, .slice A2 cs.length c2, .slice A3 en.length c3] 27)).alloc (.cells #[.slice none 0 0, .slice none 0 0, .slice none 0 0, .slice none 0 0] 35)).alloc (.cells #[.slice none 0 0, .slice none 0 0, .slice none 0 0, .slice none 0 0] 35)) (w.heap.size + 1 + 1) #[.slice none 0 0, .slice none 0 0, .slice none 0 0, .slice none 0 0] 35 := by
    have := Blk.new ((w.alloc (.cells #[.slice A0 th.length c0, .slice A1 ts.length c1, .slice A2 cs.length c2, .slice A3 en.length c3] 27)).alloc (.cells #[.slice none 0 0, .slice none 0 0, .slice none 0 0, .slice none 0 0] 35)) #[.slice none 0 0, .slice none 0 0, .slice none 0 0, .slice none 0 0] 35
    simp only [World.size_alloc] at this
    exact this
  have hz' : Blk (((w.alloc (.cells #[.slice A0 th.length c0, .slice A1 ts.length c1, .slice A2 cs.length c2, .slice A3 en.length c3] 27)).alloc (.cells #[.slice none 0 0, .slice none 0 0, .slice none 0 0, .slice none 0 0] 35)).alloc (.cells #[.slice none 0 0, .slice none 0 0, .slice none 0 0, .slice none 0 0] 35)) (w.heap.size + 1) #[.slice none 0 0, .slice none 0 0, .slice none 0 0, .slice none 0 0] 35 := by
    have := (Blk.new (w.alloc (.cells #[.slice A0 th.length c0, .slice A1 ts.length c1, .slice A2 cs.length c2, .slice A3 en.length c3] 27)) #[.slice none 0 0, .slice none 0 0, .slice none 0 0, .slice none 0 0] 35).alloc (.cells #[.slice none 0 0, .slice none 0 0, .slice none 0 0, .slice none 0 0] 35)
    simp only [World.size_alloc] at this
    exact this
  have OX := Aside.mk (hz.below hb1)
  have RX := Aside.mk (hz'.below hb1)
  obtain ⟨X0, d0, rfl, -⟩ := hr.rd encTh_len
  clear hr hb1 hb1c hb1f hz hz'
  have cells : ∀ (W : World) (x0 x1 x2 x3 : Value), Blk W w.heap.size #[.slice A0 th.length c0, .slice A1 ts.length c1, .slice A2 cs.length c2, .slice A3 en.length c3] 27 → Blk W (w.heap.size + 1 + 1) #[x0, x1, x2, x3] 35 →
      W.cell? ⟨w.heap.size, 1, none⟩ = some (.slice A1 ts.length c1) ∧ W.cell? ⟨w.heap.size, 2, none⟩ = some (.slice A2 cs.length c2) ∧ W.cell? ⟨w.heap.size, 3, none⟩ = some (.slice A3 en.length c3) ∧
      W.cell? ⟨w.heap.size + 1 + 1, 0, none⟩ = some x0 ∧ W.cell? ⟨w.heap.size + 1 + 1, 1, none⟩ = some x1 ∧ W.cell? ⟨w.heap.size + 1 + 1, 2, none⟩ = some x2 ∧ W.cell? ⟨w.heap.size + 1 + 1, 3, none⟩ = some x3 ∧ (∀ j, W.frozen? ⟨w.heap.size + 1 + 1, j, none⟩ = false) := fun W x0 x1 x2 x3 h1 h2 =>
    ⟨h1.cell 1, h1.cell 2, h1.cell 3, h2.cell 0, h2.cell 1, h2.cell 2, h2.cell 3, h2.frozen⟩
  have CELLS := Aside.mk cells
  clear cells
  obtain ⟨e1, e2, e3, o0, o1, o2, o3, of⟩ := CELLS.out _ _ _ _ _ BX.out OX.out
  go_wp2_with fail
  have BW1 : Aside (Below w.heap.size w (w1.setCell ⟨w.heap.size + 1 + 1, 0, none⟩ (.slice X0 th.length d0))) := ⟨HB1.out.setCell (by simp; try omega) _⟩
  have BX1 : Aside (Blk (w1.setCell ⟨w.heap.size + 1 + 1, 0, none⟩ (.slice X0 th.length d0)) w.heap.size #[.slice A0 th.length c0, .slice A1 ts.length c1, .slice A2 cs.length c2, .slice A3 en.length c3] 27) := ⟨BX.out.far (by simp; try omega) _⟩
  have RX1 : Aside (Blk (w1.setCell ⟨w.heap.size + 1 + 1, 0, none⟩ (.slice X0 th.length d0)) (w.heap.size + 1) #[.slice none 0 0, .slice none 0 0, .slice none 0 0, .slice none 0 0] 35) := ⟨RX.out.far (by simp) _⟩
  have OX1 : Aside (Blk (w1.setCell ⟨w.heap.size + 1 + 1, 0, none⟩ (.slice X0 th.length d0)) (w.heap.size + 1 + 1) #[.slice X0 th.length d0, .slice none 0 0, .slice none 0 0, .slice none 0 0] 35) := ⟨OX.out.set 0 _⟩
  clear BX RX OX e1 e2 e3 o0 o1 o2 o3 of
  refine (to39_calls _ ts _ (HW.out.tables.below BW1.out) (by omega) HLT.out).mono ?_
  rintro e w2 ⟨x1, tv, rfl, hr, htb, hap, hb2⟩
  have HTB := Aside.mk htb
  have HAP := Aside.mk hap
  have hss := hb2.size
  simp at hss
  have hst2 : w1.heap.size ≤ w2.heap.size := hss
  have HB2 : Aside (Below w.heap.size w w2) := ⟨below_call BW1.out (by simp; try omega) hb2⟩
  have BX := Aside.mk (BX1.out.below hb2)
  have RX := Aside.mk (RX1.out.below hb2)
  have OX := Aside.mk (OX1.out.below hb2)
  have HX1 := Aside.mk hb2
  have HR1 := Aside.mk hr
  have hv1 : ∀ g, Value.ownBlock x1 = some g → w1.heap.size ≤ g ∧ g < w2.heap.size := fun g hg => by have := hr.lt g hg; simpa using this
  have HV1 := Aside.mk hv1
  have HVT : Aside (∀ a ∈ tvs tv, ∀ g, a.ownBlock = some g → w1.heap.size ≤ g ∧ g < w2.heap.size) := ⟨fun a ha g hg => by have := htb.lt a ha g hg; simpa using this⟩
  obtain ⟨X1, d1, rfl, -⟩ := hr.rd encP_len
  clear htb hap
  clear hr hb2 hss hv1
  obtain ⟨e1, e2, e3, o0, o1, o2, o3, of⟩ := CELLS.out _ _ _ _ _ BX.out OX.out
  go_wp2_with fail
  have BW2 : Aside (Below w.heap.size w (w2.setCell ⟨w.heap.size + 1 + 1, 1, none⟩ (.slice X1 tv.length d1))) := ⟨HB2.out.setCell (by simp; try omega) _⟩
  have BX2 : Aside (Blk (w2.setCell ⟨w.heap.size + 1 + 1, 1, none⟩ (.slice X1 tv.length d1)) w.heap.size #[.slice A0 th.length c0, .slice A1 ts.length c1, .slice A2 cs.length c2, .slice A3 en.length c3] 27) := ⟨BX.out.far (by simp; try omega) _⟩
  have RX2 : Aside (Blk (w2.setCell ⟨w.heap.size + 1 + 1, 1, none⟩ (.slice X1 tv.length d1)) (w.heap.size + 1) #[.slice none 0 0, .slice none 0 0, .slice none 0 0, .slice none 0 0] 35) := ⟨RX.out.far (by simp) _⟩
  have OX2 : Aside (Blk (w2.setCell ⟨w.heap.size + 1 + 1, 1, none⟩ (.slice X1 tv.length d1)) (w.heap.size + 1 + 1) #[.slice X0 th.length d0, .slice X1 tv.length d1, .slice none 0 0, .slice none 0 0] 35) := ⟨OX.out.set 1 _⟩
  clear BX RX OX e1 e2 e3 o0 o1 o2 o3 of
  refine (to40_calls _ cs _ (HW.out.calls.below BW2.out) (by omega)).mono ?_
  rintro e w3 ⟨x2, rfl, hr, hb2⟩
  have hss := hb2.size
  simp at hss
  have hst3 : w2.heap.size ≤ w3.heap.size := hss
  have HB3 : Aside (Below w.heap.size w w3) := ⟨below_call BW2.out (by simp; try omega) hb2⟩
  have BX := Aside.mk (BX2.out.below hb2)
  have RX := Aside.mk (RX2.out.below hb2)
  have OX := Aside.mk (OX2.out.below hb2)
  have HX2 := Aside.mk hb2
  have HR2 := Aside.mk hr
  have hv2 : ∀ g, Value.ownBlock x2 = some g → w2.heap.size ≤ g ∧ g < w3.heap.size := fun g hg => by have := hr.lt g hg; simpa using this
  have HV2 := Aside.mk hv2
  obtain ⟨X2, d2, rfl, -⟩ := hr.rd encL_len
  clear hr hb2 hss hv2
  obtain ⟨e1, e2, e3, o0, o1, o2, o3, of⟩ := CELLS.out _ _ _ _ _ BX.out OX.out
  go_wp2_with fail
  have BW3 : Aside (Below w.heap.size w (w3.setCell ⟨w.heap.size + 1 + 1, 2, none⟩ (.slice X2 cs.length d2))) := ⟨HB3.out.setCell (by simp; try omega) _⟩
  have BX3 : Aside (Blk (w3.setCell ⟨w.heap.size + 1 + 1, 2, none⟩ (.slice X2 cs.length d2)) w.heap.size #[.slice A0 th.length c0, .slice A1 ts.length c1, .slice A2 cs.length c2, .slice A3 en.length c3] 27) := ⟨BX.out.far (by simp; try omega) _⟩
  have RX3 : Aside (Blk (w3.setCell ⟨w.heap.size + 1 + 1, 2, none⟩ (.slice X2 cs.length d2)) (w.heap.size + 1) #[.slice none 0 0, .slice none 0 0, .slice none 0 0, .slice none 0 0] 35) := ⟨RX.out.far (by simp) _⟩
  have OX3 : Aside (Blk (w3.setCell ⟨w.heap.size + 1 + 1, 2, none⟩ (.slice X2 cs.length d2)) (w.heap.size + 1 + 1) #[.slice X0 th.length d0, .slice X1 tv.length d1, .slice X2 cs.length d2, .slice none 0 0] 35) := ⟨OX.out.set 2 _⟩
  clear BX RX OX e1 e2 e3 o0 o1 o2 o3 of
  refine (to41_calls _ en _ (HW.out.ended.below BW3.out) (by omega)).mono ?_
  rintro e w4 ⟨x3, rfl, hr, hb2⟩
  have hss := hb2.size
  simp at hss
  have hst4 : w3.heap.size ≤ w4.heap.size := hss
  have HB4 : Aside (Below w.heap.size w w4) := ⟨below_call BW3.out (by simp; try omega) hb2⟩
  have BX := Aside.mk (BX3.out.below hb2)
  have RX := Aside.mk (RX3.out.below hb2)
  have OX := Aside.mk (OX3.out.below hb2)
  have HX3 := Aside.mk hb2
  have HR3 := Aside.mk hr
  have hv3 : ∀ g, Value.ownBlock x3 = some g → w3.heap.size ≤ g ∧ g < w4.heap.size := fun g hg => by have := hr.lt g hg; simpa using this
  have HV3 := Aside.mk hv3
  obtain ⟨X3, d3, rfl, -⟩ := hr.rd encI_len
  clear hr hb2 hss hv3
  obtain ⟨e1, e2, e3, o0, o1, o2, o3, of⟩ := CELLS.out _ _ _ _ _ BX.out OX.out
  have r0 : w4.cell? ⟨w.heap.size + 1, 0, none⟩ = some (.slice none 0 0) := RX.out.cell 0
  have r1 : w4.cell? ⟨w.heap.size + 1, 1, none⟩ = some (.slice none 0 0) := RX.out.cell 1
  have r2 : w4.cell? ⟨w.heap.size + 1, 2, none⟩ = some (.slice none 0 0) := RX.out.cell 2
  have r3 : w4.cell? ⟨w.heap.size + 1, 3, none⟩ = some (.slice none 0 0) := RX.out.cell 3
  have rf : ∀ j, w4.frozen? ⟨w.heap.size + 1, j, none⟩ = false := RX.out.frozen
  go_wp2
  refine bodyPost_ret (v := .agg #[.slice X0 th.length d0, .slice X1 tv.length d1, .slice X2 cs.length d2, .slice X3 en.length d3]) (by simp [results, Try.results10, go_sem, r0, r1, r2, r3]) rfl ⟨_, _, _, _, tv, rfl, ⟨?_, ?_, ?_, ?_, ?_, ?_⟩, ?_⟩
  · have h1 := (HR0.out.far (a := ⟨w.heap.size + 1 + 1, 0, none⟩) (by simp) (.slice X0 th.length d0)).below HX1.out
    have h2 := (h1.far (a := ⟨w.heap.size + 1 + 1, 1, none⟩) (by simp) (.slice X1 tv.length d1)).below HX2.out
    have h3 := (h2.far (a := ⟨w.heap.size + 1 + 1, 2, none⟩) (by simp) (.slice X2 cs.length d2)).below HX3.out
    exact (((((h3.far (a := ⟨w.heap.size + 1 + 1, 3, none⟩) (by simp; try omega) (.slice X3 en.length d3)).far (a := ⟨w.heap.size + 1, 0, none⟩) (by simp; try omega) (.slice X0 th.length d0)).far (a := ⟨w.heap.size + 1, 1, none⟩) (by simp; try omega) (.slice X1 tv.length d1)).far (a := ⟨w.heap.size + 1, 2, none⟩) (by simp; try omega) (.slice X2 cs.length d2)).far (a := ⟨w.heap.size + 1, 3, none⟩) (by simp; try omega) (.slice X3 en.length d3)).base (fun k hk => by have := (HR0.out.lt k hk).1; omega)
  · have h0 := HR1.out.base (lo' := w.heap.size + 3) (fun k hk => by have := HV1.out k hk; omega)
    have h2 := (h0.far (a := ⟨w.heap.size + 1 + 1, 1, none⟩) (by simp) (.slice X1 tv.length d1)).below HX2.out
    have h3 := (h2.far (a := ⟨w.heap.size + 1 + 1, 2, none⟩) (by simp) (.slice X2 cs.length d2)).below HX3.out
    exact (((((h3.far (a := ⟨w.heap.size + 1 + 1, 3, none⟩) (by simp; try omega) (.slice X3 en.length d3)).far (a := ⟨w.heap.size + 1, 0, none⟩) (by simp; try omega) (.slice X0 th.length d0)).far (a := ⟨w.heap.size + 1, 1, none⟩) (by simp; try omega) (.slice X1 tv.length d1)).far (a := ⟨w.heap.size + 1, 2, none⟩) (by simp; try omega) (.slice X2 cs.length d2)).far (a := ⟨w.heap.size + 1, 3, none⟩) (by simp; try omega) (.slice X3 en.length d3)).base (fun k hk => by have := HV1.out k hk; omega)
  · refine ⟨HTB.out.len, fun i p t hp ht => ?_⟩
    obtain ⟨q1, q2⟩ := HTB.out.row i p t hp ht
    have b1 : ∀ k, p.1.ownBlock = some k → w1.heap.size ≤ k := fun k hk => (HVT.out _ (mem_tvs.2 ⟨i, p, hp, .inl rfl⟩) k hk).1
    have b2 : ∀ k, p.2.ownBlock = some k → w1.heap.size ≤ k := fun k hk => (HVT.out _ (mem_tvs.2 ⟨i, p, hp, .inr rfl⟩) k hk).1
    constructor
    · have h0 := q1.base (lo' := w.heap.size + 3) (fun k hk => by have := b1 k hk; omega)
      have h2 := (h0.far (a := ⟨w.heap.size + 1 + 1, 1, none⟩) (by simp) (.slice X1 tv.length d1)).below HX2.out
      have h3 := (h2.far (a := ⟨w.heap.size + 1 + 1, 2, none⟩) (by simp) (.slice X2 cs.length d2)).below HX3.out
      exact (((((h3.far (a := ⟨w.heap.size + 1 + 1, 3, none⟩) (by simp; try omega) (.slice X3 en.length d3)).far (a := ⟨w.heap.size + 1, 0, none⟩) (by simp; try omega) (.slice X0 th.length d0)).far (a := ⟨w.heap.size + 1, 1, none⟩) (by simp; try omega) (.slice X1 tv.length d1)).far (a := ⟨w.heap.size + 1, 2, none⟩) (by simp; try omega) (.slice X2 cs.length d2)).far (a := ⟨w.heap.size + 1, 3, none⟩) (by simp; try omega) (.slice X3 en.length d3)).base (fun k hk => by have := b1 k hk; omega)
    · have h0 : RowI w2 (w.heap.size + 3) p.2 t.f1 := q2.base (fun k hk => by have := b2 k hk; omega)
      have h2 := (h0.far (a := ⟨w.heap.size + 1 + 1, 1, none⟩) (by simp) (.slice X1 tv.length d1)).below HX2.out
      have h3 := (h2.far (a := ⟨w.heap.size + 1 + 1, 2, none⟩) (by simp) (.slice X2 cs.length d2)).below HX3.out
      exact (((((h3.far (a := ⟨w.heap.size + 1 + 1, 3, none⟩) (by simp; try omega) (.slice X3 en.length d3)).far (a := ⟨w.heap.size + 1, 0, none⟩) (by simp; try omega) (.slice X0 th.length d0)).far (a := ⟨w.heap.size + 1, 1, none⟩) (by simp; try omega) (.slice X1 tv.length d1)).far (a := ⟨w.heap.size + 1, 2, none⟩) (by simp; try omega) (.slice X2 cs.length d2)).far (a := ⟨w.heap.size + 1, 3, none⟩) (by simp; try omega) (.slice X3 en.length d3)).base (fun k hk => by have := b2 k hk; omega)
  · have h0 := HR2.out.base (lo' := w.heap.size + 3) (fun k hk => by have := HV2.out k hk; omega)
    have h3 := (h0.far (a := ⟨w.heap.size + 1 + 1, 2, none⟩) (by simp) (.slice X2 cs.length d2)).below HX3.out
    exact (((((h3.far (a := ⟨w.heap.size + 1 + 1, 3, none⟩) (by simp; try omega) (.slice X3 en.length d3)).far (a := ⟨w.heap.size + 1, 0, none⟩) (by simp; try omega) (.slice X0 th.length d0)).far (a := ⟨w.heap.size + 1, 1, none⟩) (by simp; try omega) (.slice X1 tv.length d1)).far (a := ⟨w.heap.size + 1, 2, none⟩) (by simp; try omega) (.slice X2 cs.length d2)).far (a := ⟨w.heap.size + 1, 3, none⟩) (by simp; try omega) (.slice X3 en.length d3)).base (fun k hk => by have := HV2.out k hk; omega)
  · have h3 : RowI w4 (w.heap.size + 3) (.slice X3 en.length d3) en := HR3.out.base (fun k hk => by have := HV3.out k hk; omega)
    exact (((((h3.far (a := ⟨w.heap.size + 1 + 1, 3, none⟩) (by simp; try omega) (.slice X3 en.length d3)).far (a := ⟨w.heap.size + 1, 0, none⟩) (by simp; try omega) (.slice X0 th.length d0)).far (a := ⟨w.heap.size + 1, 1, none⟩) (by simp; try omega) (.slice X1 tv.length d1)).far (a := ⟨w.heap.size + 1, 2, none⟩) (by simp; try omega) (.slice X2 cs.length d2)).far (a := ⟨w.heap.size + 1, 3, none⟩) (by simp; try omega) (.slice X3 en.length d3)).base (fun k hk => by have := HV3.out k hk; omega)
  · have k0 : ∀ g, (Value.slice X0 th.length d0).ownBlock = some g → g < w1.heap.size := fun g hg => (HR0.out.lt g hg).2
    have ha := List.pairwise_cons.1 HAP.out
    have far : ∀ (a b : Value), (∀ g, a.ownBlock = some g → ∀ g', b.ownBlock = some g' → g ≠ g') → apart a b := fun a b h g e1 e2 => h g e1 g e2 rfl
    have HV1 := HV1.out
    have HV2 := HV2.out
    have HV3 := HV3.out
    have HVT := HVT.out
    refine List.pairwise_append.2 ⟨?_, ha.2, fun a ha' b hb => ?_⟩
    · simp only [List.pairwise_cons, List.mem_cons, List.not_mem_nil, or_false, List.Pairwise.nil, and_true]
      refine ⟨fun b hb => ?_, fun b hb => ?_, fun b hb => ?_, fun b hb => by cases hb⟩
      · rcases hb with rfl | rfl | rfl
        · exact far _ _ fun g e g' e' => by have := k0 g e; have := HV1 g' e'; omega
        · exact far _ _ fun g e g' e' => by have := k0 g e; have := HV2 g' e'; omega
        · exact far _ _ fun g e g' e' => by have := k0 g e; have := HV3 g' e'; omega
      · rcases hb with rfl | rfl
        · exact far _ _ fun g e g' e' => by have := HV1 g e; have := HV2 g' e'; omega
        · exact far _ _ fun g e g' e' => by have := HV1 g e; have := HV3 g' e'; omega
      · subst hb
        exact far _ _ fun g e g' e' => by have := HV2 g e; have := HV3 g' e'; omega
    · simp only [List.mem_cons, List.not_mem_nil, or_false] at ha'
      rcases ha' with rfl | rfl | rfl | rfl
      · exact far _ _ fun g e g' e' => by have := k0 g e; have := HVT b hb g' e'; omega
      · exact ha.1 b hb
      · exact far _ _ fun g e g' e' => by have := HV2 g e; have := HVT b hb g' e'; omega
      · exact far _ _ fun g e g' e' => by have := HV3 g e; have := HVT b hb g' e'; omega
  · exact ((((HB4.out.setCell (by simp; try omega) _).setCell (by simp) _).setCell (by simp) _).setCell (by simp) _).setCell (by simp) _
end Go.Proofs.Ytidkmlolcfapdaa
