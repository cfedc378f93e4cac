import Derived.Test.YtidkmlolcfapdaaSl
set_option linter.unusedVariables false
set_option linter.unusedSimpArgs false
namespace Go.Proofs.Ytidkmlolcfapdaa
open Go.RowKit
theorem slot_calls' (g : Nat) (v0 v1 v2 v3 : Value) (ts : List T) (w : World) (p k : Int) (a : H) (ha : (slotv ts p k).getD zH = a)
    (hg : Blk w g #[v0, v1, v2, v3] 35) (h1 : RdTs w v1 ts) :
    Calls Try.prog 94 #[.pointer (some ⟨g, 0, none⟩), .int .i64 p, .int .i64 k] w fun e w' => e = .returned (.tuple #[.agg #[.bool a.f0, .int .i64 a.f1, .int .i64 a.f2, .bool a.f3, .int .i64 a.f4, .int .i64 a.f5], .bool a.f0]) ∧ Below w.heap.size w w' := by
  subst ha
  exact slot_calls g v0 v1 v2 v3 ts w p k hg h1

structure LoanI (ts : List T) (i : Nat) (l : L) : Prop where
  a0 : ((slotv ts l.f0 l.f1).getD zH).f0 = true
  b0 : ((slotv ts l.f2 l.f3).getD zH).f0 = true
  a3 : ((slotv ts l.f0 l.f1).getD zH).f3 = true
  b3 : ((slotv ts l.f2 l.f3).getD zH).f3 = false
  r : ((slotv ts l.f0 l.f1).getD zH).f1 = ((slotv ts l.f2 l.f3).getD zH).f1
  p : ((slotv ts l.f0 l.f1).getD zH).f2 = ((slotv ts l.f2 l.f3).getD zH).f2
  s : ((slotv ts l.f2 l.f3).getD zH).f5 = (i : Int) + 1
def cntZ (calls : List L) (p k : Int) : Nat := calls.countP (fun l => decide (p = l.f0) && decide (k = l.f1))
def borZ (calls : List L) (p k : Int) : Bool := calls.any (fun l => decide (p = l.f2) && decide (k = l.f3))
/-- Loans are right, as the program looks. -/
structure LnOk (ts : List T) (cs : List L) : Prop where
  loan : ∀ (i : Nat) (l : L), cs[i]? = some l → LoanI ts i l
  slot : ∀ (p k : Nat) (t : T) (h : H), ts[p]? = some t → t.f0[k]? = some h → h.f0 = true → h.f4 = (cntZ cs p k : Int) ∧ (h.f3 = true ∨ borZ cs p k = true)
def fL (cs : List L) (p k : Int) : Option Value := if cntZ cs p k = 0 then none else some (.int .i64 (cntZ cs p k : Int))
def fB (cs : List L) (p k : Int) : Option Value := if borZ cs p k = true then some (.bool true) else none
theorem fL_get (cs : List L) (p k : Int) : (fL cs p k).getD (.int .i64 0) = .int .i64 (cntZ cs p k : Int) := by
  unfold fL; split
  · rename_i h; rw [h]; rfl
  · rfl
theorem fB_get (cs : List L) (p k : Int) : (fB cs p k).getD (.bool false) = .bool (borZ cs p k) := by
  unfold fB; split
  · rename_i h; rw [h]; rfl
  · rename_i h; simp at h; rw [h]; rfl
theorem fL_step (cs : List L) (l : L) : updf (fL cs) l.f0 l.f1 (.int .i64 ((cntZ cs l.f0 l.f1 : Int) + 1)) = fL (cs ++ [l]) := by
  funext p k
  unfold updf fL cntZ
  rw [List.countP_append]
  by_cases c : p = l.f0 ∧ k = l.f1
  · obtain ⟨rfl, rfl⟩ := c
    simp
  · rw [if_neg c]
    have : ¬ (decide (p = l.f0) && decide (k = l.f1)) = true := by simpa using c
    simp [List.countP_cons, this]
theorem fB_step (cs : List L) (l : L) : updf (fB cs) l.f2 l.f3 (.bool true) = fB (cs ++ [l]) := by
  funext p k
  unfold updf fB borZ
  rw [List.any_append]
  by_cases c : p = l.f2 ∧ k = l.f3
  · obtain ⟨rfl, rfl⟩ := c
    simp
  · rw [if_neg c]
    have : (decide (p = l.f2) && decide (k = l.f3)) = false := by
      rw [Bool.eq_false_iff]; simpa using c
    simp [this]
structure LQ (w : World) (ts : List T) (cs : List L) (wr : World) (k : Nat) : Prop where
  b : Below w.heap.size w wr
  g : w.heap.size + 1 < wr.heap.size
  m1 : MapR wr w.heap.size (fL (cs.take k))
  m2 : MapR wr (w.heap.size + 1) (fB (cs.take k))
  kk : k ≤ cs.length
  ok : ∀ (i : Nat) (l : L), i < k → cs[i]? = some l → LoanI ts i l
theorem MapR.new (w : World) : MapR (w.alloc (.map #[] 0)) w.heap.size (fun _ _ => none) :=
  ⟨[], 0, heap_alloc_new w _, by simp, by simp, fun p k => rfl⟩
theorem LQ.start (w : World) (ts : List T) (cs : List L) : LQ w ts cs ((w.alloc (.map #[] 0)).alloc (.map #[] 0)) 0 := by
  refine ⟨((Below.refl _ _).alloc (Nat.le_refl _) _).alloc (by simp) _, by simp, ?_, ?_, Nat.zero_le _, fun i l h => by omega⟩
  · exact (MapR.new w).block (Below.heap_alloc _ _ _ (by simp))
  · have := MapR.new (w.alloc (.map #[] 0))
    have e1 : (w.alloc (.map #[] 0)).heap.size = w.heap.size + 1 := by simp
    rw [e1] at this
    exact this
theorem LQ.move {w : World} {ts : List T} {cs : List L} {wr w2 : World} {k : Nat} (h : LQ w ts cs wr k) (hb : Below wr.heap.size wr w2) : LQ w ts cs w2 k :=
  ⟨below_call h.b (Nat.le_refl _) hb, Nat.lt_of_lt_of_le h.g hb.size, h.m1.block (hb.block _ (by have := h.g; omega)), h.m2.block (hb.block _ h.g), h.kk, h.ok⟩

/-- The slots ahead of a place are right. -/
def SlI (ts : List T) (cs : List L) (p q : Nat) : Prop := ∀ (p' k' : Nat) (t : T) (h : H), (p' < p ∨ p' = p ∧ k' < q) → ts[p']? = some t → t.f0[k']? = some h → h.f0 = true → h.f4 = (cntZ cs p' k' : Int) ∧ (h.f3 = true ∨ borZ cs p' k' = true)
theorem SlI.step {ts : List T} {cs : List L} {p q : Nat} {t : T} {h : H} (s : SlI ts cs p q) (ht : ts[p]? = some t) (hh : t.f0[q]? = some h) (hc : h.f0 = true → h.f4 = (cntZ cs p q : Int) ∧ (h.f3 = true ∨ borZ cs p q = true)) : SlI ts cs p (q + 1) := by
  intro p' k' t' h' hlt ht' hh' hu
  by_cases e : p' = p ∧ k' = q
  · obtain ⟨rfl, rfl⟩ := e
    rw [ht] at ht'
    obtain rfl := Option.some.inj ht'
    rw [hh] at hh'
    obtain rfl := Option.some.inj hh'
    exact hc hu
  · exact s p' k' t' h' (by omega) ht' hh' hu
theorem SlI.next {ts : List T} {cs : List L} {p q : Nat} {t : T} (s : SlI ts cs p q) (ht : ts[p]? = some t) (hq : t.f0.length ≤ q) : SlI ts cs (p + 1) 0 := by
  intro p' k' t' h' hlt ht' hh' hu
  refine s p' k' t' h' ?_ ht' hh' hu
  by_cases e : p' = p
  · subst e
    rw [ht] at ht'
    obtain rfl := Option.some.inj ht'
    have := (List.getElem?_eq_some_iff.1 hh').1
    omega
  · omega
theorem LQ.nobor {w : World} {ts : List T} {cs : List L} {wr : World} {k : Nat} {l : L} (h : LQ w ts cs wr k) (q : LoanI ts k l) : borZ (cs.take k) l.f2 l.f3 = false := by
  rw [Bool.eq_false_iff]
  intro hb
  unfold borZ at hb
  rw [List.any_eq_true] at hb
  obtain ⟨m, hm, he⟩ := hb
  simp only [Bool.and_eq_true, decide_eq_true_eq] at he
  obtain ⟨i, hi⟩ := List.getElem?_of_mem hm
  have hik : i < k := by
    have := (List.getElem?_eq_some_iff.1 hi).1
    simp at this; omega
  rw [List.getElem?_take, if_pos hik] at hi
  have h1 := (h.ok i m hik hi).s
  have h2 := q.s
  rw [← he.1, ← he.2, h2] at h1
  omega
theorem updf_updf (f : Int → Int → Option Value) (p k : Int) (u v : Value) : updf (updf f p k u) p k v = updf f p k v := by
  funext a b
  unfold updf
  split <;> rfl
theorem MapR.congr {w : World} {b : Nat} {f g : Int → Int → Option Value} (h : MapR w b f) (e : f = g) : MapR w b g := e ▸ h
theorem LQ.step {w : World} {ts : List T} {cs : List L} {W W1 W2 W3 : World} {k : Nat} {l : L} (h : LQ w ts cs W k) (hx : cs[k]? = some l) (q : LoanI ts k l)
    (g1 : W.drew.grownBy W1 (some w.heap.size)) (g2 : W1.grownBy W2 (some w.heap.size)) (m1 : MapR W2 w.heap.size (fL (cs.take k ++ [l])))
    (g3 : W2.grownBy W3 (some (w.heap.size + 1))) (m2 : MapR W3 (w.heap.size + 1) (fB (cs.take k ++ [l]))) : LQ w ts cs W3 (k + 1) := by
  have hb := ((h.b.drew.grown g1 (by have := h.b.size; simpa using this) (by intro i hi; cases hi; exact Nat.le_refl _)))
  have hb2 := (hb.grown g2 hb.size (by intro i hi; cases hi; exact Nat.le_refl _))
  have hb3 := (hb2.grown g3 hb2.size (by intro i hi; cases hi; omega))
  have hs : w.heap.size + 1 < W3.heap.size := by
    have a1 := g1.size
    have a2 := g2.size
    have a3 := g3.size
    have a0 := h.g
    simp at a1
    omega
  have ht := take_snoc hx
  refine ⟨hb3, hs, ?_, by rw [ht]; exact m2, by have := (List.getElem?_eq_some_iff.1 hx).1; omega, fun i m hi hm => ?_⟩
  · rw [ht]
    exact m1.block (g3.block _ m1.lt (by simp))
  · by_cases e : i = k
    · subst e
      rw [hx] at hm
      obtain rfl := Option.some.inj hm
      exact q
    · exact h.ok i m (by omega) hm

set_option maxHeartbeats 2000000 in
set_option maxRecDepth 100000 in
theorem loansOk_calls (g : Nat) (v0 v1 v2 v3 : Value) (ts : List T) (cs : List L) (w : World) (b : Bool)
    (hg : Blk w g #[v0, v1, v2, v3] 35) (h1 : RdTs w v1 ts) (h2 : RdS encL 4 w v2 cs) (hb : b = true ↔ LnOk ts cs) :
    Calls Try.prog 60 #[.pointer (some ⟨g, 0, none⟩)] w fun e w' => e = .returned (.bool b) ∧ Below w.heap.size w w' := by
  have HT := Aside.mk h1
  have HG := Aside.mk hg
  obtain ⟨A1, c1, rfl, hl1, hm1, g1⟩ := h1
  obtain ⟨A2, c2, rfl, hl2, hm2, g2⟩ := h2
  have H1 := Aside.mk g1
  have H2 := Aside.mk g2
  have HB := Aside.mk hb
  have gc1 : w.cell? ⟨g, 1, none⟩ = some (.slice A1 ts.length c1) := hg.cell 1
  have gc2 : w.cell? ⟨g, 2, none⟩ = some (.slice A2 cs.length c2) := hg.cell 2
  have hgl := hg.lt
  have gne : ¬ g = w.heap.size := by omega
  clear g1 g2 hb hg
  have hmm := @run_makeMap Try.prog
  go_enter Try.func60, Try.ntmps60
  go_wp2
  go_loopw [22] (fun v wr => ∃ k : Nat, v = .int .i64 k ∧ LQ w ts cs wr k) (fun v _ => cs.length - (intOf v).toNat)
  case atStart => exact ⟨0, rfl, LQ.start w ts cs⟩
  case round =>
    obtain ⟨k, rfl, hR⟩ := hrel
    have HR := Aside.mk hR
    have hsz := hR.g
    have hk := hR.kk
    clear hR
    have gw1 := cell_old HR.out.b gc1
    by_cases hlt : k < cs.length
    · obtain ⟨l, hx⟩ : ∃ x, cs[k]? = some x := ⟨_, List.getElem?_eq_getElem hlt⟩
      obtain ⟨ad, rfl, hc⟩ := (H2.out.below HR.out.b) k l hx
      have Hx := Aside.mk hx
      clear hx
      obtain ⟨l0, l1, l2, l3⟩ := l
      have q0 := hc.c0
      have q1 := hc.c1
      have q2 := hc.c2
      have q3 := hc.c3
      clear hc
      generalize ha : (slotv ts l0 l1).getD zH = a
      generalize hbb : (slotv ts l2 l3).getD zH = b2
      have HA := Lib.hid ha
      have HBb := Lib.hid hbb
      clear ha hbb
      go_wp2_with fail
      refine (slot_calls' g v0 _ _ v3 ts _ _ _ a HA.out (HG.out.below (HR.out.b.alloc HR.out.b.size _)) (HT.out.below (HR.out.b.alloc HR.out.b.size _))).mono ?_
      rintro e w1 ⟨rfl, hb1⟩
      have B1 : Aside (Below w.heap.size w w1) := ⟨below_call (HR.out.b.alloc HR.out.b.size _) (Nat.le_refl _) hb1⟩
      have HR1 : Aside (LQ w ts cs w1 k) := ⟨(HR.out.move ((Below.refl _ _).alloc (Nat.le_refl _) _)).move hb1⟩
      obtain ⟨hb1c, hb1f⟩ := bcell hb1
      have hz1 : wr.heap.size + 1 ≤ w1.heap.size := by have := hb1.size; simp at this; omega
      have hz1' : wr.heap.size < w1.heap.size := by omega
      clear hb1
      go_wp2_with fail
      refine (slot_calls' g v0 _ _ v3 ts _ _ _ b2 HBb.out (HG.out.below (B1.out.alloc B1.out.size _)) (HT.out.below (B1.out.alloc B1.out.size _))).mono ?_
      rintro e w2 ⟨rfl, hb2⟩
      have B2 : Aside (Below w.heap.size w w2) := ⟨below_call (B1.out.alloc B1.out.size _) (Nat.le_refl _) hb2⟩
      have HR2 : Aside (LQ w ts cs w2 k) := ⟨(HR1.out.move ((Below.refl _ _).alloc (Nat.le_refl _) _)).move hb2⟩
      obtain ⟨hb2c, hb2f⟩ := bcell hb2
      have hz2 : w1.heap.size + 1 ≤ w2.heap.size := by have := hb2.size; simp at this; omega
      have hz2' : w1.heap.size < w2.heap.size := by omega
      have hz2'' : wr.heap.size < w2.heap.size := by omega
      clear hb2
      have hl2 : ∀ o, (Instr.lookup 132 (.map (some (w.heap.size + 1))) (.agg #[.int .i64 l2, .int .i64 l3]) false).run Try.prog (w2.alloc o) = .ok (.bool (borZ (cs.take k) l2 l3)) (w2.alloc o) := fun o => by
        have h := ((HR2.out.move ((Below.refl _ _).alloc (Nat.le_refl _) o)).m2).lookup 132 4 (.bool false) l2 l3 Try.underlying132 (by go_simp)
        rw [h, fB_get]
      have HF : Aside (LnOk ts cs → a.f0 = true ∧ b2.f0 = true ∧ a.f3 = true ∧ b2.f3 = false ∧ a.f1 = b2.f1 ∧ a.f2 = b2.f2 ∧ b2.f5 = (k : Int) + 1 ∧ borZ (cs.take k) l2 l3 = false) := ⟨fun h => by
        have q := h.loan k _ Hx.out
        have n := HR2.out.nobor q
        have := q.a0; have := q.b0; have := q.a3; have := q.b3; have := q.r; have := q.p; have := q.s
        simp only [HA.out, HBb.out] at *
        refine ⟨?_, ?_, ?_, ?_, ?_, ?_, ?_, ?_⟩ <;> assumption⟩
      have HT2 : Aside (a.f0 = true → b2.f0 = true → a.f3 = true → ¬ b2.f3 = true → a.f1 = b2.f1 → a.f2 = b2.f2 → b2.f5 = (k : Int) + 1 → LoanI ts k ⟨l0, l1, l2, l3⟩) := ⟨fun e0 e1 e2 e3 e4 e5 e6 => by
        refine ⟨?_, ?_, ?_, ?_, ?_, ?_, ?_⟩ <;> simp only [HA.out, HBb.out] <;> first | assumption | (simpa using e3)⟩
      go_wp2
      all_goals try
        go_ret
        refine ⟨ret_f HB.out (fun h => ?_), B2.out.alloc B2.out.size _⟩
        obtain ⟨e0, e1, e2, e3, e4, e5, e6, e7⟩ := HF.out h
        first | (simp_all; done) | (exfalso; simp_all; omega)
      have hq : LoanI ts k ⟨l0, l1, l2, l3⟩ := HT2.out (by assumption) (by assumption) (by assumption) (by assumption) (by assumption) (by assumption) (by have h5 : (b2.f5 != (k : Int) + 1) = false := (by assumption); simpa using h5)
      obtain ⟨W, hW⟩ : ∃ W, W = w2.alloc (.cells #[.bool true, .int .i64 b2.f1, .int .i64 b2.f2, .bool false, .int .i64 b2.f4, .int .i64 b2.f5] 59) := ⟨_, rfl⟩
      have hQ := HR2.out.move (w2 := W) (by rw [hW]; exact (Below.refl _ _).alloc (Nat.le_refl _) _)
      have d0 : W.cell? ⟨wr.heap.size, 0, none⟩ = some (.int .i64 l0) := by rw [hW]; go_simp
      have d1 : W.cell? ⟨wr.heap.size, 1, none⟩ = some (.int .i64 l1) := by rw [hW]; go_simp
      have d2 : W.cell? ⟨wr.heap.size, 2, none⟩ = some (.int .i64 l2) := by rw [hW]; go_simp
      have d3 : W.cell? ⟨wr.heap.size, 3, none⟩ = some (.int .i64 l3) := by rw [hW]; go_simp
      rw [← hW]
      have HQ := Aside.mk hQ
      have Hq := Aside.mk hq
      have hWs : wr.heap.size < W.heap.size := by rw [hW]; simp; omega
      have wne1 : ¬ w.heap.size = wr.heap.size := by omega
      have wne2 : ¬ w.heap.size + 1 = wr.heap.size := by omega
      clear hW hQ hq
      have m1 := MapR.block (w' := W.drew) HQ.out.m1 rfl
      have hL := m1.lookup 131 3 (.int .i64 0) l0 l1 Try.underlying131 (by go_simp)
      obtain ⟨W1, st, hE, hent, hg1⟩ := m1.entry 131 3 (.int .i64 0) l0 l1 Try.underlying131 (by go_simp)
      have hL1 := hent.map.lookup 131 3 (.int .i64 0) l0 l1 Try.underlying131 (by go_simp)
      have hu : updf (fL (cs.take k)) l0 l1 ((fL (cs.take k) l0 l1).getD (.int .i64 0)) l0 l1 = some ((fL (cs.take k) l0 l1).getD (.int .i64 0)) := by simp [updf]
      rw [hu, Option.getD_some, fL_get] at hL1
      rw [fL_get] at hL hE hent
      generalize hn : (cntZ (cs.take k) l0 l1 : Int) = n at hL hE hent hL1
      have n0 : 0 ≤ n := by omega
      have nk : n ≤ k := by
        rw [← hn]
        have h1 := List.countP_le_length (p := fun l => decide (l0 = l.f0) && decide (l1 = l.f1)) (l := cs.take k)
        have h2 : (cs.take k).length ≤ k := List.length_take_le _ _
        have h3 : cntZ (cs.take k) l0 l1 ≤ (cs.take k).length := h1
        omega
      obtain ⟨W2, hS, m2, hg2⟩ := hent.store 131 (.int .i64 (n + 1)) (by simp [asInt, asIntOf, goInt])
      rw [updf_updf, ← hn, fL_step (cs.take k) ⟨l0, l1, l2, l3⟩] at m2
      have M2 := Aside.mk m2
      have G1 := Aside.mk hg1
      have G2 := Aside.mk hg2
      have x2 : W2.cell? ⟨wr.heap.size, 2, none⟩ = some (.int .i64 l2) := hg2.cell (hg1.cell d2 (by simp; omega)) (by simp; omega)
      have x3 : W2.cell? ⟨wr.heap.size, 3, none⟩ = some (.int .i64 l3) := hg2.cell (hg1.cell d3 (by simp; omega)) (by simp; omega)
      have mB := HQ.out.m2.block (hg1.block _ HQ.out.m2.lt (by simp))
      obtain ⟨W3, hU, m3, hg3⟩ := (mB.block (hg2.block _ mB.lt (by simp))).update 132 4 l2 l3 (.bool true) Try.underlying132
      rw [fB_step (cs.take k) ⟨l0, l1, l2, l3⟩] at m3
      have HN : Aside (LQ w ts cs W3 (k + 1)) := ⟨HQ.out.step Hx.out Hq.out G1.out G2.out M2.out hg3 m3⟩
      simp only [goInt] at hE hS
      clear m3 hg3 mB hg2 hg1 m2 hent hu hn m1
      go_region
      all_goals
        go_wp2
        go_roundw
        case rel => exact ⟨k + 1, by go_num, HN.out⟩
        case measure => simp [intOf]; omega
    · have hke : cs.take k = cs := List.take_of_length_le (by omega)
      have HK : Aside (∀ W, LQ w ts cs W k → MapR W w.heap.size (fL cs) ∧ MapR W (w.heap.size + 1) (fB cs)) := ⟨fun W h => by
        have a1 := h.m1
        have a2 := h.m2
        rw [hke] at a1 a2
        exact ⟨a1, a2⟩⟩
      have HLn : Aside (∀ (i : Nat) (l : L), cs[i]? = some l → LoanI ts i l) := ⟨fun i l h => HR.out.ok i l (by have := (List.getElem?_eq_some_iff.1 h).1; omega) h⟩
      clear hke
      go_wp2
      obtain ⟨wo, rfl⟩ : ∃ wo : World, wo = wr := ⟨_, rfl⟩
      go_loopw [110] (fun v wr => ∃ p : Nat, v = .int .i64 p ∧ p ≤ ts.length ∧ LQ w ts cs wr k ∧ SlI ts cs p 0) (fun v _ => ts.length - (intOf v).toNat)
      case atStart => exact ⟨0, rfl, Nat.zero_le _, HR.out, fun p' k' t h hp => by omega⟩
      case round =>
        clear HR hsz gw1
        obtain ⟨p, rfl, hp, hR, hS⟩ := hrel
        have HR := Aside.mk hR
        have HS := Aside.mk hS
        have hsz := hR.g
        clear hR hS
        by_cases hpl : p < ts.length
        · obtain ⟨t, ht⟩ : ∃ t, ts[p]? = some t := ⟨_, List.getElem?_eq_getElem hpl⟩
          obtain ⟨ad, s, f, rfl, hc, hs, hf⟩ := H1.out p t ht
          have Ht := Aside.mk ht
          clear ht
          have q0 := cell_old HR.out.b hc.c0
          have q1 := cell_old HR.out.b hc.c1
          clear hc
          obtain ⟨A3, c3, rfl, hl3, hm3, g3⟩ := hs
          obtain ⟨A4, c4, rfl, -, -, -⟩ := hf
          have H3 := Aside.mk g3
          clear g3
          go_wp2
          obtain ⟨wo2, rfl⟩ : ∃ wo : World, wo = wr := ⟨_, rfl⟩
          go_loopw [118] (fun v wr => ∃ q : Nat, v = .int .i64 q ∧ q ≤ t.f0.length ∧ LQ w ts cs wr k ∧ SlI ts cs p q) (fun v _ => t.f0.length - (intOf v).toNat)
          case atStart => exact ⟨0, rfl, Nat.zero_le _, HR.out.move ((Below.refl _ _).alloc (Nat.le_refl _) _), HS.out⟩
          case round =>
            obtain ⟨q, rfl, hq, hR2, hS2⟩ := hrel
            have HR2 := Aside.mk hR2
            have HS2 := Aside.mk hS2
            have hsz2 := hR2.g
            clear hR2 hS2 q0 q1
            by_cases hql : q < t.f0.length
            · obtain ⟨h, hx⟩ : ∃ x, t.f0[q]? = some x := ⟨_, List.getElem?_eq_getElem hql⟩
              obtain ⟨ad2, rfl, hc⟩ := (H3.out.below HR2.out.b) q h hx
              have Hx := Aside.mk hx
              clear hx
              obtain ⟨u, r, rp, o, l, s⟩ := h
              have q0 := hc.c0
              have q1 := hc.c1
              have q2 := hc.c2
              have q3 := hc.c3
              have q4 := hc.c4
              have q5 := hc.c5
              clear hc
              have hL : ∀ (o : Obj) (n : Nat), (Instr.lookup 131 (.map (some w.heap.size)) (.agg #[.int .i64 p, .int .i64 q]) false).run Try.prog ((wr.alloc o).drewN n) = .ok (.int .i64 (cntZ cs p q : Int)) ((wr.alloc o).drewN n) := fun o n => by
                have h := (HK.out _ (HR2.out.move (below_drewN ((Below.refl _ _).alloc (Nat.le_refl _) o) n))).1.lookup 131 3 (.int .i64 0) p q Try.underlying131 (by go_simp)
                rw [h, fL_get]
              have hB : ∀ (o : Obj) (n : Nat), (Instr.lookup 132 (.map (some (w.heap.size + 1))) (.agg #[.int .i64 p, .int .i64 q]) false).run Try.prog ((wr.alloc o).drewN n) = .ok (.bool (borZ cs p q)) ((wr.alloc o).drewN n) := fun o n => by
                have h := (HK.out _ (HR2.out.move (below_drewN ((Below.refl _ _).alloc (Nat.le_refl _) o) n))).2.lookup 132 4 (.bool false) p q Try.underlying132 (by go_simp)
                rw [h, fB_get]
              cases u with
              | false =>
                go_wp2
                go_roundw
                case rel => exact ⟨q + 1, by go_num, by omega, HR2.out.move ((Below.refl _ _).alloc (Nat.le_refl _) _), HS2.out.step Ht.out Hx.out (fun h => by cases h)⟩
                case measure => simp [intOf]; omega
              | true =>
                generalize hcn : (cntZ cs p q : Int) = cn at hL
                have Hcn := Lib.hid hcn
                clear hcn
                by_cases e : l = cn
                · obtain rfl := e
                  cases o with
                  | true =>
                    go_wp2
                    go_quiet (fail)
                    go_wp2
                    go_roundw
                    case rel => exact ⟨q + 1, by go_num, by omega, HR2.out.move (below_drewN ((Below.refl _ _).alloc (Nat.le_refl _) _) _), HS2.out.step Ht.out Hx.out (fun _ => ⟨Hcn.out.symm, .inl rfl⟩)⟩
                    case measure => simp [intOf]; omega
                  | false =>
                    generalize hbz : borZ cs p q = bz at hB
                    have Hbz := Lib.hid hbz
                    clear hbz
                    cases bz with
                    | true =>
                      go_wp2
                      go_quiet (fail)
                      go_wp2
                      go_roundw
                      case rel => exact ⟨q + 1, by go_num, by omega, HR2.out.move (below_drewN ((Below.refl _ _).alloc (Nat.le_refl _) _) _), HS2.out.step Ht.out Hx.out (fun _ => ⟨Hcn.out.symm, .inr Hbz.out⟩)⟩
                      case measure => simp [intOf]; omega
                    | false =>
                      go_wp2
                      go_quiet (fail)
                      go_wp2
                      go_ret
                      exact ⟨ret_f HB.out (fun h => by
                        have h3 := (h.slot p q _ _ Ht.out Hx.out rfl).2
                        rw [Hbz.out] at h3
                        simp at h3), below_call HR2.out.b (Nat.le_refl _) (below_drewN ((Below.refl _ _).alloc (Nat.le_refl _) _) _)⟩
                · have e' : (l == cn) = false := by simpa using e
                  have e'' : (l != cn) = true := by simpa using e
                  have E := Aside.mk e
                  clear e
                  go_wp2
                  go_quiet (fail)
                  go_wp2
                  go_ret
                  exact ⟨ret_f HB.out (fun h => by
                    have h3 := (h.slot p q _ _ Ht.out Hx.out rfl).1
                    rw [Hcn.out] at h3
                    exact E.out h3), below_call HR2.out.b (Nat.le_refl _) (below_drewN ((Below.refl _ _).alloc (Nat.le_refl _) _) _)⟩
            · have HS3 : Aside (SlI ts cs (p + 1) 0) := ⟨HS2.out.next Ht.out (by omega)⟩
              go_wp2
              go_roundw
              case rel => exact ⟨p + 1, by go_num, by omega, HR2.out, HS3.out⟩
              case measure => simp [intOf]; omega
        · go_wp2
          go_ret
          exact ⟨ret_t HB.out ⟨HLn.out, fun p' k' t h hp hk => HS.out p' k' t h (.inl (by have := (List.getElem?_eq_some_iff.1 hp).1; omega)) hp hk⟩, HR.out.b⟩
end Go.Proofs.Ytidkmlolcfapdaa
