import Derived.Test.YtidkmlolcfapdaaLm
set_option linter.unusedVariables false
set_option linter.unusedSimpArgs false
namespace Go.Proofs.Ytidkmlolcfapdaa
open Go.RowKit
/-- Nothing but the blocks of these slices has changed. -/
structure ChgV (F : List Value) (w w' : World) : Prop where
  os : w'.os = w.os
  tape : w'.tape = w.tape
  output : w'.output = w.output
  size : w.heap.size ≤ w'.heap.size
  block : ∀ k, k < w.heap.size → (∀ a ∈ F, a.ownBlock ≠ some k) → w'.heap[k]? = w.heap[k]?
theorem ChgV.refl (F : List Value) (w : World) : ChgV F w w := ⟨rfl, rfl, rfl, Nat.le_refl _, fun _ _ _ => rfl⟩
theorem ChgV.trans {F : List Value} {a b c : World} (h : ChgV F a b) (k : ChgV F b c) : ChgV F a c :=
  ⟨k.os.trans h.os, k.tape.trans h.tape, k.output.trans h.output, Nat.le_trans h.size k.size, fun i hi hn => (k.block i (Nat.lt_of_lt_of_le hi h.size) hn).trans (h.block i hi hn)⟩
theorem ChgV.mono {F G : List Value} {a b : World} (h : ChgV F a b) (hs : ∀ v ∈ F, v ∈ G) : ChgV G a b :=
  ⟨h.os, h.tape, h.output, h.size, fun i hi hn => h.block i hi (fun v hv => hn v (hs v hv))⟩
theorem ChgV.grown {F : List Value} {v : Value} {w w' : World} (h : w.grownBy w' v.ownBlock) (hv : v ∈ F) : ChgV F w w' :=
  ⟨h.os, h.tape, h.output, h.size, fun i hi hn => h.block i hi (fun e => hn v hv e.symm)⟩
theorem ChgV.below {F : List Value} {w w' : World} {lo : Nat} (h : ChgV F w w') (hF : over F lo) (hlo : lo ≤ w.heap.size) : Below lo w w' :=
  ⟨h.os, h.tape, h.output, h.size, fun i hi => h.block i (by omega) (fun a ha e => by have := hF a ha i e; omega)⟩
theorem Below.chg {w w' : World} (h : Below w.heap.size w w') (F : List Value) : ChgV F w w' := ⟨h.os, h.tape, h.output, h.size, fun i hi _ => h.block i hi⟩
theorem Row.chg {α : Type} {enc : α → List Value} {sz : Nat} {e : TypeId} {w w' : World} {lo : Nat} {v : Value} {l : List α} {F : List Value} (h : Row enc sz e w lo v l) (hc : ChgV F w w') (hn : ∀ a ∈ F, apart v a) : Row enc sz e w' lo v l := by
  refine ⟨h.1, ?_⟩
  rcases h.2 with hn' | ⟨g, cap, cur, rfl, hlo, hg, rest⟩
  · exact .inl hn'
  · exact .inr ⟨g, cap, cur, rfl, hlo, (hc.block g (Array.getElem?_eq_some_iff.1 hg).1 (fun a ha e => hn a ha g rfl e)).trans hg, rest⟩
theorem apart.symm {a b : Value} (h : apart a b) : apart b a := fun g e1 e2 => h g e2 e1
def sumT (ts : List T) : Nat := (ts.map (fun t => 6 * t.f0.length + 1 * t.f1.length)).sum
theorem sumT_snoc {ts : List T} {p : Nat} {t : T} (h : ts[p]? = some t) : sumT (ts.take (p + 1)) = sumT (ts.take p) + (6 * t.f0.length + 1 * t.f1.length) := by
  unfold sumT; rw [take_snoc h]; simp
theorem sumT_le (ts : List T) (p : Nat) : sumT (ts.take p) ≤ sumT ts := by
  conv => rhs; rw [← List.take_append_drop p ts]
  unfold sumT
  rw [List.map_append, List.sum_append]
  omega
/-- A marked table. -/
def mk1T (t : T) (k : Int) : T := ⟨mks mk1H 6 t.f0.length k, mks mk1I 1 t.f1.length (k + (6 * t.f0.length : Nat))⟩
def mkT (ts : List T) (k : Int) : List T := (List.range ts.length).map (fun i => mk1T ((ts[i]?).getD ⟨[], []⟩) (k + (sumT (ts.take i) : Nat)))
theorem mkT_get {ts : List T} {i : Nat} {t : T} (h : ts[i]? = some t) (k : Int) : (mkT ts k)[i]? = some (mk1T t (k + (sumT (ts.take i) : Nat))) := by
  unfold mkT
  rw [List.getElem?_map, List.getElem?_range (List.getElem?_eq_some_iff.1 h).1, Option.map_some, h]
  rfl
theorem mkT_len (ts : List T) (k : Int) : (mkT ts k).length = ts.length := by simp [mkT]
/-- Tables half marked. -/
structure Half (ts : List T) (k : Int) (i : Nat) (l : List T) : Prop where
  len : l.length = ts.length
  lo : ∀ j, j < i → l[j]? = (mkT ts k)[j]?
  hi : ∀ j, i ≤ j → l[j]? = ts[j]?
theorem Half.start (ts : List T) (k : Int) : Half ts k 0 ts := ⟨rfl, fun j h => by omega, fun j _ => rfl⟩
theorem Half.step {ts l : List T} {k : Int} {i : Nat} {t : T} (h : Half ts k i l) (ht : ts[i]? = some t) : Half ts k (i + 1) (l.set i (mk1T t (k + (sumT (ts.take i) : Nat)))) := by
  refine ⟨by rw [List.length_set]; exact h.len, fun j hj => ?_, fun j hj => ?_⟩
  · by_cases e : i = j
    · subst e
      rw [mkT_get ht, List.getElem?_set_self (by rw [h.len]; exact (List.getElem?_eq_some_iff.1 ht).1)]
    · rw [List.getElem?_set_ne e]
      exact h.lo j (by omega)
  · rw [List.getElem?_set_ne (by omega)]
    exact h.hi j (by omega)
theorem Half.done {ts l : List T} {k : Int} (h : Half ts k ts.length l) : l = mkT ts k := by
  refine List.ext_getElem? fun j => ?_
  by_cases c : j < ts.length
  · exact h.lo j c
  · rw [List.getElem?_eq_none (by rw [h.len]; omega), List.getElem?_eq_none (by rw [mkT_len]; omega)]
theorem tvs_apart {tv : List (Value × Value)} (h : Apart (tvs tv)) {i j : Nat} {p q : Value × Value} (hi : tv[i]? = some p) (hj : tv[j]? = some q) (e : i ≠ j) : apart p.1 q.1 ∧ apart p.1 q.2 ∧ apart p.2 q.1 ∧ apart p.2 q.2 := by
  have key : ∀ (i j : Nat) (p q : Value × Value), i < j → tv[i]? = some p → tv[j]? = some q → apart p.1 q.1 ∧ apart p.1 q.2 ∧ apart p.2 q.1 ∧ apart p.2 q.2 := by
    intro i j p q hlt hi hj
    have e1 : tv = tv.take j ++ q :: tv.drop (j + 1) := by
      obtain ⟨hl, he⟩ := List.getElem?_eq_some_iff.1 hj
      rw [← he, List.getElem_cons_drop, List.take_append_drop]
    have h2 := h
    rw [e1, tvs, List.flatMap_append] at h2
    have h3 := (List.pairwise_append.1 h2).2.2
    have hm : p ∈ tv.take j := List.mem_of_getElem? (i := i) (by rw [List.getElem?_take, if_pos hlt]; exact hi)
    have m1 : p.1 ∈ (tv.take j).flatMap encP := List.mem_flatMap.2 ⟨p, hm, by simp [encP]⟩
    have m2 : p.2 ∈ (tv.take j).flatMap encP := List.mem_flatMap.2 ⟨p, hm, by simp [encP]⟩
    have n1 : q.1 ∈ (q :: tv.drop (j + 1)).flatMap encP := by simp [encP]
    have n2 : q.2 ∈ (q :: tv.drop (j + 1)).flatMap encP := by simp [encP]
    exact ⟨h3 _ m1 _ n1, h3 _ m1 _ n2, h3 _ m2 _ n1, h3 _ m2 _ n2⟩
  rcases Nat.lt_or_gt_of_ne e with c | c
  · exact key i j p q c hi hj
  · obtain ⟨a, b, c, d⟩ := key j i q p c hj hi
    exact ⟨a.symm, c.symm, b.symm, d.symm⟩
theorem tvs_pair {tv : List (Value × Value)} (h : Apart (tvs tv)) {i : Nat} {p : Value × Value} (hi : tv[i]? = some p) : apart p.1 p.2 := by
  have e1 : tv = tv.take i ++ p :: tv.drop (i + 1) := by
    obtain ⟨hl, he⟩ := List.getElem?_eq_some_iff.1 hi
    rw [← he, List.getElem_cons_drop, List.take_append_drop]
  rw [e1, tvs, List.flatMap_append] at h
  have h3 := (List.pairwise_append.1 h).2.1
  rw [List.flatMap_cons] at h3
  have h4 := (List.pairwise_append.1 h3).1
  simpa [encP] using h4
theorem apart.ne {a b : Value} (h : apart a b) : a.ownBlock = none ∨ a.ownBlock ≠ b.ownBlock := by
  cases e : a.ownBlock with
  | none => exact .inl rfl
  | some g => exact .inr fun e2 => h g e e2.symm
/-- A table's rows take another table. -/
theorem TabsOk.put {w w' : World} {lo : Nat} {tv : List (Value × Value)} {ts : List T} {i : Nat} {p : Value × Value} {t' : T} (h : TabsOk w lo tv ts) (hp : tv[i]? = some p) (ha : Apart (tvs tv)) (hc : ChgV [p.1, p.2] w w')
    (h1 : Row encH 6 59 w' lo p.1 t'.f0) (h2 : RowI w' lo p.2 t'.f1) : TabsOk w' lo tv (ts.set i t') := by
  refine ⟨by rw [List.length_set]; exact h.len, fun j q t hq ht => ?_⟩
  by_cases e : i = j
  · subst e
    rw [hp] at hq
    obtain rfl := Option.some.inj hq
    have hl := (List.getElem?_eq_some_iff.1 ht).1
    rw [List.length_set] at hl
    rw [List.getElem?_set_self hl] at ht
    obtain rfl := Option.some.inj ht
    exact ⟨h1, h2⟩
  · rw [List.getElem?_set_ne e] at ht
    obtain ⟨r1, r2⟩ := h.row j q t hq ht
    obtain ⟨a, b, c, d⟩ := tvs_apart ha hq hp (Ne.symm e)
    refine ⟨r1.chg hc fun x hx => ?_, r2.chg hc fun x hx => ?_⟩
    · simp only [List.mem_cons, List.not_mem_nil, or_false] at hx
      rcases hx with rfl | rfl
      · exact a
      · exact b
    · simp only [List.mem_cons, List.not_mem_nil, or_false] at hx
      rcases hx with rfl | rfl
      · exact c
      · exact d
set_option maxHeartbeats 4000000 in
set_option maxRecDepth 100000 in
theorem mark47_calls (v : Value) (tv : List (Value × Value)) (ts : List T) (k : Int) (w : World) (lo : Nat) (h : Row encP 2 62 w lo v tv) (ht : TabsOk w lo tv ts) (ha : Apart (v :: tvs tv)) (h0 : 0 ≤ k) (h1 : k + (sumT ts : Nat) ≤ 1099511627776) :
    Calls Try.prog 47 #[v, .int .i64 k] w fun e w' => e = .returned (.int .i64 (k + (sumT ts : Nat))) ∧ TabsOk w' lo tv (mkT ts k) ∧ ChgV (tvs tv) w w' := by
  obtain ⟨A, c, rfl, hl, hm, g⟩ := h.rd encP_len
  have HR := Aside.mk h
  have HT := Aside.mk ht
  have HA := Aside.mk ha
  have hlen := ht.len
  rw [hlen] at hl HR HA ⊢
  have HLEN := Lib.hid hlen
  clear h ht ha hlen g
  go_enter Try.func47, Try.ntmps47
  go_wp2
  go_loopw [1, 5] (fun v1 v wr => ∃ (i : Nat) (l : List T), v = .int .i64 i ∧ v1 = .int .i64 (k + (sumT (ts.take i) : Nat)) ∧ i ≤ ts.length ∧ Half ts k i l ∧ TabsOk wr lo tv l ∧ ChgV (tvs tv) w wr) (fun _ v _ => ts.length - (intOf v).toNat)
  case atStart => exact ⟨0, ts, rfl, by simp [sumT], Nat.zero_le _, Half.start _ _, HT.out, ChgV.refl _ _⟩
  case round =>
    clear HT
    obtain ⟨i, l, rfl, rfl, hi, hH, hT, hc⟩ := hrel
    have HH := Aside.mk hH
    have HT := Aside.mk hT
    have HC := Aside.mk hc
    have HV : Aside (Row encP 2 62 wr lo (.slice A ts.length c) tv) := ⟨HR.out.chg hc (List.pairwise_cons.1 HA.out).1⟩
    clear hH hT hc
    by_cases hlt : i < ts.length
    · obtain ⟨t, ht⟩ : ∃ t, ts[i]? = some t := ⟨_, List.getElem?_eq_getElem hlt⟩
      obtain ⟨p, hp⟩ : ∃ p, tv[i]? = some p := ⟨_, List.getElem?_eq_getElem (by rw [HLEN.out]; exact hlt)⟩
      have Ht := Aside.mk ht
      have Hp := Aside.mk hp
      obtain ⟨A', c', e', -, -, hg⟩ := HV.out.rd encP_len
      obtain ⟨ad, e2, hc⟩ := hg i p hp
      have hAe : A = A' ∧ c = c' := by
        rw [HLEN.out] at e'
        simpa using e'
      obtain ⟨rfl, rfl⟩ := hAe
      subst e2
      obtain ⟨r1, r2⟩ := HT.out.row i p t hp (by rw [HH.out.hi i (Nat.le_refl _)]; exact ht)
      obtain ⟨s, f⟩ := p
      have q0 := hc.c0
      have q1 := hc.c1
      have R1 := Aside.mk r1
      have R2 := Aside.mk r2
      have hsn := sumT_snoc ht
      have hle := sumT_le ts (i + 1)
      obtain ⟨As, cs, rfl, -⟩ := r1.opened
      obtain ⟨Af, cf, rfl, -⟩ := r2.opened
      clear r1 r2 hc hg e' ht hp
      rw [hsn] at hle
      have HSN := Lib.hid hsn
      clear hsn
      generalize hN : sumT (ts.take i) = N at hle HSN ⊢
      have HN := Lib.hid hN
      clear hN
      go_wp2_with fail
      refine (mark78_calls _ t.f0 (k + (N : Nat)) _ lo R1.out (by omega) (by omega)).mono ?_
      rintro e w1 ⟨rfl, hr1, hg1⟩
      have HR1 := Aside.mk hr1
      have HG1 := Aside.mk hg1
      have HV1 : Aside (Row encP 2 62 w1 lo (.slice (some ad) ts.length c) tv) := ⟨HV.out.kept hg1 ((List.pairwise_cons.1 HA.out).1 _ (mem_tvs.2 ⟨i, _, Hp.out, .inl rfl⟩)).ne⟩
      obtain ⟨A', c', e', -, -, hg⟩ := HV1.out.rd encP_len
      obtain ⟨ad', e2, hc⟩ := hg i _ Hp.out
      have hAe : some ad = A' ∧ c = c' := by
        rw [HLEN.out] at e'
        simpa using e'
      obtain ⟨rfl, rfl⟩ := hAe
      obtain rfl := Option.some.inj e2
      have z1 := hc.c1
      have HR2 : Aside (RowI w1 lo (.slice Af t.f1.length cf) t.f1) := ⟨R2.out.kept hg1 (tvs_pair (List.pairwise_cons.1 HA.out).2 Hp.out).symm.ne⟩
      clear hr1 hg1 hc hg e' e2
      go_wp2_with fail
      refine (mark15_calls _ t.f1 (k + (N : Nat) + (6 * t.f0.length : Nat)) _ lo HR2.out (by omega) (by omega)).mono ?_
      rintro e w2 ⟨rfl, hr2, hg2⟩
      have HS1 : Aside (Row encH 6 59 w2 lo (.slice As t.f0.length cs) (mks mk1H 6 t.f0.length (k + (N : Nat)))) := ⟨HR1.out.kept hg2 (tvs_pair (List.pairwise_cons.1 HA.out).2 Hp.out).ne⟩
      have HS2 := Aside.mk hr2
      have HC2 : Aside (ChgV [.slice As t.f0.length cs, .slice Af t.f1.length cf] wr w2) := ⟨(ChgV.grown HG1.out (by simp)).trans (ChgV.grown hg2 (by simp))⟩
      have HNT : Aside (TabsOk w2 lo tv (l.set i (mk1T t (k + (sumT (ts.take i) : Nat))))) := ⟨by
        rw [HN.out]
        exact HT.out.put Hp.out (List.pairwise_cons.1 HA.out).2 HC2.out HS1.out HS2.out⟩
      have HNH := Aside.mk (HH.out.step Ht.out)
      have HNC : Aside (ChgV (tvs tv) w w2) := ⟨HC.out.trans (HC2.out.mono fun x hx => by
        simp only [List.mem_cons, List.not_mem_nil, or_false] at hx
        exact mem_tvs.2 ⟨i, _, Hp.out, hx⟩)⟩
      have HE : Aside (k + (sumT (ts.take (i + 1)) : Nat) = k + (N : Nat) + (6 * t.f0.length : Nat) + (1 * t.f1.length : Nat)) := ⟨by rw [HSN.out]; omega⟩
      clear hr2 hg2
      go_wp2
      go_roundw
      case rel => exact ⟨i + 1, _, by go_num, by rw [HE.out]; go_num, by omega, HNH.out, HNT.out, HNC.out⟩
      case measure => simp [intOf]; omega
    · have hke : i = ts.length := by omega
      subst hke
      have hl2 := HH.out.done
      subst hl2
      rw [List.take_length]
      go_wp2
      go_ret
      exact ⟨rfl, HT.out, HC.out⟩

theorem ret_i {a b : Int} (h : a = b) : Ending.returned (.int .i64 a) = .returned (.int .i64 b) := by rw [h]
theorem Blk.chg {w w' : World} {b : Nat} {cs : Array Value} {e : TypeId} {F : List Value} (h : Blk w b cs e) (hc : ChgV F w w') (hn : ∀ a ∈ F, a.ownBlock ≠ some b) : Blk w' b cs e := (hc.block b h.lt hn).trans h
theorem TabsOk.chg {w w' : World} {lo : Nat} {tv : List (Value × Value)} {ts : List T} {F : List Value} (h : TabsOk w lo tv ts) (hc : ChgV F w w') (hn : ∀ x ∈ tvs tv, ∀ a ∈ F, apart x a) : TabsOk w' lo tv ts :=
  ⟨h.len, fun i p t hp ht => ⟨(h.row i p t hp ht).1.chg hc (hn _ (mem_tvs.2 ⟨i, p, hp, .inl rfl⟩)), (h.row i p t hp ht).2.chg hc (hn _ (mem_tvs.2 ⟨i, p, hp, .inr rfl⟩))⟩⟩
theorem OwnW.lt {w : World} {lo : Nat} {v0 v1 v2 v3 : Value} {m : Wd} {tv : List (Value × Value)} (h : OwnW w lo v0 v1 v2 v3 m tv) : ∀ a ∈ [v0, v1, v2, v3] ++ tvs tv, ∀ g, a.ownBlock = some g → lo ≤ g ∧ g < w.heap.size := by
  intro a ha g hg
  rcases List.mem_append.1 ha with ha | ha
  · simp only [List.mem_cons, List.not_mem_nil, or_false] at ha
    rcases ha with rfl | rfl | rfl | rfl
    · exact h.th.lt g hg
    · exact h.tb.lt g hg
    · exact h.cs.lt g hg
    · exact h.en.lt g hg
  · exact h.ts.lt a ha g hg
def mkW (m : Wd) (k : Int) : Wd :=
  ⟨mks mk1Th 2 m.f0.length k, mkT m.f1 (k + (2 * m.f0.length : Nat)), mks mk1L 4 m.f2.length (k + (2 * m.f0.length : Nat) + (sumT m.f1 : Nat)), mks mk1I 1 m.f3.length (k + (2 * m.f0.length : Nat) + (sumT m.f1 : Nat) + (4 * m.f2.length : Nat))⟩
def sumW (m : Wd) : Nat := 2 * m.f0.length + sumT m.f1 + 4 * m.f2.length + 1 * m.f3.length
def wvs (v0 v1 v2 v3 : Value) (tv : List (Value × Value)) : List Value := [v0, v1, v2, v3] ++ tvs tv
set_option maxHeartbeats 4000000 in
set_option maxRecDepth 100000 in
theorem markWorld_calls (v0 v1 v2 v3 : Value) (m : Wd) (tv : List (Value × Value)) (k : Int) (w : World) (lo : Nat) (h : OwnW w lo v0 v1 v2 v3 m tv) (h0 : 0 ≤ k) (h1 : k + (sumW m : Nat) ≤ 1099511627776) :
    Calls Try.prog 14 #[.agg #[v0, v1, v2, v3], .int .i64 k] w fun e w' => e = .returned (.int .i64 (k + (sumW m : Nat))) ∧ OwnW w' lo v0 v1 v2 v3 (mkW m k) tv ∧ ChgV (wvs v0 v1 v2 v3 tv) w w' := by
  obtain ⟨th, ts, cs, en⟩ := m
  have HW := Aside.mk h
  obtain ⟨q0, q1, q2, q3, q4, q5⟩ := h
  simp only [sumW] at q0 q1 q2 q3 q4 h1 ⊢
  have AP := Aside.mk q5
  have hap := q5
  simp only [List.cons_append, List.nil_append] at hap
  have p1 := List.pairwise_cons.1 hap
  have p2 := List.pairwise_cons.1 p1.2
  have p3 := List.pairwise_cons.1 p2.2
  have p4 := List.pairwise_cons.1 p3.2
  have a01 : apart v0 v1 := p1.1 _ (by simp)
  have a02 : apart v0 v2 := p1.1 _ (by simp)
  have a03 : apart v0 v3 := p1.1 _ (by simp)
  have a12 : apart v1 v2 := p2.1 _ (by simp)
  have a13 : apart v1 v3 := p2.1 _ (by simp)
  have a23 : apart v2 v3 := p3.1 _ (by simp)
  have a0t : ∀ x ∈ tvs tv, apart v0 x := fun x hx => p1.1 _ (by simp [hx])
  have a1t : ∀ x ∈ tvs tv, apart v1 x := fun x hx => p2.1 _ (by simp [hx])
  have a2t : ∀ x ∈ tvs tv, apart v2 x := fun x hx => p3.1 _ (by simp [hx])
  have a3t : ∀ x ∈ tvs tv, apart v3 x := fun x hx => p4.1 _ hx
  have A := Aside.mk (And.intro a01 (And.intro a02 (And.intro a03 (And.intro a12 (And.intro a13 a23)))))
  have AT := Aside.mk (And.intro a0t (And.intro a1t (And.intro a2t a3t)))
  have TA : Aside (Apart (v1 :: tvs tv)) := ⟨List.pairwise_cons.2 ⟨a1t, p4.2⟩⟩
  clear hap p1 p2 p3 p4 a01 a02 a03 a12 a13 a23 a0t a1t a2t a3t q5
  have Q0 := Aside.mk q0
  have Q1 := Aside.mk q1
  have Q2 := Aside.mk q2
  have Q3 := Aside.mk q3
  have Q4 := Aside.mk q4
  obtain ⟨A0, c0, rfl, -⟩ := q0.opened
  obtain ⟨A1, c1, rfl, -⟩ := q1.opened
  obtain ⟨A2, c2, rfl, -⟩ := q3.opened
  obtain ⟨A3, c3, rfl, -⟩ := q4.opened
  clear q0 q1 q2 q3 q4
  have HBOX : Aside (∀ a ∈ wvs (.slice A0 th.length c0) (.slice A1 tv.length c1) (.slice A2 cs.length c2) (.slice A3 en.length c3) tv, a.ownBlock ≠ some w.heap.size) := ⟨fun a ha e => by have := (HW.out.lt a ha _ e).2; omega⟩
  have HAL : Aside (∀ o, Below w.heap.size w (w.alloc o)) := ⟨fun o => (Below.refl _ _).alloc (Nat.le_refl _) o⟩
  generalize hF : wvs (.slice A0 th.length c0) (.slice A1 tv.length c1) (.slice A2 cs.length c2) (.slice A3 en.length c3) tv = F at HBOX ⊢
  have F0 : Aside (.slice A0 th.length c0 ∈ F) := ⟨by rw [← hF]; simp [wvs]⟩
  have F2 : Aside (.slice A2 cs.length c2 ∈ F) := ⟨by rw [← hF]; simp [wvs]⟩
  have F3 : Aside (.slice A3 en.length c3 ∈ F) := ⟨by rw [← hF]; simp [wvs]⟩
  have FT : Aside (∀ x ∈ tvs tv, x ∈ F) := ⟨fun x hx => by rw [← hF]; simp [wvs, hx]⟩
  clear hF
  have HM : Aside (sumT ts = sumT ts) := ⟨rfl⟩
  generalize hS : sumT ts = S at h1 ⊢
  have HS := Lib.hid hS
  clear hS HM
  go_enter Try.func14, Try.ntmps14
  go_wp2_with fail
  refine (mark46_calls _ th k _ lo (Q0.out.below (HAL.out _)) h0 (by omega)).mono ?_
  rintro e w1 ⟨rfl, hr, hg⟩
  have C1 : Aside (ChgV F (w.alloc (.cells #[.slice A0 th.length c0, .slice A1 tv.length c1, .slice A2 cs.length c2, .slice A3 en.length c3] 35)) w1) := ⟨ChgV.grown hg F0.out⟩
  have BX1 := Aside.mk ((Blk.new w #[.slice A0 th.length c0, .slice A1 tv.length c1, .slice A2 cs.length c2, .slice A3 en.length c3] 35).chg C1.out HBOX.out)
  have g1 : w1.cell? ⟨w.heap.size, 1, none⟩ = some (.slice A1 tv.length c1) := BX1.out.cell 1
  have R0 := Aside.mk hr
  have R1 : Aside (Row encP 2 62 w1 lo (.slice A1 tv.length c1) tv) := ⟨(Q1.out.below (HAL.out _)).kept hg A.out.1.symm.ne⟩
  have R2 : Aside (TabsOk w1 lo tv ts) := ⟨(Q2.out.below (HAL.out _)).kept hg fun x hx => (AT.out.1 x hx).symm.ne⟩
  have R3 : Aside (Row encL 4 114 w1 lo (.slice A2 cs.length c2) cs) := ⟨(Q3.out.below (HAL.out _)).kept hg A.out.2.1.symm.ne⟩
  have R4 : Aside (RowI w1 lo (.slice A3 en.length c3) en) := ⟨Row.kept (Q4.out.below (HAL.out _)) hg A.out.2.2.1.symm.ne⟩
  clear hr hg Q0 Q1 Q2 Q3 Q4
  have hk1 : 0 ≤ k + (2 * th.length : Nat) := by omega
  have hk2 : k + (2 * th.length : Nat) + (S : Nat) ≤ 1099511627776 := by omega
  go_wp2_with fail
  refine (mark47_calls _ tv ts (k + (2 * th.length : Nat)) _ lo R1.out R2.out TA.out hk1 (by rw [HS.out]; exact hk2)).mono ?_
  rintro e w2 ⟨rfl, hr, hg⟩
  rw [HS.out]
  have C2 : Aside (ChgV F w1 w2) := ⟨hg.mono FT.out⟩
  have BX2 := Aside.mk (BX1.out.chg C2.out HBOX.out)
  have g2 : w2.cell? ⟨w.heap.size, 2, none⟩ = some (.slice A2 cs.length c2) := BX2.out.cell 2
  have S0 := Aside.mk (R0.out.chg hg AT.out.1)
  have S1 := Aside.mk (R1.out.chg hg AT.out.2.1)
  have S2 := Aside.mk hr
  have S3 := Aside.mk (R3.out.chg hg AT.out.2.2.1)
  have S4 : Aside (RowI w2 lo (.slice A3 en.length c3) en) := ⟨Row.chg R4.out hg AT.out.2.2.2⟩
  clear hr hg R0 R1 R2 R3 R4 g1
  go_wp2_with fail
  refine (mark48_calls _ cs (k + (2 * th.length : Nat) + (S : Nat)) _ lo S3.out (by omega) (by omega)).mono ?_
  rintro e w3 ⟨rfl, hr, hg⟩
  have C3 : Aside (ChgV F w2 w3) := ⟨ChgV.grown hg F2.out⟩
  have BX3 := Aside.mk (BX2.out.chg C3.out HBOX.out)
  have g3 : w3.cell? ⟨w.heap.size, 3, none⟩ = some (.slice A3 en.length c3) := BX3.out.cell 3
  have T0 := Aside.mk (S0.out.kept hg A.out.2.1.ne)
  have T1 := Aside.mk (S1.out.kept hg A.out.2.2.2.1.ne)
  have T2 := Aside.mk (S2.out.kept hg fun x hx => (AT.out.2.2.1 x hx).symm.ne)
  have T3 := Aside.mk hr
  have T4 : Aside (RowI w3 lo (.slice A3 en.length c3) en) := ⟨Row.kept S4.out hg A.out.2.2.2.2.2.symm.ne⟩
  clear hr hg S0 S1 S2 S3 S4 g2
  go_wp2_with fail
  refine (mark15_calls _ en (k + (2 * th.length : Nat) + (S : Nat) + (4 * cs.length : Nat)) _ lo T4.out (by omega) (by omega)).mono ?_
  rintro e w4 ⟨rfl, hr, hg⟩
  have C4 : Aside (ChgV F w3 w4) := ⟨ChgV.grown hg F3.out⟩
  have U0 := Aside.mk (T0.out.kept hg A.out.2.2.1.ne)
  have U1 := Aside.mk (T1.out.kept hg A.out.2.2.2.2.1.ne)
  have U2 := Aside.mk (T2.out.kept hg fun x hx => (AT.out.2.2.2 x hx).symm.ne)
  have U3 := Aside.mk (T3.out.kept hg A.out.2.2.2.2.2.ne)
  have U4 := Aside.mk hr
  clear hr hg T0 T1 T2 T3 T4 g3
  have HE : Aside (k + (2 * th.length : Nat) + (S : Nat) + (4 * cs.length : Nat) + (1 * en.length : Nat) = k + (2 * th.length + S + 4 * cs.length + 1 * en.length : Nat)) := ⟨by omega⟩
  go_wp2
  go_ret
  refine ⟨ret_i (by omega), ⟨U0.out, U1.out, ?_, ?_, ?_, AP.out⟩, ((ChgV.trans (Below.chg (HAL.out _) F) C1.out).trans C2.out).trans (C3.out.trans C4.out)⟩
  · exact U2.out
  · have h := U3.out
    rw [← HS.out] at h
    exact h
  · have h := U4.out
    rw [← HS.out] at h
    exact h
end Go.Proofs.Ytidkmlolcfapdaa
