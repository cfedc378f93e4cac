import Derived.Test.YtidkmlolcfapdaaPl
import Derived.Maps.AppendAt
set_option linter.unusedVariables false
set_option linter.unusedSimpArgs false
namespace Go.Proofs.Ytidkmlolcfapdaa
open Go.RowKit
/-! Rows that a call owns. -/
/-- A row of one's own that holds l. -/
def Row {α : Type} (enc : α → List Value) (sz : Nat) (e : TypeId) (w : World) (lo : Nat) (v : Value) (l : List α) : Prop := w.ownsRow lo e sz v l.length (l.flatMap enc)
abbrev RowI := @Row Int encI 1 3
theorem flatMap_at {α : Type} {enc : α → List Value} {sz : Nat} (hsz : ∀ x, (enc x).length = sz) : ∀ (l : List α) (i : Nat) (x : α) (j : Nat) (v : Value), l[i]? = some x → (enc x)[j]? = some v → (l.flatMap enc)[i * sz + j]? = some v := by
  intro l
  induction l with
  | nil => intro i x j v h; simp at h
  | cons a l ih =>
    intro i x j v hi hj
    rw [List.flatMap_cons]
    cases i with
    | zero =>
      simp at hi
      subst hi
      have hjl := (List.getElem?_eq_some_iff.1 hj).1
      rw [Nat.zero_mul, Nat.zero_add, List.getElem?_append_left hjl]
      exact hj
    | succ i =>
      simp at hi
      rw [List.getElem?_append_right (by rw [hsz, Nat.succ_mul]; omega), hsz, show (i + 1) * sz + j - sz = i * sz + j by rw [Nat.succ_mul]; omega]
      exact ih i x j v hi hj
theorem Row.rd {α : Type} {enc : α → List Value} {sz : Nat} {e : TypeId} {w : World} {lo : Nat} {v : Value} {l : List α} (hsz : ∀ x, (enc x).length = sz) (h : Row enc sz e w lo v l) : RdS enc sz w v l := by
  rcases h.2 with ⟨rfl, hn⟩ | ⟨g, cap, cur, rfl, hlo, hg, hc, hm, hs, ht⟩
  · have : l = [] := List.length_eq_zero_iff.1 hn
    subst this
    exact ⟨none, 0, rfl, Nat.le_refl _, by omega, fun i x hx => by simp at hx⟩
  · refine ⟨some ⟨g, 0, none⟩, cap, rfl, hc, by simpa [maxLen] using hm, fun i x hx => ⟨_, rfl, fun j u hj => ?_⟩⟩
    have h1 := flatMap_at hsz l i x j u hx hj
    have h2 := h.cells (g := g) rfl _ _ h1
    have e : ((⟨g, 0, none⟩ : Addr).add (i * sz)).add j = (⟨g, 0, none⟩ : Addr).add (i * sz + j) := by
      by_cases a : i * sz = 0 <;> by_cases b : j = 0 <;> simp [Addr.add, a, b]
    rw [e]
    exact h2
theorem Row.kept {α : Type} {enc : α → List Value} {sz : Nat} {e : TypeId} {w w' : World} {lo : Nat} {v : Value} {l : List α} {b : Option Nat} (h : Row enc sz e w lo v l) (hg : w.grownBy w' b) (hne : v.ownBlock = none ∨ v.ownBlock ≠ b) : Row enc sz e w' lo v l :=
  World.ownsRow.kept h hg hne
theorem Row.below {α : Type} {enc : α → List Value} {sz : Nat} {e : TypeId} {w w' : World} {lo : Nat} {v : Value} {l : List α} (h : Row enc sz e w lo v l) (hb : Below w.heap.size w w') : Row enc sz e w' lo v l := by
  refine ⟨h.1, ?_⟩
  rcases h.2 with hn | ⟨g, cap, cur, rfl, hlo, hg, rest⟩
  · exact .inl hn
  · exact .inr ⟨g, cap, cur, rfl, hlo, (hb.block g (Array.getElem?_eq_some_iff.1 hg).1).trans hg, rest⟩
theorem Row.lt {α : Type} {enc : α → List Value} {sz : Nat} {e : TypeId} {w : World} {lo : Nat} {v : Value} {l : List α} (h : Row enc sz e w lo v l) : ∀ k, v.ownBlock = some k → lo ≤ k ∧ k < w.heap.size := World.ownsRow.lt h
theorem Row.base {α : Type} {enc : α → List Value} {sz : Nat} {e : TypeId} {w : World} {lo lo' : Nat} {v : Value} {l : List α} (h : Row enc sz e w lo v l) (hl : ∀ k, v.ownBlock = some k → lo' ≤ k) : Row enc sz e w lo' v l := by
  refine ⟨h.1, ?_⟩
  rcases h.2 with hn | ⟨g, cap, cur, rfl, hlo, hg, rest⟩
  · exact .inl hn
  · exact .inr ⟨g, cap, cur, rfl, hl g rfl, hg, rest⟩
theorem info3 : ∃ i, Try.prog.info? 3 = some i ∧ i.zero = some (.int .i64 0) ∧ i.size = 1 ∧ i.bytes = 8 := by
  have h3 : (Try.prog.info? 3).map (fun i => (i.zero, i.size, i.bytes)) = some (some (.int .i64 0), 1, 8) := by kernel_rfl
  obtain ⟨i, hi, he⟩ := Option.map_eq_some_iff.1 h3
  simp only [Prod.mk.injEq] at he
  exact ⟨i, hi, he⟩
theorem under25 : Try.prog.underlying 25 = some (.slice 3) := by kernel_rfl
theorem cell_one_at (W : World) (x : Value) (t : TypeId) (n : Nat) (hn : n = W.heap.size) : ∀ j u, [x][j]? = some u → (W.alloc (.cells #[x] t)).cell? ((⟨n, 0, none⟩ : Addr).add j) = some u := by
  subst hn
  exact cell_one_new W x t
theorem encI_snoc (l : List Int) (x : Int) : (l ++ [x]).flatMap encI = l.flatMap encI ++ [.int .i64 x] := by simp [encI]
/-- The parts that own a thing: in one table, in all. -/
def ow1 (p : Nat) (l : List H) (x : Int) : List Int := (l.filter (fun h => ownu h && h.f2 == x)).map (fun _ => (p : Int))
def owP (ts : List T) (p : Nat) (x : Int) : List Int := (List.range p).flatMap (fun i => ow1 i ((ts[i]?).elim [] (·.f0)) x)
def owL (ts : List T) (x : Int) : List Int := owP ts ts.length x
theorem owP_snoc {ts : List T} {p : Nat} {t : T} (h : ts[p]? = some t) (x : Int) : owP ts (p + 1) x = owP ts p x ++ ow1 p t.f0 x := by
  unfold owP
  rw [List.range_succ, List.flatMap_append]
  simp [h]
theorem ow1_snoc {p : Nat} {l : List H} {q : Nat} {h : H} (hq : l[q]? = some h) (x : Int) : ow1 p (l.take (q + 1)) x = ow1 p (l.take q) x ++ (if (ownu h && h.f2 == x) = true then [(p : Int)] else []) := by
  unfold ow1
  rw [take_snoc hq, List.filter_append, List.map_append]
  congr 1
  by_cases c : (ownu h && h.f2 == x) = true
  · simp only [List.filter_cons, c]; simp
  · simp only [List.filter_cons, c]; simp
theorem ow1_len (p : Nat) (l : List H) (x : Int) : (ow1 p l x).length ≤ l.length := by
  unfold ow1
  rw [List.length_map]
  exact List.length_filter_le _ _
theorem owP_len {ts : List T} (h : ∀ t ∈ ts, t.f0.length ≤ 40) (x : Int) : ∀ p, (owP ts p x).length ≤ 40 * p := by
  intro p
  induction p with
  | zero => simp [owP]
  | succ p ih =>
    unfold owP at ih ⊢
    rw [List.range_succ, List.flatMap_append, List.length_append]
    have : (ow1 p ((ts[p]?).elim [] (·.f0)) x).length ≤ 40 := by
      refine Nat.le_trans (ow1_len _ _ _) ?_
      cases ht : ts[p]? with
      | none => simp
      | some t => exact h t (List.mem_of_getElem? ht)
    simp only [List.flatMap_cons, List.flatMap_nil, List.append_nil]
    omega

set_option maxHeartbeats 4000000 in
set_option maxRecDepth 100000 in
theorem owners_calls (g : Nat) (v0 v1 v2 v3 : Value) (ts : List T) (x : Int) (w : World)
    (hg : Blk w g #[v0, v1, v2, v3] 35) (h1 : RdTs w v1 ts) (h5 : ts.length ≤ 5) (h40 : ∀ t ∈ ts, t.f0.length ≤ 40) :
    Calls Try.prog 42 #[.pointer (some ⟨g, 0, none⟩), .int .i64 x] w fun e w' => ∃ v, e = .returned v ∧ RowI w' w.heap.size v (owL ts x) ∧ Below w.heap.size w w' := by
  obtain ⟨A1, c1, rfl, hl1, hm1, g1⟩ := h1
  have H1 := Aside.mk g1
  have H40 := Aside.mk h40
  have gc1 : w.cell? ⟨g, 1, none⟩ = some (.slice A1 ts.length c1) := hg.cell 1
  have hgl := hg.lt
  have gne : ¬ g = w.heap.size := by omega
  clear g1 h40 hg
  go_enter Try.func42, Try.ntmps42
  go_wp2
  go_loopw [5, 16] (fun v5 v wr => ∃ p : Nat, v = .int .i64 p ∧ p ≤ ts.length ∧ RowI wr w.heap.size v5 (owP ts p x) ∧ Below w.heap.size w wr) (fun _ v _ => ts.length - (intOf v).toNat)
  case atStart => exact ⟨0, rfl, Nat.zero_le _, World.ownsRow_lit (e := 3) (size := 1) (base := w.heap.size) w #[] 0 (Nat.le_refl _) (by simp [maxLen]) rfl, (Below.refl _ _).alloc (Nat.le_refl _) _⟩
  case round =>
    obtain ⟨p, rfl, hp, hR, hbw⟩ := hrel
    have HR := Aside.mk hR
    have HBW := Aside.mk hbw
    have hsz := hbw.size
    have gw1 := cell_old hbw gc1
    clear hR hbw
    by_cases hlt : p < ts.length
    · obtain ⟨t, ht⟩ : ∃ t, ts[p]? = some t := ⟨_, List.getElem?_eq_getElem hlt⟩
      obtain ⟨ad, s, f, rfl, hc, hs, hf⟩ := H1.out p t ht
      have Ht := Aside.mk ht
      have ht40 := H40.out t (List.mem_of_getElem? ht)
      clear ht
      have q0 := cell_old HBW.out hc.c0
      have q1 := cell_old HBW.out hc.c1
      clear hc
      obtain ⟨A2, c2, rfl, hl2, hm2, g2⟩ := hs
      obtain ⟨A3, c3, rfl, -, -, -⟩ := hf
      have H2 := Aside.mk g2
      have HN : Aside (owP ts (p + 1) x = owP ts p x ++ ow1 p t.f0 x) := ⟨owP_snoc Ht.out x⟩
      have hnl : (owP ts p x).length ≤ 40 * p := owP_len H40.out x p
      clear g2
      generalize hN : owP ts p x = N at HN hnl HR ⊢
      clear hN
      go_wp2
      obtain ⟨wo, rfl⟩ : ∃ wo : World, wo = wr := ⟨_, rfl⟩
      go_loopw [5, 24] (fun v5 v wr => ∃ q : Nat, v = .int .i64 q ∧ q ≤ t.f0.length ∧ RowI wr w.heap.size v5 (N ++ ow1 p (t.f0.take q) x) ∧ Below w.heap.size w wr) (fun _ v _ => t.f0.length - (intOf v).toNat)
      case atStart => exact ⟨0, rfl, Nat.zero_le _, by simpa [ow1] using HR.out.below ((Below.refl _ _).alloc (Nat.le_refl _) _), HBW.out.alloc HBW.out.size _⟩
      case round =>
        clear q0 q1 HR HBW gw1 hsz
        obtain ⟨q, rfl, hq, hR, hbw⟩ := hrel
        have HR := Aside.mk hR
        have HBW := Aside.mk hbw
        have hsz := hbw.size
        clear hR hbw
        by_cases hql : q < t.f0.length
        · obtain ⟨h, hx⟩ : ∃ x, t.f0[q]? = some x := ⟨_, List.getElem?_eq_getElem hql⟩
          obtain ⟨ad2, rfl, hc⟩ := (H2.out.below HBW.out) q h hx
          have Hx := Aside.mk hx
          clear hx
          obtain ⟨u, r, rp, o, l, s⟩ := h
          have q0 := hc.c0
          have q1 := hc.c1
          have q2 := hc.c2
          have q3 := hc.c3
          have q4 := hc.c4
          have q5 := hc.c5
          clear hc
          have HS : Aside (ow1 p (t.f0.take (q + 1)) x = ow1 p (t.f0.take q) x ++ (if ((u && o) && rp == x) = true then [(p : Int)] else [])) := ⟨ow1_snoc Hx.out x⟩
          have hol : (ow1 p (t.f0.take q) x).length ≤ 40 := Nat.le_trans (ow1_len _ _ _) (by rw [List.length_take]; omega)
          have HR1 : Aside (∀ ob, RowI (wr.alloc ob) w.heap.size _ (N ++ ow1 p (t.f0.take q) x)) := ⟨fun ob => HR.out.below ((Below.refl _ _).alloc (Nat.le_refl _) ob)⟩
          generalize hM : ow1 p (t.f0.take q) x = M at HS hol HR1
          clear hM
          have hskip : ∀ v5, ((u && o) && rp == x) = false → ∀ ob, RowI (wr.alloc ob) w.heap.size v5 (N ++ M) → RowI (wr.alloc ob) w.heap.size v5 (N ++ ow1 p (t.f0.take (q + 1)) x) := fun v5 hf ob hr => by
            rw [HS.out, hf]; simpa using hr
          have HSK := Aside.mk hskip
          clear hskip
          cases u with
          | false =>
            go_wp2
            go_roundw
            case rel => exact ⟨q + 1, by go_num, by omega, HSK.out _ rfl _ (HR1.out _), HBW.out.alloc HBW.out.size _⟩
            case measure => simp [intOf]; omega
          | true =>
            cases o with
            | false =>
              go_wp2
              go_roundw
              case rel => exact ⟨q + 1, by go_num, by omega, HSK.out _ rfl _ (HR1.out _), HBW.out.alloc HBW.out.size _⟩
              case measure => simp [intOf]; omega
            | true =>
              by_cases e : rp = x
              · subst e
                have HSP : Aside (ow1 p (t.f0.take (q + 1)) rp = M ++ [(p : Int)]) := ⟨by rw [HS.out]; simp⟩
                obtain ⟨i0, hi0, hz0, hs0, hb0⟩ := info3
                go_wp2_with (first
                  | (at_builtin; refine wpList_append_own_at _ rfl _ _ 25 rfl w.heap.size 3 i0 (.int .i64 0) 1 8 under25 hi0 hz0 hs0 hb0 rfl (by decide) _ _ _ rfl ((HR1.out _).alloc _) ⟨_, 0, none⟩ 1 1 [.int .i64 p] rfl rfl (cell_one_at (wr.alloc _) _ _ _ (by simp)) (by intro u hu; simp at hu; subst hu; rfl) (by rw [List.length_append]; unfold maxLen; omega) (by rw [List.length_append]; omega) (by simp; omega) ?_
                     intro v' w1 hown' hgrow hnil hloc
                     have HOWN := Aside.mk hown'
                     have HGR := Aside.mk hgrow
                     clear hown' hgrow hnil hloc)
                  | go_in)
                have hown' := HOWN.out
                have hgrow := HGR.out
                have B2 : Below w.heap.size w w1 := by
                  refine ((HBW.out.alloc HBW.out.size _).alloc ?_ _).grown hgrow ?_ ?_
                  · simp; omega
                  · simp; omega
                  · intro k hk
                    exact (HR.out.lt k hk).1
                have HR2 : Aside (RowI w1 w.heap.size v' (N ++ ow1 p (t.f0.take (q + 1)) rp)) := ⟨by
                  rw [HSP.out, ← List.append_assoc]
                  have h := hown'
                  unfold RowI Row
                  rw [encI_snoc, List.length_append]
                  exact h⟩
                have HB2 := Aside.mk B2
                go_roundw
                case rel => exact ⟨q + 1, by go_num, by omega, HR2.out, HB2.out⟩
                case measure => simp [intOf]; omega
              · have e' : (rp == x) = false := by simpa using e
                clear e
                go_wp2
                go_roundw
                case rel => exact ⟨q + 1, by go_num, by omega, HSK.out _ (by rw [e']; rfl) _ (HR1.out _), HBW.out.alloc HBW.out.size _⟩
                case measure => simp [intOf]; omega
        · have hke : t.f0.take q = t.f0 := List.take_of_length_le (by omega)
          rw [hke, ← HN.out] at HR
          clear hke
          go_wp2
          go_roundw
          case rel => exact ⟨p + 1, by go_num, by omega, HR.out, HBW.out⟩
          case measure => simp [intOf]; omega
    · have hke : p = ts.length := by omega
      go_wp2
      go_ret
      exact ⟨_, rfl, by have := HR.out; rw [hke] at this; exact this, HBW.out⟩
end Go.Proofs.Ytidkmlolcfapdaa
