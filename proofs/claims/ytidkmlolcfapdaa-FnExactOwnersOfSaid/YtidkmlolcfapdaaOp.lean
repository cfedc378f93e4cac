import Derived.Test.YtidkmlolcfapdaaLaw3
import Derived.Deep.Slices
import Derived.Deep.Fields
import Derived.ChangeSame
import Derived.Lib.SmallJoins
set_option linter.unusedVariables false
set_option linter.unusedSimpArgs false
set_option maxRecDepth 100000
namespace Go.Proofs.Ytidkmlolcfapdaa
open Go.Joins Go.ChangeShapes Go.WideShapes Go.RowKit Go.Deep
/-! The law's argument, opened. -/
theorem listOf {α : Type} {Q : Nat → α → Prop} : ∀ (n : Nat), (∀ i, i < n → ∃ a, Q i a) → ∃ l : List α, l.length = n ∧ ∀ i a, l[i]? = some a → Q i a := by
  intro n
  induction n with
  | zero => exact fun _ => ⟨[], rfl, fun i a h => by simp at h⟩
  | succ n ih =>
    intro h
    obtain ⟨l, hl, hq⟩ := ih fun i hi => h i (by omega)
    obtain ⟨a, ha⟩ := h n (Nat.lt_succ_self n)
    refine ⟨l ++ [a], by simp [hl], fun i b hb => ?_⟩
    by_cases c : i < n
    · rw [List.getElem?_append_left (by omega)] at hb
      exact hq i b hb
    · have hi := (List.getElem?_eq_some_iff.1 hb).1
      simp [hl] at hi
      have e : i = n := by omega
      subst e
      rw [List.getElem?_append_right (by omega), hl] at hb
      simp at hb
      subst hb
      exact ha
section
variable {HH : Type} {en : TypeId × Value → HH} {w : World} {base : Nat} {spare : Nat → Bool} {held : Bool}
theorem openRel {α : Type} (R : α → List Value → Prop) (sz : Nat) {t e : TypeId} {fuel : Nat} {v : Value} {x : DataW HH × List MemPlace} (ht : Try.prog.underlying t = some (.slice e)) (hC : Try.prog.cellsOf e = sz)
    (hel : ∀ n cs y, DataW.trod en Try.prog w base spare held n e cs = some y → ∃ a, R a cs) (h : DataW.trod en Try.prog w base spare held fuel t [v] = some x) :
    ∃ A c, ∃ l : List α, v = .slice A l.length c ∧ l.length ≤ c ∧ c ≤ 9223372036854775807 ∧ ∀ i x, l[i]? = some x → ∃ ad cs, A = some ad ∧ At w (ad.add (i * sz)) cs ∧ R x cs := by
  rcases open_slice ht h with ⟨h0, -⟩ | ⟨a, len, cap, m, n, D, Pl, hcs, hb, hl, hm, hmm, hx, hi⟩
  · have : v = .slice none 0 0 := by simpa using h0
    exact ⟨none, 0, [], this, Nat.le_refl _, by omega, fun i x hx => by simp at hx⟩
  · have hv : v = .slice (some a) len cap := by simpa using hcs
    have hlm : len ≤ m := by rw [hmm]; split <;> omega
    obtain ⟨l, hll, hq⟩ := listOf (α := α) (Q := fun i x => ∃ cs, At w (a.add (i * sz)) cs ∧ R x cs) len fun i him => by
      obtain ⟨cs', hc, ht'⟩ := hi i (by omega)
      obtain ⟨b, hb⟩ := hel _ _ _ ht'
      obtain ⟨_, hcl, hat⟩ := World.cells?_some hc
      rw [hC] at hcl hat
      refine ⟨b, cs', fun j u hj => ?_, hb⟩
      have hjl := (List.getElem?_eq_some_iff.1 hj).1
      rw [hat j (by omega)]
      exact hj
    exact ⟨some a, cap, l, by rw [hv, hll], by omega, by simpa [maxLen] using hm, fun i x hx => by
      obtain ⟨cs, h1, h2⟩ := hq i x hx
      exact ⟨a, cs, rfl, h1, h2⟩⟩
theorem openS {α : Type} (enc : α → List Value) (sz : Nat) {t e : TypeId} {fuel : Nat} {v : Value} {x : DataW HH × List MemPlace} (ht : Try.prog.underlying t = some (.slice e)) (hC : Try.prog.cellsOf e = sz)
    (hel : ∀ n cs y, DataW.trod en Try.prog w base spare held n e cs = some y → ∃ a, cs = enc a) (h : DataW.trod en Try.prog w base spare held fuel t [v] = some x) : ∃ l, RdS enc sz w v l := by
  obtain ⟨A, c, l, h1, h2, h3, h4⟩ := openRel (fun a cs => cs = enc a) sz ht hC hel h
  exact ⟨l, A, c, h1, h2, h3, fun i x hx => by
    obtain ⟨ad, cs, e1, e2, rfl⟩ := h4 i x hx
    exact ⟨ad, e1, e2⟩⟩
theorem cells3 : Try.prog.cellsOf 3 = 1 := by kernel_rfl
theorem cells4 : Try.prog.cellsOf 4 = 1 := by kernel_rfl
theorem cells25 : Try.prog.cellsOf 25 = 1 := by kernel_rfl
theorem cells107 : Try.prog.cellsOf 107 = 1 := by kernel_rfl
theorem cells22 : Try.prog.cellsOf 22 = 1 := by kernel_rfl
theorem cells23 : Try.prog.cellsOf 23 = 1 := by kernel_rfl
theorem cells24 : Try.prog.cellsOf 24 = 1 := by kernel_rfl
theorem elI {n : Nat} {cs : List Value} {y : DataW HH × List MemPlace} (h : DataW.trod en Try.prog w base spare held n 3 cs = some y) : ∃ a, cs = encI a := by
  obtain ⟨k, rfl, -, -⟩ := DataW.trod_int Try.underlying3 h
  exact ⟨k, rfl⟩
theorem cells111 : Try.prog.cellsOf 111 = 2 := by kernel_rfl
theorem elTh {n : Nat} {cs : List Value} {y : DataW HH × List MemPlace} (h : DataW.trod en Try.prog w base spare held n 111 cs = some y) : ∃ a, cs = encTh a := by
  obtain ⟨xs, k, -, -, hcl, hxl, hf⟩ := DataW.trod_struct Try.underlying111 h
  match cs, hcl.trans cells111 with
  | [c0, c1], _ =>
    have g0 : DataW.trod en Try.prog w base spare held k 3 (List.take (Try.prog.cellsOf 3) (List.drop 0 [c0, c1])) = xs[0]? := hf 0 _ rfl
    simp only [cells3, List.drop_succ_cons, List.drop_zero, List.take_succ_cons, List.take_zero] at g0
    rw [List.getElem?_eq_getElem (by rw [hxl]; decide)] at g0
    obtain ⟨i0, e0, -, -⟩ := DataW.trod_int Try.underlying3 g0
    have g1 : DataW.trod en Try.prog w base spare held k 4 (List.take (Try.prog.cellsOf 4) (List.drop 1 [c0, c1])) = xs[1]? := hf 1 _ rfl
    simp only [cells4, List.drop_succ_cons, List.drop_zero, List.take_succ_cons, List.take_zero] at g1
    rw [List.getElem?_eq_getElem (by rw [hxl]; decide)] at g1
    obtain ⟨i1, e1, -⟩ := DataW.trod_bool Try.underlying4 g1
    exact ⟨⟨i0, i1⟩, by simp [encTh] at *; simp [*]⟩
theorem cells116 : Try.prog.cellsOf 116 = 4 := by kernel_rfl
theorem elL {n : Nat} {cs : List Value} {y : DataW HH × List MemPlace} (h : DataW.trod en Try.prog w base spare held n 116 cs = some y) : ∃ a, cs = encL a := by
  obtain ⟨xs, k, -, -, hcl, hxl, hf⟩ := DataW.trod_struct Try.underlying116 h
  match cs, hcl.trans cells116 with
  | [c0, c1, c2, c3], _ =>
    have g0 : DataW.trod en Try.prog w base spare held k 3 (List.take (Try.prog.cellsOf 3) (List.drop 0 [c0, c1, c2, c3])) = xs[0]? := hf 0 _ rfl
    simp only [cells3, List.drop_succ_cons, List.drop_zero, List.take_succ_cons, List.take_zero] at g0
    rw [List.getElem?_eq_getElem (by rw [hxl]; decide)] at g0
    obtain ⟨i0, e0, -, -⟩ := DataW.trod_int Try.underlying3 g0
    have g1 : DataW.trod en Try.prog w base spare held k 3 (List.take (Try.prog.cellsOf 3) (List.drop 1 [c0, c1, c2, c3])) = xs[1]? := hf 1 _ rfl
    simp only [cells3, List.drop_succ_cons, List.drop_zero, List.take_succ_cons, List.take_zero] at g1
    rw [List.getElem?_eq_getElem (by rw [hxl]; decide)] at g1
    obtain ⟨i1, e1, -, -⟩ := DataW.trod_int Try.underlying3 g1
    have g2 : DataW.trod en Try.prog w base spare held k 3 (List.take (Try.prog.cellsOf 3) (List.drop 2 [c0, c1, c2, c3])) = xs[2]? := hf 2 _ rfl
    simp only [cells3, List.drop_succ_cons, List.drop_zero, List.take_succ_cons, List.take_zero] at g2
    rw [List.getElem?_eq_getElem (by rw [hxl]; decide)] at g2
    obtain ⟨i2, e2, -, -⟩ := DataW.trod_int Try.underlying3 g2
    have g3 : DataW.trod en Try.prog w base spare held k 3 (List.take (Try.prog.cellsOf 3) (List.drop 3 [c0, c1, c2, c3])) = xs[3]? := hf 3 _ rfl
    simp only [cells3, List.drop_succ_cons, List.drop_zero, List.take_succ_cons, List.take_zero] at g3
    rw [List.getElem?_eq_getElem (by rw [hxl]; decide)] at g3
    obtain ⟨i3, e3, -, -⟩ := DataW.trod_int Try.underlying3 g3
    exact ⟨⟨i0, i1, i2, i3⟩, by simp [encL] at *; simp [*]⟩
theorem cells150 : Try.prog.cellsOf 150 = 6 := by kernel_rfl
theorem elH {n : Nat} {cs : List Value} {y : DataW HH × List MemPlace} (h : DataW.trod en Try.prog w base spare held n 150 cs = some y) : ∃ a, cs = encH a := by
  obtain ⟨xs, k, -, -, hcl, hxl, hf⟩ := DataW.trod_struct Try.underlying150 h
  match cs, hcl.trans cells150 with
  | [c0, c1, c2, c3, c4, c5], _ =>
    have g0 : DataW.trod en Try.prog w base spare held k 4 (List.take (Try.prog.cellsOf 4) (List.drop 0 [c0, c1, c2, c3, c4, c5])) = xs[0]? := hf 0 _ rfl
    simp only [cells4, List.drop_succ_cons, List.drop_zero, List.take_succ_cons, List.take_zero] at g0
    rw [List.getElem?_eq_getElem (by rw [hxl]; decide)] at g0
    obtain ⟨i0, e0, -⟩ := DataW.trod_bool Try.underlying4 g0
    have g1 : DataW.trod en Try.prog w base spare held k 3 (List.take (Try.prog.cellsOf 3) (List.drop 1 [c0, c1, c2, c3, c4, c5])) = xs[1]? := hf 1 _ rfl
    simp only [cells3, List.drop_succ_cons, List.drop_zero, List.take_succ_cons, List.take_zero] at g1
    rw [List.getElem?_eq_getElem (by rw [hxl]; decide)] at g1
    obtain ⟨i1, e1, -, -⟩ := DataW.trod_int Try.underlying3 g1
    have g2 : DataW.trod en Try.prog w base spare held k 3 (List.take (Try.prog.cellsOf 3) (List.drop 2 [c0, c1, c2, c3, c4, c5])) = xs[2]? := hf 2 _ rfl
    simp only [cells3, List.drop_succ_cons, List.drop_zero, List.take_succ_cons, List.take_zero] at g2
    rw [List.getElem?_eq_getElem (by rw [hxl]; decide)] at g2
    obtain ⟨i2, e2, -, -⟩ := DataW.trod_int Try.underlying3 g2
    have g3 : DataW.trod en Try.prog w base spare held k 4 (List.take (Try.prog.cellsOf 4) (List.drop 3 [c0, c1, c2, c3, c4, c5])) = xs[3]? := hf 3 _ rfl
    simp only [cells4, List.drop_succ_cons, List.drop_zero, List.take_succ_cons, List.take_zero] at g3
    rw [List.getElem?_eq_getElem (by rw [hxl]; decide)] at g3
    obtain ⟨i3, e3, -⟩ := DataW.trod_bool Try.underlying4 g3
    have g4 : DataW.trod en Try.prog w base spare held k 3 (List.take (Try.prog.cellsOf 3) (List.drop 4 [c0, c1, c2, c3, c4, c5])) = xs[4]? := hf 4 _ rfl
    simp only [cells3, List.drop_succ_cons, List.drop_zero, List.take_succ_cons, List.take_zero] at g4
    rw [List.getElem?_eq_getElem (by rw [hxl]; decide)] at g4
    obtain ⟨i4, e4, -, -⟩ := DataW.trod_int Try.underlying3 g4
    have g5 : DataW.trod en Try.prog w base spare held k 3 (List.take (Try.prog.cellsOf 3) (List.drop 5 [c0, c1, c2, c3, c4, c5])) = xs[5]? := hf 5 _ rfl
    simp only [cells3, List.drop_succ_cons, List.drop_zero, List.take_succ_cons, List.take_zero] at g5
    rw [List.getElem?_eq_getElem (by rw [hxl]; decide)] at g5
    obtain ⟨i5, e5, -, -⟩ := DataW.trod_int Try.underlying3 g5
    exact ⟨⟨i0, i1, i2, i3, i4, i5⟩, by simp [encH] at *; simp [*]⟩
theorem cells109 : Try.prog.cellsOf 109 = 2 := by kernel_rfl
theorem elT {n : Nat} {cs : List Value} {y : DataW HH × List MemPlace} (h : DataW.trod en Try.prog w base spare held n 109 cs = some y) : ∃ t : T, ∃ s f, cs = [s, f] ∧ RdS encH 6 w s t.f0 ∧ RdS encI 1 w f t.f1 := by
  obtain ⟨xs, k, -, -, hcl, hxl, hf⟩ := DataW.trod_struct Try.underlying109 h
  match cs, hcl.trans cells109 with
  | [c0, c1], _ =>
    have g0 : DataW.trod en Try.prog w base spare held k 107 (List.take (Try.prog.cellsOf 107) (List.drop 0 [c0, c1])) = xs[0]? := hf 0 _ rfl
    simp only [cells107, List.drop_succ_cons, List.drop_zero, List.take_succ_cons, List.take_zero] at g0
    rw [List.getElem?_eq_getElem (by rw [hxl]; decide)] at g0
    have g1 : DataW.trod en Try.prog w base spare held k 25 (List.take (Try.prog.cellsOf 25) (List.drop 1 [c0, c1])) = xs[1]? := hf 1 _ rfl
    simp only [cells25, List.drop_succ_cons, List.drop_zero, List.take_succ_cons, List.take_zero] at g1
    rw [List.getElem?_eq_getElem (by rw [hxl]; decide)] at g1
    obtain ⟨l0, h0⟩ := openS encH 6 Try.underlying107 cells150 (fun _ _ _ => elH) g0
    obtain ⟨l1, h1⟩ := openS encI 1 Try.underlying25 cells3 (fun _ _ _ => elI) g1
    exact ⟨⟨l0, l1⟩, c0, c1, rfl, h0, h1⟩
theorem openTs {fuel : Nat} {v : Value} {x : DataW HH × List MemPlace} (h : DataW.trod en Try.prog w base spare held fuel 23 [v] = some x) : ∃ l, RdTs w v l := by
  obtain ⟨A, c, l, h1, h2, h3, h4⟩ := openRel (fun (t : T) cs => ∃ s f, cs = [s, f] ∧ RdS encH 6 w s t.f0 ∧ RdS encI 1 w f t.f1) 2 Try.underlying23 cells109 (fun _ _ _ => elT) h
  exact ⟨l, A, c, h1, h2, h3, fun i t ht => by
    obtain ⟨ad, cs, e1, e2, s, f, rfl, r1, r2⟩ := h4 i t ht
    exact ⟨ad, s, f, e1, e2, r1, r2⟩⟩
theorem openW {r : Reach} {b0 : Nat} {v : Value} {d : DataW HH} {p : List MemPlace} (hv : Value.okWide Try.prog w r b0 27 v) (h : DataW.Trod en Try.prog w base spare held 27 v d p) :
    ∃ v0 v1 v2 v3 m, v = .agg #[v0, v1, v2, v3] ∧ RdW w v0 v1 v2 v3 m := by
  obtain ⟨v0, v1, v2, v3, y0, y1, y2, y3, n, rfl, -, -, h0, h1, h2, h3⟩ := open_agg4 Try.underlying27 (by kernel_rfl) (by kernel_rfl) hv h
  obtain ⟨l0, r0⟩ := openS encTh 2 Try.underlying22 cells111 (fun _ _ _ => elTh) h0
  obtain ⟨l1, r1⟩ := openTs h1
  obtain ⟨l2, r2⟩ := openS encL 4 Try.underlying24 cells116 (fun _ _ _ => elL) h2
  obtain ⟨l3, r3⟩ := openS encI 1 Try.underlying25 cells3 (fun _ _ _ => elI) h3
  exact ⟨v0, v1, v2, v3, ⟨l0, l1, l2, l3⟩, rfl, r0, r1, r2, r3⟩
end
end Go.Proofs.Ytidkmlolcfapdaa
