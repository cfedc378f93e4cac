import Derived.Test.YtidkmlolcfapdaaSs
set_option linter.unusedVariables false
set_option linter.unusedSimpArgs false
namespace Go.Proofs.Ytidkmlolcfapdaa
/-! The two looks at a world agree. -/
theorem mem_of_full {l F : List Int} (hl : l.Nodup) (hs : ∀ x ∈ l, x ∈ F) (hlen : F.length ≤ l.length) : ∀ x ∈ F, x ∈ l := by
  intro x hx
  refine Classical.byContradiction fun hn => ?_
  have h1 : (x :: l).Nodup := List.nodup_cons.2 ⟨hn, hl⟩
  have h2 := h1.length_le_of_subset (l₂ := F) (fun y hy => by
    rcases List.mem_cons.1 hy with rfl | hy
    · exact hx
    · exact hs y hy)
  simp at h2
  omega
theorem nodup_of_ne {l : List Int} (h : ∀ i j, i < j → j < l.length → l[i]? ≠ l[j]?) : l.Nodup := by
  rw [List.Nodup, List.pairwise_iff_getElem]
  intro i j hi hj hij e
  refine h i j hij hj ?_
  rw [List.getElem?_eq_getElem hi, List.getElem?_eq_getElem hj, e]
theorem len_eq_of_mem {l F : List Int} (hl : l.Nodup) (hF : F.Nodup) (h : ∀ x, x ∈ l ↔ x ∈ F) : l.length = F.length :=
  ((List.perm_ext_iff_of_nodup hl hF).2 h).length_eq
/-- The indices at which p holds. -/
def idx {α : Type} (p : α → Bool) (l : List α) : List Int := ((List.range l.length).filter (fun k => (l[k]?).any p)).map (fun (n : Nat) => (n : Int))
theorem idx_nodup {α : Type} (p : α → Bool) (l : List α) : (idx p l).Nodup := by
  unfold idx
  rw [List.Nodup, List.pairwise_map]
  exact List.Pairwise.imp (fun h e => h (by omega)) (List.Pairwise.filter _ List.nodup_range)
theorem mem_idx {α : Type} {p : α → Bool} {l : List α} {x : Int} : x ∈ idx p l ↔ ∃ (k : Nat) (a : α), x = k ∧ l[k]? = some a ∧ p a = true := by
  unfold idx
  simp only [List.mem_map, List.mem_filter, List.mem_range]
  constructor
  · rintro ⟨k, ⟨hk, ha⟩, rfl⟩
    rw [List.getElem?_eq_getElem hk] at ha
    exact ⟨k, l[k], rfl, List.getElem?_eq_getElem hk, by simpa using ha⟩
  · rintro ⟨k, a, rfl, hk, ha⟩
    exact ⟨k, ⟨(List.getElem?_eq_some_iff.1 hk).1, by rw [hk]; simpa using ha⟩, rfl⟩
theorem idx_length {α : Type} (p : α → Bool) (l : List α) : (idx p l).length = l.countP p := by
  unfold idx
  rw [List.length_map]
  have key : ∀ n, n ≤ l.length → ((List.range n).filter (fun k => (l[k]?).any p)).length = (l.take n).countP p := by
    intro n
    induction n with
    | zero => simp
    | succ n ih =>
      intro hn
      have hx : l[n]? = some l[n] := List.getElem?_eq_getElem (by omega)
      rw [List.range_succ, List.filter_append, List.length_append, ih (by omega), take_snoc hx, List.countP_append, List.countP_singleton]
      by_cases c : p l[n] = true
      · simp [c, hx]
      · simp [c, hx]
  have := key l.length (Nat.le_refl _)
  rwa [List.take_length] at this
theorem soundB_used {h : H} (hs : soundB h = true) : h.f0 = true := by
  simp only [soundB, Bool.and_eq_true] at hs
  exact hs.1.1.1.1.1.1.1
theorem TOk_iff {sl : List H} {fr : List Int} : TOk sl fr ↔ TOkS sl fr := by
  constructor
  · intro h
    have hz : ∀ (k : Nat) (a : H), sl[k]? = some a → a.f0 = false → (k : Int) ∈ fr := fun k a hk ha => by
      refine Classical.byContradiction fun hn => ?_
      have := soundB_used (h.s k a hk hn)
      rw [ha] at this
      cases this
    refine ⟨fun a ha hu => ?_, fun a ha hu => ?_, fun i n hn => ⟨?_, ?_⟩, h.l40, ?_⟩
    · obtain ⟨k, hk⟩ := List.getElem?_of_mem ha
      refine h.s k a hk fun hm => ?_
      rw [(h.z k a hk).1 hm] at hu
      cases hu
    · obtain ⟨k, hk⟩ := List.getElem?_of_mem ha
      exact (h.z k a hk).1 (hz k a hk hu)
    · have hm := List.mem_of_getElem? hn
      obtain ⟨h0, h1⟩ := h.ok n hm
      obtain ⟨m, rfl⟩ := Int.eq_ofNat_of_zero_le h0
      refine ⟨h0, ?_⟩
      have hx : sl[m]? = some (sl[m]'(by omega)) := List.getElem?_eq_getElem (by omega)
      have := (h.z m _ hx).1 hm
      rw [Int.toNat_natCast]
      exact ⟨_, hx, by rw [this]; rfl⟩
    · exact fun hm => not_nodup hn hm h.nd
    · rw [← idx_length]
      refine len_eq_of_mem h.nd (idx_nodup _ _) fun x => ?_
      rw [mem_idx]
      constructor
      · intro hm
        obtain ⟨h0, h1⟩ := h.ok x hm
        obtain ⟨m, rfl⟩ := Int.eq_ofNat_of_zero_le h0
        have hx : sl[m]? = some (sl[m]'(by omega)) := List.getElem?_eq_getElem (by omega)
        exact ⟨m, _, rfl, hx, by rw [(h.z m _ hx).1 hm]; rfl⟩
      · rintro ⟨k, a, rfl, hk, ha⟩
        exact hz k a hk (by simpa using ha)
  · intro h
    have hnd : fr.Nodup := by
      refine nodup_of_ne ?_
      intro i j hij hj e
      obtain ⟨n, hn⟩ : ∃ n, fr[j]? = some n := ⟨_, List.getElem?_eq_getElem hj⟩
      refine (h.fs j n hn).2 ?_
      rw [hn] at e
      exact List.mem_of_getElem? (i := i) (by rw [List.getElem?_take, if_pos hij]; exact e)
    have hin : ∀ x ∈ fr, x ∈ idx (fun h : H => !h.f0) sl := by
      intro x hx
      obtain ⟨i, hi⟩ := List.getElem?_of_mem hx
      obtain ⟨⟨h0, a, ha, hu⟩, -⟩ := h.fs i x hi
      obtain ⟨m, rfl⟩ := Int.eq_ofNat_of_zero_le h0
      rw [Int.toNat_natCast] at ha
      exact mem_idx.2 ⟨m, a, rfl, ha, by simp [hu]⟩
    have hall := mem_of_full hnd hin (by rw [idx_length, h.cnt]; exact Nat.le_refl _)
    have hf : ∀ (k : Nat) (a : H), sl[k]? = some a → ((k : Int) ∈ fr ↔ a.f0 = false) := fun k a hk => by
      constructor
      · intro hm
        obtain ⟨k', a', e, hk', ha'⟩ := mem_idx.1 (hin _ hm)
        have : k = k' := by omega
        subst this
        rw [hk] at hk'
        obtain rfl := Option.some.inj hk'
        simpa using ha'
      · intro hu
        exact hall _ (mem_idx.2 ⟨k, a, rfl, hk, by simp [hu]⟩)
    refine ⟨h.l40, by rw [h.cnt]; exact List.countP_le_length, fun x hx => ?_, hnd, fun k a hk => ?_, fun k a hk hn => ?_⟩
    · obtain ⟨k, a, rfl, hk, -⟩ := mem_idx.1 (hin x hx)
      have := (List.getElem?_eq_some_iff.1 hk).1
      omega
    · rw [hf k a hk]
      exact ⟨fun hu => h.z a (List.mem_of_getElem? hk) hu, fun e => by rw [e]; rfl⟩
    · rw [hf k a hk] at hn
      exact h.u a (List.mem_of_getElem? hk) (by simpa using hn)
/-- A slot's place among all. -/
def fl (ts : List T) (p k : Nat) : Nat := (slotsOf (ts.take p)).length + k
theorem fl_get {ts : List T} {p k : Nat} {t : T} {h : H} (ht : ts[p]? = some t) (hh : t.f0[k]? = some h) : (slotsOf ts)[fl ts p k]? = some h := by
  obtain ⟨r, hr⟩ := pre_part ht hh
  rw [hr]
  have hk := (List.getElem?_eq_some_iff.1 hh).1
  rw [List.getElem?_append_right (by simp [fl]; omega)]
  simp [fl, Nat.min_eq_left (Nat.le_of_lt hk)]
theorem fl_of {ts : List T} {n : Nat} {h : H} (hn : (slotsOf ts)[n]? = some h) : ∃ p k t, ts[p]? = some t ∧ t.f0[k]? = some h ∧ n = fl ts p k := by
  have key : ∀ m, m ≤ ts.length → ∀ n h, (slotsOf (ts.take m))[n]? = some h → ∃ p k t, ts[p]? = some t ∧ t.f0[k]? = some h ∧ n = fl ts p k := by
    intro m
    induction m with
    | zero => intro _ n h hn; simp [slotsOf] at hn
    | succ m ih =>
      intro hm n h hn
      have hx : ts[m]? = some (ts[m]'(by omega)) := List.getElem?_eq_getElem (by omega)
      rw [slotsOf_snoc hx] at hn
      by_cases c : n < (slotsOf (ts.take m)).length
      · rw [List.getElem?_append_left c] at hn
        exact ih (by omega) n h hn
      · rw [List.getElem?_append_right (by omega)] at hn
        exact ⟨m, _, _, hx, hn, by unfold fl; omega⟩
  have := key ts.length (Nat.le_refl _) n h
  rw [List.take_length] at this
  exact this hn
theorem fl_lt {ts : List T} {p k p' k' : Nat} {t : T} {h : H} (ht : ts[p]? = some t) (hh : t.f0[k]? = some h) (hp : p < p') : fl ts p k < fl ts p' k' := by
  have hk := (List.getElem?_eq_some_iff.1 hh).1
  have key : ∀ m, p + 1 ≤ m → (slotsOf (ts.take (p + 1))).length ≤ (slotsOf (ts.take m)).length := by
    intro m hm
    have : ts.take (p + 1) = (ts.take m).take (p + 1) := by rw [List.take_take, Nat.min_eq_left hm]
    rw [this]
    conv => rhs; rw [← List.take_append_drop (p + 1) (ts.take m)]
    simp only [slotsOf, List.flatMap_append, List.length_append]
    omega
  have := key p' hp
  rw [slotsOf_snoc ht, List.length_append] at this
  unfold fl
  omega
theorem fl_inj {ts : List T} {p k p' k' : Nat} {t t' : T} {h h' : H} (ht : ts[p]? = some t) (hh : t.f0[k]? = some h) (ht' : ts[p']? = some t') (hh' : t'.f0[k']? = some h') (e : fl ts p k = fl ts p' k') : p = p' ∧ k = k' := by
  rcases Nat.lt_trichotomy p p' with c | c | c
  · have := fl_lt (k' := k') ht hh c; omega
  · subst c
    unfold fl at e
    exact ⟨rfl, by omega⟩
  · have := fl_lt (k' := k) ht' hh' c; omega
theorem slotv_get {ts : List T} {p k : Int} (h : ((slotv ts p k).getD zH).f0 = true) : ∃ (p' k' : Nat) (t : T) (a : H), p = p' ∧ k = k' ∧ ts[p']? = some t ∧ t.f0[k']? = some a ∧ (slotv ts p k).getD zH = a := by
  unfold slotv at h ⊢
  split at h
  · rename_i c
    obtain ⟨p', rfl⟩ := Int.eq_ofNat_of_zero_le c.1
    obtain ⟨k', rfl⟩ := Int.eq_ofNat_of_zero_le c.2
    rw [Int.toNat_natCast, Int.toNat_natCast] at h
    cases ht : ts[p']? with
    | none => rw [ht] at h; cases h
    | some t =>
      rw [ht] at h
      cases hk : t.f0[k']? with
      | none => rw [Option.bind_some, hk] at h; cases h
      | some a => exact ⟨p', k', t, a, rfl, rfl, ht, hk, by rw [if_pos c]; simp [ht, hk]⟩
  · cases h
/-- No loan is of a slot that is borrowed. -/
theorem cntZ_zero {ts : List T} {cs : List L} (hl : ∀ (i : Nat) (l : L), cs[i]? = some l → LoanI ts i l) {p k : Nat} {t : T} {h : H} (ht : ts[p]? = some t) (hh : t.f0[k]? = some h) (ho : h.f3 = false) : cntZ cs p k = 0 := by
  unfold cntZ
  rw [List.countP_eq_zero]
  intro l hm
  obtain ⟨i, hi⟩ := List.getElem?_of_mem hm
  simp only [Bool.and_eq_true, decide_eq_true_eq, not_and]
  intro e1 e2
  have := (hl i l hi).a3
  rw [← e1, ← e2, slotv_some ht hh] at this
  simp [ho] at this
/-- The places that are borrowed from, loan by loan. -/
def lpl (ts : List T) (cs : List L) : List Int := cs.map (fun l => (fl ts l.f2.toNat l.f3.toNat : Int))
theorem lpl_in {ts : List T} {cs : List L} (hl : ∀ (i : Nat) (l : L), cs[i]? = some l → LoanI ts i l) : ∀ x ∈ lpl ts cs, x ∈ idx boru (slotsOf ts) := by
  intro x hx
  obtain ⟨l, hm, rfl⟩ := List.mem_map.1 hx
  obtain ⟨i, hi⟩ := List.getElem?_of_mem hm
  have q := hl i l hi
  obtain ⟨p, k, t, a, e1, e2, ht, hk, e3⟩ := slotv_get q.b0
  have b0 := q.b0
  have b3 := q.b3
  rw [e3] at b0 b3
  refine mem_idx.2 ⟨_, a, rfl, ?_, by simp [boru, b0, b3]⟩
  rw [e1, e2, Int.toNat_natCast, Int.toNat_natCast]
  exact fl_get ht hk
theorem lpl_nodup {ts : List T} {cs : List L} (hl : ∀ (i : Nat) (l : L), cs[i]? = some l → LoanI ts i l) : (lpl ts cs).Nodup := by
  refine nodup_of_ne ?_
  intro i j hij hj e
  have hj' : j < cs.length := by simpa [lpl] using hj
  obtain ⟨l, hi⟩ : ∃ l, cs[i]? = some l := ⟨_, List.getElem?_eq_getElem (by omega)⟩
  obtain ⟨m, hjm⟩ : ∃ l, cs[j]? = some l := ⟨_, List.getElem?_eq_getElem hj'⟩
  simp only [lpl, List.getElem?_map, hi, hjm, Option.map_some, Option.some.injEq] at e
  have q := hl i l hi
  have r := hl j m hjm
  obtain ⟨p, k, t, a, e1, e2, ht, hk, e3⟩ := slotv_get q.b0
  obtain ⟨p', k', t', a', e1', e2', ht', hk', e3'⟩ := slotv_get r.b0
  rw [e1, e2, e1', e2'] at e
  simp only [Int.toNat_natCast] at e
  obtain ⟨rfl, rfl⟩ := fl_inj ht hk ht' hk' (by omega)
  have s1 := q.s
  have s2 := r.s
  rw [e1, e2] at s1
  rw [e1', e2', s1] at s2
  omega
theorem borZ_iff {ts : List T} {cs : List L} (hl : ∀ (i : Nat) (l : L), cs[i]? = some l → LoanI ts i l) {p k : Nat} {t : T} {h : H} (ht : ts[p]? = some t) (hh : t.f0[k]? = some h) : borZ cs p k = true ↔ (fl ts p k : Int) ∈ lpl ts cs := by
  unfold borZ lpl
  rw [List.any_eq_true, List.mem_map]
  constructor
  · rintro ⟨l, hm, hc⟩
    simp only [Bool.and_eq_true, decide_eq_true_eq] at hc
    exact ⟨l, hm, by rw [← hc.1, ← hc.2]; simp⟩
  · rintro ⟨l, hm, hc⟩
    refine ⟨l, hm, ?_⟩
    obtain ⟨i, hi⟩ := List.getElem?_of_mem hm
    obtain ⟨p', k', t', a', e1', e2', ht', hk', e3'⟩ := slotv_get (hl i l hi).b0
    rw [e1', e2'] at hc
    simp only [Int.toNat_natCast] at hc
    obtain ⟨rfl, rfl⟩ := fl_inj ht' hk' ht hh (by omega)
    simp [e1', e2']
theorem LnOk_iff {ts : List T} {cs : List L} : LnOk ts cs ↔ LnOkS ts cs := by
  constructor
  · intro h
    refine ⟨h.loan, fun p k t a ht hk hu => ?_, ?_⟩
    · by_cases c : a.f3 = true
      · rw [if_pos c]; exact (h.slot p k t a ht hk hu).1
      · rw [if_neg c, (h.slot p k t a ht hk hu).1, cntZ_zero h.loan ht hk (by simpa using c)]; rfl
    · rw [← idx_length, show cs.length = (lpl ts cs).length by simp [lpl]]
      refine len_eq_of_mem (idx_nodup _ _) (lpl_nodup h.loan) fun x => ⟨fun hx => ?_, lpl_in h.loan x⟩
      obtain ⟨n, a, rfl, hn, ha⟩ := mem_idx.1 hx
      obtain ⟨p, k, t, ht, hk, rfl⟩ := fl_of hn
      simp only [boru, Bool.and_eq_true, Bool.not_eq_true'] at ha
      refine (borZ_iff h.loan ht hk).1 ?_
      rcases (h.slot p k t a ht hk ha.1).2 with c | c
      · rw [ha.2] at c; cases c
      · exact c
  · intro h
    have hall := mem_of_full (lpl_nodup h.loan) (lpl_in h.loan) (by rw [idx_length, h.cnt]; simp [lpl])
    refine ⟨h.loan, fun p k t a ht hk hu => ⟨?_, ?_⟩⟩
    · have := h.slot p k t a ht hk hu
      by_cases c : a.f3 = true
      · rw [if_pos c] at this; exact this
      · rw [if_neg c] at this
        rw [this, cntZ_zero h.loan ht hk (by simpa using c)]; rfl
    · by_cases c : a.f3 = true
      · exact .inl c
      · exact .inr ((borZ_iff h.loan ht hk).2 (hall _ (mem_idx.2 ⟨_, a, rfl, fl_get ht hk, by simp [boru, hu, c]⟩)))
theorem slots_len {ts : List T} (h5 : ts.length ≤ 5) (h : ∀ t ∈ ts, t.f0.length ≤ 40) : (slotsOf ts).length ≤ 200 := by
  have : (slotsOf ts).length ≤ 40 * ts.length := by
    clear h5
    induction ts with
    | nil => simp [slotsOf]
    | cons t ts ih =>
      have h1 := h t (by simp)
      have h2 := ih (fun x hx => h x (by simp [hx]))
      simp only [slotsOf, List.flatMap_cons, List.length_append, List.length_cons] at *
      omega
  omega
theorem GW_iff {m : Wd} : GWI m ↔ GWS m := by
  constructor
  · intro h
    have hle : ∀ i, cnO (slotsOf m.f1) i ≤ 1 := fun i => List.nodup_iff_count.1 h.ow.nd _
    refine ⟨h.th.l40, h.t1, h.t5, fun t ht => TOk_iff.1 (h.tg t ht), h.ow.ok, fun i x hx => ?_, fun j e he => ?_, ?_, LnOk_iff.1 h.ln⟩
    · obtain ⟨a, b, c⟩ := h.th.t i x hx
      refine ⟨⟨a, b⟩, ?_, hle i⟩
      rw [Bool.eq_iff_iff, h.ow.al i x hx, decide_eq_true_eq]
      have := hle i
      unfold cnO at this ⊢
      rw [← List.count_pos_iff]
      omega
    · have hm := List.mem_of_getElem? he
      obtain ⟨a, b⟩ := h.th.ok e hm
      refine ⟨⟨a, b⟩, fun x hx => ?_, fun ht => not_nodup he ht h.th.nd⟩
      obtain ⟨-, -, c⟩ := h.th.t _ x hx
      rw [Bool.eq_false_iff]
      intro hf
      exact c.1 hf (by rw [Int.toNat_of_nonneg a]; exact hm)
    · rw [← idx_length]
      refine len_eq_of_mem h.th.nd (idx_nodup _ _) fun x => ?_
      rw [mem_idx]
      constructor
      · intro hm
        obtain ⟨a, b⟩ := h.th.ok x hm
        obtain ⟨n, rfl⟩ := Int.eq_ofNat_of_zero_le a
        have hx : m.f0[n]? = some (m.f0[n]'(by omega)) := List.getElem?_eq_getElem (by omega)
        refine ⟨n, _, rfl, hx, ?_⟩
        obtain ⟨-, -, c⟩ := h.th.t _ _ hx
        simp only [Bool.not_eq_true', Bool.eq_false_iff]
        exact fun hf => c.1 hf hm
      · rintro ⟨k, a, rfl, hk, ha⟩
        obtain ⟨-, -, c⟩ := h.th.t _ _ hk
        refine Classical.byContradiction fun hn => ?_
        rw [c.2 hn] at ha
        cases ha
  · intro h
    have hpos : ∀ a ∈ slotsOf m.f1, a.f0 = true → 0 ≤ a.f2 := fun a ha hu => by
      obtain ⟨t, ht, hm⟩ := List.mem_flatMap.1 ha
      exact (h.tg t ht).pos a hm hu
    have hnd : m.f3.Nodup := by
      refine nodup_of_ne ?_
      intro i j hij hj e
      obtain ⟨n, hn⟩ : ∃ n, m.f3[j]? = some n := ⟨_, List.getElem?_eq_getElem hj⟩
      refine (h.en j n hn).2.2 ?_
      rw [hn] at e
      exact List.mem_of_getElem? (i := i) (by rw [List.getElem?_take, if_pos hij]; exact e)
    have hok : ∀ x ∈ m.f3, 0 ≤ x ∧ x < (m.f0.length : Int) := fun x hx => by
      obtain ⟨i, hi⟩ := List.getElem?_of_mem hx
      exact (h.en i x hi).1
    have hdead : ∀ x ∈ m.f3, ∀ y, m.f0[x.toNat]? = some y → y.f1 = false := fun x hx => by
      obtain ⟨i, hi⟩ := List.getElem?_of_mem hx
      exact (h.en i x hi).2.1
    have hin : ∀ x ∈ m.f3, x ∈ idx (fun x : Th => !x.f1) m.f0 := fun x hx => by
      obtain ⟨a, b⟩ := hok x hx
      obtain ⟨n, rfl⟩ := Int.eq_ofNat_of_zero_le a
      have hy : m.f0[n]? = some (m.f0[n]'(by omega)) := List.getElem?_eq_getElem (by omega)
      exact mem_idx.2 ⟨n, _, rfl, hy, by rw [hdead _ hx _ (by rw [Int.toNat_natCast]; exact hy)]; rfl⟩
    have hall := mem_of_full hnd hin (by rw [idx_length, h.cnt]; exact Nat.le_refl _)
    have hcn : m.f2.length ≤ 200 := by
      rw [← h.ln.cnt]
      exact Nat.le_trans List.countP_le_length (slots_len h.t5 (fun t ht => (h.tg t ht).l40))
    refine ⟨h.t1, h.t5, hcn, fun t ht => TOk_iff.2 (h.tg t ht), ⟨h.l40, by rw [h.cnt]; exact List.countP_le_length, hok, hnd, fun k x hx => ?_⟩, ⟨h.ok, ?_, fun i x hx => ?_⟩, LnOk_iff.2 h.ln⟩
    · obtain ⟨⟨a, b⟩, -, -⟩ := h.th k x hx
      refine ⟨a, b, fun hf hm => ?_, fun hn => ?_⟩
      · rw [hdead _ hm x (by rw [Int.toNat_natCast]; exact hx)] at hf
        cases hf
      · rw [← Bool.not_eq_false]
        intro hf
        exact hn (hall _ (mem_idx.2 ⟨k, x, rfl, hx, by simp [hf]⟩))
    · rw [List.nodup_iff_count]
      intro a
      by_cases hm : a ∈ reps (slotsOf m.f1)
      · unfold reps at hm
        obtain ⟨x, hx, rfl⟩ := List.mem_map.1 hm
        obtain ⟨hx, ho⟩ := List.mem_filter.1 hx
        obtain ⟨y, hy, -, -⟩ := h.ok x hx ho
        have h0 := hpos x hx (by simp only [ownu, Bool.and_eq_true] at ho; exact ho.1)
        have := (h.th _ y hy).2.2
        unfold cnO at this
        rwa [Int.toNat_of_nonneg h0] at this
      · rw [List.count_eq_zero_of_not_mem hm]; omega
    · rw [(h.th i x hx).2.1, decide_eq_true_eq]
      have := (h.th i x hx).2.2
      unfold cnO at this ⊢
      rw [← List.count_pos_iff]
      omega
end Go.Proofs.Ytidkmlolcfapdaa
