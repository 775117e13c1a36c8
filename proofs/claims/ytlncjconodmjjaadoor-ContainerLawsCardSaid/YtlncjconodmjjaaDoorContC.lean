/- Containers, part 3: what a container is of, whatever its kind; the canonical one, a range flipped, a number more. -/
import Derived.Test.YtlncjconodmjjaaDoorContB
import Derived.Test.YtlncjconodmjjaaDoorRunsL3
namespace Go.Rx.Tryd
open Go.Rx.Plain Go.IntWalk
set_option linter.unusedVariables false
set_option linter.unusedSimpArgs false
abbrev Cont := Int × (List Int × (List Int × List Run))
def Sup (f : Int → Bool) : Prop := ∀ x, x < 0 ∨ 65536 ≤ x → f x = false
@[irreducible] def mem (f : Int → Bool) : List Int := memI f 0 65536
theorem mem_def (f : Int → Bool) : mem f = memI f 0 65536 := by unfold mem; rfl
def nF (f : Int → Bool) : Int := ((mem f).length : Int)
@[irreducible] def rF (f : Int → Bool) : Int := ((memI (startI f) 0 65536).length : Int)
theorem rF_def (f : Int → Bool) : rF f = ((memI (startI f) 0 65536).length : Int) := by unfold rF; rfl
theorem memI_ris (f : Int → Bool) : ∀ (n : Nat) (a : Int), a + (n : Int) ≤ 65536 → ris a (memI f a n)
  | 0, a, _ => trivial
  | n + 1, a, h => by
    rw [show n + 1 = 1 + n by omega, memI_split]
    have ih := memI_ris f n (a + 1) (by omega)
    have e : memI f a 1 = if f a then [a] else [] := by
      unfold memI
      rw [show List.range 1 = [0] from rfl]
      simp only [List.filter_cons, List.filter_nil, Int.natCast_zero, Int.add_zero]
      split <;> simp
    rw [e, show a + ((1 : Nat) : Int) = a + 1 by omega]
    split
    · exact ⟨Int.le_refl _, by omega, ih⟩
    · exact ris_mono ih (by omega)
theorem ris_nil : ris 0 [] := trivial
attribute [local irreducible] ris
theorem memI_ris0 (f : Int → Bool) (n : Nat) (hn : n = 65536) : ris 0 (memI f 0 n) := memI_ris f n 0 (by omega)
theorem mem_ris (f : Int → Bool) : ris 0 (mem f) := by
  have h := memI_ris0 f 65536 rfl
  rw [← mem_def] at h
  exact h
theorem mem_iff (f : Int → Bool) (x : Int) : x ∈ mem f ↔ (0 ≤ x ∧ x < 65536) ∧ f x = true := by
  rw [mem_def]
  unfold memI
  simp only [List.mem_map, List.mem_filter, List.mem_range, Int.zero_add]
  constructor
  · rintro ⟨j, ⟨h1, h2⟩, rfl⟩
    exact ⟨by omega, h2⟩
  · rintro ⟨h1, h2⟩
    exact ⟨x.toNat, ⟨by omega, by rw [show ((x.toNat : Nat) : Int) = x by omega]; exact h2⟩, by omega⟩
theorem mem_le (f : Int → Bool) : (mem f).length ≤ 65536 := ris_len (mem_ris f)
theorem runs_facts {r : List Run} {f : Int → Bool} (hm : mayF 0 r = true) (hw : wfR r) (h : ∀ x, hasB r x = f x) : listR r = mem f ∧ (r.length : Int) = rF f ∧ lenF r = nF f := by
  have ef : hasB r = f := funext h
  have hi : ∀ x, 65536 ≤ x → hasB r x = false := fun x hx => has_top fun p hp => by
    have : ∀ {r : List Run} {m : Int}, mayF m r = true → ∀ p, p ∈ r → p.1 + p.2 < 65536 := by
      intro r
      induction r with
      | nil => intro m _ p hp; cases hp
      | cons q t ih =>
        intro m h p hp
        obtain ⟨h1, h2, h3⟩ := mayF_cons.1 h
        rcases List.mem_cons.1 hp with hp | hp
        · subst hp; exact h2
        · exact ih h3 p hp
    have := this hm p hp
    omega
  have cut : ∀ f : Int → Bool, (f 65536 = false) → memI f 0 (65537 - (0 : Int)).toNat = memI f 0 65536 := by
    intro f hf
    rw [show (65537 - (0 : Int)).toNat = 65536 + 1 by omega, memI_split, memI_none (a := 0 + ((65536 : Nat) : Int)) fun x q1 q2 => by
      have : x = 65536 := by omega
      rw [this, hf]]
    simp
  have e1 : listR r = mem f := by
    rw [listR_mem hm hw (by omega), cut _ (hi _ (Int.le_refl _)), ef, mem_def]
  refine ⟨e1, ?_, ?_⟩
  · have s := starts_mem hm hw (by omega)
    have hs : startI (hasB r) 65536 = false := by unfold startI; rw [hi _ (Int.le_refl _)]; rfl
    rw [cut _ hs, ef] at s
    have sl := congrArg List.length s
    rw [List.length_map] at sl
    rw [rF_def, sl]
  · unfold nF
    rw [← listR_len hw, e1]
theorem ofinv_has {r : List Run} {f : Int → Bool} (hs : Sup f) (h : OfInv r (mem f)) : ∀ x, hasB r x = f x := by
  intro x
  rw [Bool.eq_iff_iff, hasB_listR h.wf, h.l, mem_iff]
  constructor
  · exact fun h => h.2
  · intro hx
    refine ⟨?_, hx⟩
    by_cases c : x < 0 ∨ 65536 ≤ x
    · rw [hs x c] at hx; cases hx
    · omega
theorem words_facts {W : List Nat} {f : Int → Bool} (hs : Sup f) (hW : wfW W) (h : ∀ x : Nat, x < 65536 → hasW W x = f (x : Int)) : castL (listW 0 W) = mem f ∧ ((runsW 0 W : Nat) : Int) = rF f ∧ ((lenW W : Nat) : Int) = nF f := by
  obtain ⟨r, _, hi⟩ := Of_eq (k := (mem f).length + 1) (mem_ris f) (Nat.le_refl _)
  have hb := ofinv_has hs hi
  obtain ⟨a1, a2, a3⟩ := alike hi.may hi.wf hW (fun x hx => by rw [h x hx, hb])
  obtain ⟨b1, b2, b3⟩ := runs_facts hi.may hi.wf hb
  exact ⟨by rw [← a1, b1], by rw [← a2, b2], by rw [← a3, b3]⟩
theorem rF_bound (f : Int → Bool) : 0 ≤ rF f ∧ rF f ≤ 65536 := by
  have h := ris_len (memI_ris0 (startI f) 65536 rfl)
  rw [rF_def]
  omega
theorem nF_bound (f : Int → Bool) : 0 ≤ nF f ∧ nF f ≤ 65536 := by
  have h := mem_le f
  unfold nF
  omega
inductive IsC : Cont → (Int → Bool) → Prop
  | arr {kd : Int} {w : List Int} {r : List Run} {f : Int → Bool} (h : kd = 0 ∨ kd = 1) : IsC (kd, (mem f, (w, r))) f
  | wrd {a : List Int} {W : List Nat} {r : List Run} {f : Int → Bool} (hW : wfW W) (h : ∀ x : Nat, x < 65536 → hasW W x = f (x : Int)) : IsC (2, (a, (up W, r))) f
  | run {a w : List Int} {r : List Run} {f : Int → Bool} (hm : mayF 0 r = true) (hw : wfR r) (h : ∀ x, hasB r x = f x) : IsC (3, (a, (w, r))) f
def kF (n r : Int) : Int := if 2 + 4 * r < (if n ≤ 4096 then 2 * n else 8192) then 3 else if n ≤ 4096 then 1 else 2
theorem runs_len_le {r : List Run} {f : Int → Bool} (hm : mayF 0 r = true) (hw : wfR r) (h : ∀ x, hasB r x = f x) : r.length ≤ 65536 := by
  have := (runs_facts hm hw h).2.1
  have := rF_bound f
  omega
theorem CLen {c : Cont} {f : Int → Bool} {k : Nat} (hs : Sup f) (h : IsC c f) (hk : 70000 ≤ k) : container_Container_Len k c = some (nF f) := by
  cases h with
  | arr h =>
    rcases h with h | h
    · subst h; rfl
    · subst h; rfl
  | wrd hW h =>
    unfold container_Container_Len container_Container_Kind container_Container_wordsLen
    rw [show max (2 : Int) 1 = 2 from rfl]
    simp only [Option.bind_some, show ¬ (2 : Int) = 0 by omega, show ¬ (2 : Int) = 1 by omega, decide_false, decide_true, cond_false, cond_true]
    rw [WLen_eq hW (by omega), (words_facts hs hW h).2.2]
    rfl
  | run hm hw h =>
    unfold container_Container_Len container_Container_Kind container_Container_runsLen
    rw [show max (3 : Int) 1 = 3 from rfl]
    simp only [Option.bind_some, show ¬ (3 : Int) = 0 by omega, show ¬ (3 : Int) = 1 by omega, show ¬ (3 : Int) = 2 by omega, decide_false, decide_true, cond_false, cond_true]
    have := runs_len_le hm hw h
    rw [Len_eq hw (by omega) (by omega), (runs_facts hm hw h).2.2]
    rfl
theorem CMany {c : Cont} {f : Int → Bool} {k : Nat} (hs : Sup f) (h : IsC c f) (hk : 70000 ≤ k) : container_Container_many k c = some (rF f) := by
  cases h with
  | arr h =>
    have hl := mem_le f
    obtain ⟨r, e, hi⟩ := ARuns_eq (k := k) (mem_ris f) (by omega)
    have hb := ofinv_has hs hi
    unfold container_Container_many
    rcases h with h | h
    · subst h
      simp only [show ¬ (0 : Int) = 2 by omega, show ¬ (0 : Int) = 3 by omega, decide_false, cond_false, e, (runs_facts hi.may hi.wf hb).2.1, Option.bind_some]
    · subst h
      simp only [show ¬ (1 : Int) = 2 by omega, show ¬ (1 : Int) = 3 by omega, decide_false, cond_false, e, (runs_facts hi.may hi.wf hb).2.1, Option.bind_some]
  | wrd hW h =>
    unfold container_Container_many
    simp only [decide_true, cond_true]
    rw [WRuns_eq hW (by omega), (words_facts hs hW h).2.1]
    rfl
  | run hm hw h =>
    unfold container_Container_many
    simp only [show ¬ (3 : Int) = 2 by omega, decide_false, decide_true, cond_false, cond_true, (runs_facts hm hw h).2.1]
theorem CArray {c : Cont} {f : Int → Bool} {k : Nat} (hs : Sup f) (h : IsC c f) (hk : 140000 ≤ k) : container_Container_Array k c = some (mem f) := by
  cases h with
  | arr h =>
    have hl := mem_le f
    unfold container_Container_Array
    rcases h with h | h
    · subst h
      simp only [show ¬ (0 : Int) = 2 by omega, show ¬ (0 : Int) = 3 by omega, decide_false, cond_false, clone16_eq (k := k) (show (mem f).length < 1000000 by omega), Option.bind_some]
    · subst h
      simp only [show ¬ (1 : Int) = 2 by omega, show ¬ (1 : Int) = 3 by omega, decide_false, cond_false, clone16_eq (k := k) (show (mem f).length < 1000000 by omega), Option.bind_some]
  | wrd hW h =>
    unfold container_Container_Array
    simp only [decide_true, cond_true]
    rw [WList_eq hW (by omega), (words_facts hs hW h).1]
    rfl
  | run hm hw h =>
    have := runs_len_le hm hw h
    unfold container_Container_Array
    simp only [show ¬ (3 : Int) = 2 by omega, decide_false, decide_true, cond_false, cond_true]
    rw [List_eq hm hw (by omega) (by omega), (runs_facts hm hw h).1]
    rfl
theorem CRuns {c : Cont} {f : Int → Bool} {k : Nat} (hs : Sup f) (h : IsC c f) (hk : 140000 ≤ k) : ∃ r, container_Container_Runs k c = some r ∧ mayF 0 r = true ∧ wfR r ∧ ∀ x, hasB r x = f x := by
  have arr : ∀ c : Cont, IsC c f → c.1 ≠ 3 → ∃ r, container_Container_Runs k c = some r ∧ mayF 0 r = true ∧ wfR r ∧ ∀ x, hasB r x = f x := by
    intro c h hc
    have hl := mem_le f
    obtain ⟨r, e, hi⟩ := Of_eq (k := k) (mem_ris f) (by omega)
    refine ⟨r, ?_, hi.may, hi.wf, ofinv_has hs hi⟩
    unfold container_Container_Runs
    simp only [hc, decide_false, cond_false, CArray hs h hk, e, Option.bind_some]
  cases h with
  | arr h =>
    refine arr _ (.arr h) ?_
    show _ ≠ _
    rcases h with h | h <;> subst h <;> omega
  | wrd hW h => exact arr _ (.wrd hW h) (by show (2 : Int) ≠ 3; omega)
  | run hm hw h =>
    have := runs_len_le hm hw h
    rename_i r
    have hcl := clone_eq (k := k) (r := r) (by omega)
    refine ⟨_, ?_, hm, hw, h⟩
    unfold container_Container_Runs
    simp only [decide_true, cond_true, hcl, Option.bind_some]
theorem CWords {c : Cont} {f : Int → Bool} {k : Nat} (hs : Sup f) (h : IsC c f) (hk : 140000 ≤ k) : ∃ W, container_Container_Words k c = some (up W) ∧ wfW W ∧ ∀ x : Nat, x < 65536 → hasW W x = f (x : Int) := by
  cases h with
  | arr h =>
    have hl := mem_le f
    obtain ⟨W, e, hW, hh⟩ := WOf_eq (k := k) (mem_ris f) (by omega)
    refine ⟨W, ?_, hW, fun x hx => ?_⟩
    · unfold container_Container_Words
      rcases h with h | h
      · subst h
        simp only [show ¬ (0 : Int) = 2 by omega, show ¬ (0 : Int) = 3 by omega, decide_false, cond_false, e, Option.bind_some]
      · subst h
        simp only [show ¬ (1 : Int) = 2 by omega, show ¬ (1 : Int) = 3 by omega, decide_false, cond_false, e, Option.bind_some]
    · rw [hh x hx, Bool.eq_iff_iff, decide_eq_true_eq, mem_iff]
      constructor
      · exact fun h => h.2
      · exact fun h => ⟨by omega, h⟩
  | wrd hW h =>
    rename_i W _
    have : (up W).length < 1000000 := by rw [up_len, hW.1]; omega
    refine ⟨W, ?_, hW, h⟩
    unfold container_Container_Words
    simp only [decide_true, cond_true, clone64_eq (k := k) this, Option.bind_some]
  | run hm hw h =>
    have := runs_len_le hm hw h
    rename_i r
    obtain ⟨W0, e0, hW0, hh0⟩ := WOf_eq (a := []) (k := k) ris_nil (by simp; omega)
    obtain ⟨W, e, hW, hh⟩ := CW_l0_eq (K := 65540) (by omega) hw (by omega) r k 0 0 W0 (by omega) rfl hm (by omega) hW0
    refine ⟨W, ?_, hW, fun x hx => by rw [hh x hx, hh0 x hx, h]; simp⟩
    unfold container_Container_Words
    simp only [show ¬ (3 : Int) = 2 by omega, decide_false, decide_true, cond_false, cond_true, e0, Option.bind_some]
    have e' : container_Container_Words_l0 k (up W0) r (r.length : Int) 0 = some (up W) := e
    rw [e']
    rfl
theorem Kind_eq (k : Nat) (c : Cont) : container_Container_Kind k c = some (max c.1 1) := rfl
theorem IsC.kind {c : Cont} {f : Int → Bool} (h : IsC c f) : (max c.1 1 = 1 ∨ max c.1 1 = 2 ∨ max c.1 1 = 3) := by
  cases h with
  | arr h => rcases h with h | h <;> subst h <;> exact .inl rfl
  | wrd _ _ => exact .inr (.inl rfl)
  | run _ _ _ => exact .inr (.inr rfl)
theorem kF_cases (n m : Int) : kF n m = 3 ∨ kF n m = 1 ∨ kF n m = 2 := by
  unfold kF
  generalize (if n ≤ 4096 then 2 * n else 8192) = z
  by_cases q2 : 2 + 4 * m < z
  · rw [if_pos q2]; exact .inl rfl
  · rw [if_neg q2]
    by_cases q1 : n ≤ 4096
    · rw [if_pos q1]; exact .inr (.inl rfl)
    · rw [if_neg q1]; exact .inr (.inr rfl)
theorem canon_body {α : Type} (n m : Int) (R A W : α) : (bif decide (n ≤ 4096) then (bif decide (2 + 4 * m < 2 * n) then R else bif decide (n ≤ 4096) then A else W) else (bif decide (2 + 4 * m < 8192) then R else bif decide (n ≤ 4096) then A else W)) = if kF n m = 3 then R else if kF n m = 1 then A else W := by
  unfold kF
  by_cases q1 : n ≤ 4096
  · rw [decide_eq_true q1, if_pos q1, if_pos q1]
    by_cases q2 : 2 + 4 * m < 2 * n
    · rw [decide_eq_true q2, if_pos q2]
      rfl
    · rw [decide_eq_false q2, if_neg q2]
      rfl
  · rw [decide_eq_false q1, if_neg q1, if_neg q1]
    by_cases q2 : 2 + 4 * m < 8192
    · rw [decide_eq_true q2, if_pos q2]
      rfl
    · rw [decide_eq_false q2, if_neg q2]
      rfl
theorem CCanon {c : Cont} {f : Int → Bool} {k : Nat} (hs : Sup f) (h : IsC c f) (hk : 140000 ≤ k) : ∃ c', container_Container_Canonical k c = some c' ∧ IsC c' f ∧ max c'.1 1 = kF (nF f) (rF f) := by
  have b1 := nF_bound f
  have b2 := rF_bound f
  have eL := CLen hs h (k := k) (by omega)
  have eM := CMany hs h (k := k) (by omega)
  generalize nF f = n at *
  generalize rF f = m at *
  have w1 : IntKind.wrap .i64 (4 * m) = 4 * m := i64_in _ ⟨by omega, by omega⟩
  have w2 : IntKind.wrap .i64 (2 + 4 * m) = 2 + 4 * m := i64_in _ ⟨by omega, by omega⟩
  have w3 : IntKind.wrap .i64 (2 * n) = 2 * n := i64_in _ ⟨by omega, by omega⟩
  have toR : kF (n) (m) = 3 → ∃ c', (bif decide ((3 : Int) = max c.1 1) then some c else (container_Container_Runs k c).bind fun y => some ((3 : Int), (([] : List Int), (([] : List Int), y)))) = some c' ∧ IsC c' f ∧ max c'.1 1 = kF (n) (m) := by
    intro hk3
    by_cases q : (3 : Int) = max c.1 1
    · exact ⟨c, by rw [decide_eq_true q]; rfl, h, by rw [← q, hk3]⟩
    · obtain ⟨r, e, mm, w, hh⟩ := CRuns hs h hk
      exact ⟨_, by rw [decide_eq_false q, e]; rfl, .run mm w hh, by rw [hk3]; rfl⟩
  have toA : kF (n) (m) = 1 → ∃ c', (bif decide ((1 : Int) = max c.1 1) then some c else (container_Container_Array k c).bind fun y => some ((1 : Int), (y, (([] : List Int), ([] : List (Int × Int)))))) = some c' ∧ IsC c' f ∧ max c'.1 1 = kF (n) (m) := by
    intro hk3
    by_cases q : (1 : Int) = max c.1 1
    · exact ⟨c, by rw [decide_eq_true q]; rfl, h, by rw [← q, hk3]⟩
    · exact ⟨_, by rw [decide_eq_false q, CArray hs h hk]; rfl, .arr (.inr rfl), by rw [hk3]; rfl⟩
  have toW : kF (n) (m) = 2 → ∃ c', (bif decide ((2 : Int) = max c.1 1) then some c else (container_Container_Words k c).bind fun y => some ((2 : Int), (([] : List Int), (y, ([] : List (Int × Int)))))) = some c' ∧ IsC c' f ∧ max c'.1 1 = kF (n) (m) := by
    intro hk3
    by_cases q : (2 : Int) = max c.1 1
    · exact ⟨c, by rw [decide_eq_true q]; rfl, h, by rw [← q, hk3]⟩
    · obtain ⟨W, e, w, hh⟩ := CWords hs h hk
      exact ⟨_, by rw [decide_eq_false q, e]; rfl, .wrd w hh, by rw [hk3]; rfl⟩
  unfold container_Container_Canonical
  rw [eL]
  simp only [Option.bind_some]
  rw [eM]
  simp only [Option.bind_some, w1, w2, w3, Kind_eq]
  rw [canon_body]
  have hk3 : kF n m = 3 ∨ kF n m = 1 ∨ kF n m = 2 := kF_cases n m
  rcases hk3 with q | q | q
  · rw [if_pos q]
    exact toR q
  · rw [if_neg (by rw [q]; decide), if_pos q]
    exact toA q
  · rw [if_neg (by rw [q]; decide), if_neg (by rw [q]; decide)]
    exact toW q
def fx (f : Int → Bool) (lo hi : Int) (x : Int) : Bool := f x != (decide (max lo 0 ≤ x) && decide (x < min hi 65536))
theorem fx_sup {f : Int → Bool} (hs : Sup f) (lo hi : Int) : Sup (fx f lo hi) := by
  intro x hx
  unfold fx
  rw [hs x hx]
  have : (decide (max lo 0 ≤ x) && decide (x < min hi 65536)) = false := by simp; omega
  rw [this]
  rfl
theorem CFlip {c : Cont} {f : Int → Bool} {k : Nat} {lo hi : Int} (hs : Sup f) (h : IsC c f) (hk : 140000 ≤ k) : ∃ c', container_Container_Flip k c lo hi = some c' ∧ IsC c' (fx f lo hi) ∧ max c'.1 1 = kF (nF (fx f lo hi)) (rF (fx f lo hi)) := by
  have gen : c.1 ≠ 2 → ∃ c', container_Container_Flip k c lo hi = some c' ∧ IsC c' (fx f lo hi) ∧ max c'.1 1 = kF (nF (fx f lo hi)) (rF (fx f lo hi)) := by
    intro hc
    obtain ⟨r, e, m, w, hh⟩ := CRuns hs h hk
    have hl := runs_len_le m w hh
    obtain ⟨r2, e2, q⟩ := Flip_ans (k := k) (lo := lo) (hi := hi) m w (by omega) (by omega)
    obtain ⟨c', e3, i3, k3⟩ := CCanon (c := ((3 : Int), (([] : List Int), (([] : List Int), r2)))) (k := k) (fx_sup hs lo hi) (.run q.may q.wf (fun x => by rw [q.has, hh]; rfl)) hk
    exact ⟨c', by unfold container_Container_Flip; simp only [hc, decide_false, cond_false, e, e2, e3, Option.bind_some], i3, k3⟩
  cases h with
  | arr h =>
    refine gen ?_
    show _ ≠ _
    rcases h with h | h <;> subst h <;> omega
  | wrd hW h =>
    obtain ⟨W2, e2, w2, h2⟩ := WFlip_eq (lo := lo) (hi := hi) (k := k) hW (by omega)
    obtain ⟨c', e3, i3, k3⟩ := CCanon (c := ((2 : Int), (([] : List Int), (up W2, ([] : List (Int × Int)))))) (k := k) (fx_sup hs lo hi) (.wrd w2 (fun x hx => by rw [h2 x hx, h x hx]; rfl)) hk
    exact ⟨c', by unfold container_Container_Flip; simp only [decide_true, cond_true, e2, e3, Option.bind_some], i3, k3⟩
  | run hm hw h => exact gen (by show (3 : Int) ≠ 2; omega)
theorem CHas {c : Cont} {f : Int → Bool} {k : Nat} {x : Int} (hs : Sup f) (h : IsC c f) (hk : 140000 ≤ k) (hx : 0 ≤ x ∧ x < 65536) : container_Container_Has k c x = some (f x) := by
  cases h with
  | arr h =>
    have hl := mem_le f
    obtain ⟨i, e, _⟩ := Find_eq (k := k) (x := x) (mem_ris f) (by omega)
    have hd : decide (x ∈ mem f) = f x := by
      rw [Bool.eq_iff_iff, decide_eq_true_eq, mem_iff]
      constructor
      · exact fun h => h.2
      · exact fun h => ⟨hx, h⟩
    have ha : ∀ kd : Int, ∀ w r, container_Container_arrayHas k (kd, (mem f, (w, r))) x = some (f x) := by
      intro kd w r
      unfold container_Container_arrayHas
      simp only [e, Option.bind_some, hd]
    unfold container_Container_Has
    rw [Kind_eq]
    rcases h with h | h
    · subst h
      rw [show max (0 : Int) 1 = 1 from rfl]
      simp only [Option.bind_some, show ¬ (1 : Int) = 0 by omega, decide_false, decide_true, cond_false, cond_true, ha]
    · subst h
      rw [show max (1 : Int) 1 = 1 from rfl]
      simp only [Option.bind_some, show ¬ (1 : Int) = 0 by omega, decide_false, decide_true, cond_false, cond_true, ha]
  | wrd hW h =>
    obtain ⟨n, rfl⟩ : ∃ n : Nat, x = (n : Int) := ⟨x.toNat, by omega⟩
    unfold container_Container_Has container_Container_wordsHas
    rw [Kind_eq, show max (2 : Int) 1 = 2 from rfl]
    simp only [Option.bind_some, show ¬ (2 : Int) = 0 by omega, show ¬ (2 : Int) = 1 by omega, decide_false, decide_true, cond_false, cond_true]
    rw [WHas_eq hW (by omega), h n (by omega)]
    rfl
  | run hm hw h =>
    have hl := runs_len_le hm hw h
    unfold container_Container_Has container_Container_runsHas
    rw [Kind_eq, show max (3 : Int) 1 = 3 from rfl]
    simp only [Option.bind_some, show ¬ (3 : Int) = 0 by omega, show ¬ (3 : Int) = 1 by omega, show ¬ (3 : Int) = 2 by omega, decide_false, decide_true, cond_false, cond_true]
    rw [Has_eq hm hw (by omega) (by omega) hx, h]
    rfl
theorem CWith {c : Cont} {f : Int → Bool} {k : Nat} {x : Int} (hs : Sup f) (h : IsC c f) (hk : 140000 ≤ k) (hx : 0 ≤ x ∧ x < 65536) :
    ∃ c', container_Container_With k c x = some c' ∧ IsC c' (fun y => f y || decide (y = x)) ∧ max c'.1 1 = kF (nF (fun y => f y || decide (y = x))) (rF (fun y => f y || decide (y = x))) := by
  unfold container_Container_With
  rw [CHas hs h hk hx]
  simp only [Option.bind_some]
  cases hf : f x with
  | true =>
    have e : (fun y => f y || decide (y = x)) = f := by
      funext y
      by_cases q : y = x
      · subst q; rw [hf]; rfl
      · simp [q]
    obtain ⟨c', e1, e2, e3⟩ := CCanon hs h hk
    rw [e]
    exact ⟨c', by simp only [cond_true, e1, Option.bind_some], e2, e3⟩
  | false =>
    have e : (fun y => f y || decide (y = x)) = fx f x (x + 1) := by
      funext y
      unfold fx
      by_cases q : y = x
      · subst q
        rw [hf]
        have : (decide (max y 0 ≤ y) && decide (y < min (y + 1) 65536)) = true := by simp; omega
        rw [this]
        simp
      · have : (decide (max x 0 ≤ y) && decide (y < min (x + 1) 65536)) = false := by simp; omega
        rw [this]
        simp [q]
    obtain ⟨c', e1, e2, e3⟩ := CFlip (lo := x) (hi := x + 1) hs h hk
    rw [e]
    refine ⟨c', ?_, e2, e3⟩
    simp only [cond_false]
    rw [i64_in x ⟨by omega, by omega⟩, i64_in (x + 1) ⟨by omega, by omega⟩, e1]
    rfl
end Go.Rx.Tryd
