/- Rx, part 19: the orders that a region's edges allow. -/
import Derived.Test.YtlncjconodmjjaaDoorRegionS
namespace Go.Rx
set_option linter.unusedVariables false
set_option linter.unusedSimpArgs false
theorem hasId_of {n : Nat} : ∀ {l : List Nat}, n ∈ l → hasId l n = true
  | [], h => by cases h
  | a :: r, h => by
    unfold hasId
    split
    · rfl
    · rename_i q
      rcases List.mem_cons.1 h with h | h
      · subst h; simp at q
      · exact hasId_of h
theorem meet_of {n : Nat} : ∀ {l l' : List Nat}, n ∈ l → n ∈ l' → meet l l' = true
  | [], _, h, _ => by cases h
  | a :: r, l', h, h' => by
    unfold meet
    split
    · rfl
    · rename_i q
      rcases List.mem_cons.1 h with h | h
      · subst h; rw [hasId_of h'] at q; cases q
      · exact meet_of h h'
section
variable {all : Array Oper} {x y : Oper} {tx ty : List Nat × List Nat}
theorem clash_look {d : Nat} (h : x.dst = some d) (h' : d ∈ looks all y) : clash all x y tx ty = true := by simp [clash, h, hasId_of h']
theorem clash_dst {d : Nat} (h : x.dst = some d) (h' : y.dst = some d) : clash all x y tx ty = true := by simp [clash, h, h']
theorem clash_back {d : Nat} (h : y.dst = some d) (h' : d ∈ looks all x) : clash all x y tx ty = true := by
  unfold clash
  simp [h, hasId_of h']
theorem clash_ws {id : Nat} (h : id ∈ tx.2) (h' : id ∈ ty.1 ∨ id ∈ ty.2) : clash all x y tx ty = true := by
  unfold clash
  have : meet tx.2 (ty.1 ++ ty.2) = true := meet_of h (List.mem_append.2 h')
  simp [this]
theorem clash_rd {id : Nat} (h : id ∈ ty.2) (h' : id ∈ tx.1) : clash all x y tx ty = true := by
  unfold clash
  have : meet ty.2 tx.1 = true := meet_of h h'
  simp [this]
end
theorem binds_any (e : Edge) : Region.binds .any e = bindsAny e := by
  unfold Region.binds bindsAny
  cases e.ground <;> rfl
theorem edgeBits_spec {acc : Array Nat} {i : Nat} : ∀ {l : List Edge}, (edgeBits acc l).testBit i = true → ∃ e, e ∈ l ∧ bindsAny e = true ∧ (i = e.on ∨ (acc.getD e.on 0).testBit i = true)
  | [], h => by simp [edgeBits] at h
  | e :: r, h => by
    unfold edgeBits at h
    split at h
    · rename_i hb
      rw [Nat.testBit_or, Bool.or_eq_true, Nat.testBit_or, Bool.or_eq_true] at h
      rcases h with h | h | h
      · obtain ⟨e', h1, h2⟩ := edgeBits_spec h
        exact ⟨e', List.mem_cons_of_mem _ h1, h2⟩
      · rw [Nat.testBit_two_pow] at h
        exact ⟨e, List.mem_cons_self, hb, .inl (by simpa [eq_comm] using h)⟩
      · exact ⟨e, List.mem_cons_self, hb, .inr h⟩
    · obtain ⟨e', h1, h2⟩ := edgeBits_spec h
      exact ⟨e', List.mem_cons_of_mem _ h1, h2⟩
theorem push_getD (acc : Array Nat) (b j : Nat) : (acc.push b).getD j 0 = if j = acc.size then b else acc.getD j 0 := by
  simp only [Array.getD_eq_getD_getElem?, Array.getElem?_push]
  split <;> simp_all
theorem getD_size (acc : Array Nat) : acc.getD acc.size 0 = 0 := by simp [Array.getD_eq_getD_getElem?]
theorem clos_mono {i j : Nat} : ∀ {l : List Oper} {acc : Array Nat}, (acc.getD j 0).testBit i = true → ((clos l acc).getD j 0).testBit i = true
  | [], _, h => h
  | o :: r, acc, h => by
    refine clos_mono (l := r) ?_
    rw [push_getD]
    split
    · rename_i q; subst q; rw [getD_size] at h; simp at h
    · exact h
theorem clos_spec {i j : Nat} : ∀ {l : List Oper} {acc : Array Nat}, ((clos l acc).getD j 0).testBit i = true → (acc.getD j 0).testBit i = true ∨
    ∃ k o, j = acc.size + k ∧ l[k]? = some o ∧ ∃ e, e ∈ o.after.toList ∧ bindsAny e = true ∧ (i = e.on ∨ ((clos l acc).getD e.on 0).testBit i = true)
  | [], _, h => .inl h
  | o :: r, acc, h => by
    rcases clos_spec (l := r) h with h1 | ⟨k, o', h1, h2, e, h3, h4, h5⟩
    · rw [push_getD] at h1
      split at h1
      · rename_i q
        obtain ⟨e, q1, q2, q3⟩ := edgeBits_spec h1
        refine .inr ⟨0, o, q, rfl, e, q1, q2, q3.imp id fun q3 => ?_⟩
        refine clos_mono (l := r) ?_
        rw [push_getD]
        split
        · rename_i q4; rw [q4, getD_size] at q3; simp at q3
        · exact q3
      · exact .inl h1
    · exact .inr ⟨k + 1, o', by simp at h1; omega, by simpa using h2, e, h3, h4, h5⟩
theorem edgesLt_spec {j : Nat} : ∀ {l : List Edge}, edgesLt j l = true → ∀ e, e ∈ l → bindsAny e = true → e.on < j
  | [], _, _, h, _ => by cases h
  | e' :: r, h, e, he, hb => by
    unfold edgesLt at h
    split at h
    · cases h
    · rename_i q
      rcases List.mem_cons.1 he with he | he
      · subst he
        rcases Nat.lt_or_ge e.on j with q' | q'
        · exact q'
        · have : Nat.blt e.on j = false := by rw [Bool.eq_false_iff]; intro q2; rw [Nat.blt_eq] at q2; omega
          exact (q hb this).elim
      · exact edgesLt_spec h e he hb
theorem forward_spec : ∀ {l : List Oper} {j k : Nat} {o : Oper}, forward l j = true → l[k]? = some o → ∀ e, e ∈ o.after.toList → bindsAny e = true → e.on < j + k
  | [], _, _, _, _, h => by cases h
  | o' :: r, j, k, o, h, hk => by
    unfold forward at h
    split at h
    · rename_i q
      intro e he hb
      cases k with
      | zero => cases hk; exact edgesLt_spec q e he hb
      | succ k => have := forward_spec h (by simpa using hk) e he hb; omega
    · cases h
theorem countP_lt {p q : Nat → Bool} {i : Nat} : ∀ {l : List Nat}, (∀ x, q x = true → p x = true) → i ∈ l → p i = true → q i = false → l.countP q < l.countP p
  | [], _, h, _, _ => by cases h
  | a :: r, h, hi, h1, h2 => by
    have hle : r.countP q ≤ r.countP p := List.countP_mono_left fun x _ hx => h x hx
    rw [List.countP_cons, List.countP_cons]
    rcases List.mem_cons.1 hi with hi | hi
    · subst hi; simp [h1, h2]; omega
    · have := countP_lt h hi h1 h2
      by_cases qa : q a = true
      · simp [qa, h a qa]; exact this
      · simp [qa]; split <;> omega

structure Sched0 (G : Gl) (ops : Array Oper) (nid0 : Nat) (S : AS) (es : List (Option Eff)) : Prop where
  dec : S.dec = []
  bd : ∀ id, S.obj id ≠ none → id < nid0
  plan : Plan G ops nid0 ops.toList 0 S es
structure Sched (G : Gl) (ops : Array Oper) (nid0 : Nat) (S : AS) (es : List (Option Eff)) : Prop extends Sched0 G ops nid0 S es where
  fwd : forward ops.toList 0 = true
  ord : orderly nid0 ops (clos ops.toList #[]) (es.map trOf) = true
def unl (ops : Array Oper) (listed : Array Bool) : Nat := (List.range ops.size).countP fun i => !listed.getD i true
def Down (ops : Array Oper) (m : Nat → Bool) : Prop := ∀ j, m j = true → ∀ i, ((clos ops.toList #[]).getD j 0).testBit i = true → m i = true
section
variable {C : Ctx} {S T : AS} {E : Env} {a : Act} {w : World} {G : Gl} {ops : Array Oper} {nid0 nid i : Nat} {es : List (Option Eff)}
theorem toList_get {i : Nat} {o : Oper} (h : ops[i]? = some o) : ops.toList[i]? = some o := by rw [Array.getElem?_toList]; exact h
theorem Sched0.has (h : Sched0 G ops nid0 S es) {i : Nat} {o : Oper} (hi : ops[i]? = some o) : ∃ e, es[i]? = some e ∧ DidOK G ops nid0 (nid0 + 4 * i) (mst (upto i) ops.toList es 0 S) o e := by
  have := plan_get (k := i) h.plan (toList_get hi)
  simpa using this
theorem Sched.held (h : Sched G ops nid0 S es) {i j : Nat} (hij : i < j) {x y : Oper} (hx : ops[i]? = some x) (hy : ops[j]? = some y) {ex ey : Option Eff} (hex : es[i]? = some ex) (hey : es[j]? = some ey)
    (hc : clash ops x y (trOf ex) (trOf ey) = true ∨ inRange (nid0 + 4 * i) (trOf ey).2 = true) : ((clos ops.toList #[]).getD j 0).testBit i = true := by
  have := h.ord
  unfold orderly at this
  rw [List.all_eq_true] at this
  have hj : j < ops.size := (Array.getElem?_eq_some_iff.1 hy).1
  have := this j (by simpa using hj)
  rw [List.all_eq_true] at this
  have := this i (by simpa using hij)
  rw [hx, hy, List.getElem?_map, List.getElem?_map, hex, hey] at this
  have hc' : (clash ops x y (trOf ex) (trOf ey) || inRange (nid0 + 4 * i) (trOf ey).2) = true := by rw [Bool.or_eq_true]; exact hc
  simp only [Option.map_some, hc', Bool.not_true, Bool.false_or] at this
  exact this
theorem wids_tr (e : Option Eff) : wids e = (trOf e).2 := by cases e <;> rfl
theorem wsOK_mem {nid : Nat} : ∀ {l : List (Nat × Obj)}, wsOK nid l = true → ∀ id, id ∈ l.map (·.1) → id < nid + 4
  | [], _, _, h => by cases h
  | p :: r, h, id, hid => by
    unfold wsOK at h
    split at h
    · rename_i q
      rw [List.map_cons] at hid
      rcases List.mem_cons.1 hid with hid | hid
      · subst hid
        simpa [Nat.blt_eq] using q
      · exact wsOK_mem h id hid
    · cases h
theorem inRange_of {nid id : Nat} : ∀ {l : List Nat}, id ∈ l → nid ≤ id → id < nid + 4 → inRange nid l = true
  | [], h, _, _ => by cases h
  | a :: r, h, h1, h2 => by
    unfold inRange
    split
    · rfl
    · rename_i q
      rcases List.mem_cons.1 h with h | h
      · subst h
        have : (Nat.ble nid id && Nat.blt id (nid + 4)) = true := by rw [Bool.and_eq_true, Nat.ble_eq, Nat.blt_eq]; exact ⟨h1, h2⟩
        rw [this] at q
        cases q
      · exact inRange_of h h1 h2
theorem Sched0.fresh (h : Sched0 G ops nid0 S es) {m : Nat → Bool} {i : Nat} (hi : ∀ k e, es[k]? = some e → i ≤ k → (i < k → inRange (nid0 + 4 * i) (trOf e).2 = true) → m k = false) {j : Nat} (hj : j < 4) : (mst m ops.toList es 0 S).obj (nid0 + 4 * i + j) = none := by
  have h1 := mst_obj (m := m) (m' := fun _ => false) (id := nid0 + 4 * i + j) (l := ops.toList) (es := es) (i := 0) (S := S) (S' := S) rfl (fun k e hk hl hid => by
    rw [Nat.zero_add]
    have hk' := hk
    obtain ⟨e', q1, q2⟩ := h.has (i := k) (o := ops[k]'(by simpa using hl)) (Array.getElem?_eq_getElem (by simpa using hl))
    rw [q1] at hk
    cases hk
    cases e with
    | none => cases hid
    | some e =>
      obtain ⟨_, q3, _⟩ := q2.run e rfl
      have := wsOK_mem q3 _ hid
      exact hi k (some e) hk' (by omega) fun _ => inRange_of hid (by omega) (by omega))
  rw [h1, mst_none (fun _ => rfl)]
  cases hq : S.obj (nid0 + 4 * i + j) with
  | none => rfl
  | some o => have := h.bd _ (by rw [hq]; simp); omega
/-- An operation that is ready: what it looks at is what it would see in its own order. -/
theorem Sched.sees (h : Sched G ops nid0 S es) {m : Nat → Bool} (hd : Down ops m) {j : Nat} (hm : m j = false) {o : Oper} {e : Option Eff} (ho : ops[j]? = some o) (he : es[j]? = some e)
    (hr : ∀ i, ((clos ops.toList #[]).getD j 0).testBit i = true → m i = true) :
    (∀ t, t ∈ looks ops o → (mst m ops.toList es 0 S).get t = (mst (upto j) ops.toList es 0 S).get t) ∧
    (∀ id, id ∈ (trOf e).1 → (mst m ops.toList es 0 S).obj id = (mst (upto j) ops.toList es 0 S).obj id) ∧
    Eqv (mst (fun i => m i || decide (i = j)) ops.toList es 0 S) ((mst m ops.toList es 0 S).doneBy o e) := by
  have key : ∀ k o' e', ops[k]? = some o' → es[k]? = some e' → (k < j → clash ops o' o (trOf e') (trOf e) = true) → (j < k → clash ops o o' (trOf e) (trOf e') = true) → k ≠ j → m k = upto j k := by
    intro k o' e' h1 h2 h3 h4 h5
    unfold upto
    rcases Nat.lt_trichotomy k j with q | q | q
    · rw [hr k (h.held q h1 ho h2 he (.inl (h3 q)))]; simp [q]
    · exact (h5 q).elim
    · have : m k = false := by
        cases hk : m k with
        | false => rfl
        | true => have := hd k hk j (h.held q ho h1 he h2 (.inl (h4 q))); rw [hm] at this; cases this
      rw [this]; simp; omega
  have hmj : m j = upto j j := by rw [hm]; simp [upto]
  have esk : ∀ {k : Nat} {o' : Oper}, ops.toList[k]? = some o' → ops[k]? = some o' ∧ ∃ e', es[k]? = some e' := by
    intro k o' hk
    rw [Array.getElem?_toList] at hk
    obtain ⟨e', q, _⟩ := h.has hk
    exact ⟨hk, e', q⟩
  refine ⟨fun t ht => ?_, fun id hid => ?_, ?_⟩
  · refine mst_get rfl fun k o' hk hdst => ?_
    rw [Nat.zero_add]
    obtain ⟨hk, e', he'⟩ := esk hk
    by_cases hkj : k = j
    · rw [hkj]; exact hmj
    · exact key k o' e' hk he' (fun _ => clash_look hdst ht) (fun _ => clash_back hdst ht) hkj
  · refine mst_obj rfl fun k e' hk hl hw => ?_
    rw [Nat.zero_add]
    have hl' : k < ops.size := by simpa using hl
    rw [wids_tr] at hw
    by_cases hkj : k = j
    · rw [hkj]; exact hmj
    · exact key k _ e' (Array.getElem?_eq_getElem hl') hk (fun _ => clash_ws hw (.inl hid)) (fun _ => clash_rd hw hid) hkj
  · have hstep : mst (upto (j + 1)) ops.toList es 0 S = (mst (upto j) ops.toList es 0 S).doneBy o e := by
      have := mst_step (i := 0) (k := j) (S := S) (toList_get ho) he
      simpa using this
    have hone : ∀ k, k ≠ j → upto j k = upto (j + 1) k := by intro k hk; simp [upto]; omega
    refine ⟨fun t => ?_, fun id => ?_⟩
    · by_cases ht : o.dst = some t
      · have h1 : (mst (fun i => m i || decide (i = j)) ops.toList es 0 S).get t = (mst (upto (j + 1)) ops.toList es 0 S).get t := by
          refine mst_get rfl fun k o' hk hdst => ?_
          rw [Nat.zero_add]
          obtain ⟨hk, e', he'⟩ := esk hk
          by_cases hkj : k = j
          · subst hkj; simp [upto]
          · have := key k o' e' hk he' (fun _ => clash_dst hdst ht) (fun _ => clash_dst ht hdst) hkj
            simp [hkj, this, hone k hkj]
        rw [h1, hstep, get_doneBy, get_doneBy, if_pos ht, if_pos ht]
      · rw [get_doneBy, if_neg ht]
        refine mst_get rfl fun k o' hk hdst => ?_
        rw [Nat.zero_add]
        obtain ⟨hk, e', he'⟩ := esk hk
        by_cases hkj : k = j
        · subst hkj; rw [ho] at hk; cases hk; exact (ht hdst).elim
        · simp [hkj]
    · by_cases hid : id ∈ wids e
      · have h1 : (mst (fun i => m i || decide (i = j)) ops.toList es 0 S).obj id = (mst (upto (j + 1)) ops.toList es 0 S).obj id := by
          refine mst_obj rfl fun k e' hk hl hw => ?_
          rw [Nat.zero_add]
          have hl' : k < ops.size := by simpa using hl
          rw [wids_tr] at hw hid
          by_cases hkj : k = j
          · subst hkj; simp [upto]
          · have := key k _ e' (Array.getElem?_eq_getElem hl') hk (fun _ => clash_ws hw (.inr hid)) (fun _ => clash_ws hid (.inr hw)) hkj
            simp [hkj, this, hone k hkj]
        rw [h1, hstep]
        exact obj_doneBy_mem hid
      · rw [obj_doneBy_ne hid]
        refine mst_obj rfl fun k e' hk hl hw => ?_
        rw [Nat.zero_add]
        by_cases hkj : k = j
        · subst hkj; rw [he] at hk; cases hk; exact (hid hw).elim
        · simp [hkj]
theorem ready_all (h : Sched G ops nid0 S es) {listed : Array Bool} (hs : listed.size = ops.size) (hr : Region.ready .any ops listed = []) : ∀ j, j < ops.size → listed.getD j false = true := by
  intro j
  induction j using Nat.strongRecOn with
  | _ j ih =>
    intro hj
    cases hq : listed.getD j false with
    | true => rfl
    | false =>
      have : j ∈ Region.ready .any ops listed := by
        rw [mem_ready]
        refine ⟨?_, ops[j], Array.getElem?_eq_getElem hj, fun e he hb => ?_⟩
        · simp [Array.getD_eq_getD_getElem?, hs, hj] at hq ⊢
          exact hq
        · rw [binds_any] at hb
          have := forward_spec (k := j) h.fwd (toList_get (Array.getElem?_eq_getElem hj)) e (by simpa using he) hb
          exact ih e.on (by omega) (by omega)
      rw [hr] at this
      cases this
theorem any_ok (hG : GOK C G) (h : Sched G ops nid0 S es) {Q : Exit → Act → World → Prop} (hQ : ∀ E a w, RepE C (fin ops.toList es S) E a w → Q .normal a w) :
    ∀ (fuel : Nat) (listed : Array Bool) (E : Env) (a : Act) (w : World), listed.size = ops.size → unl ops listed ≤ fuel → Down ops (fun i => listed.getD i false) →
      RepE C (mst (fun i => listed.getD i false) ops.toList es 0 S) E a w → wpAny C.P .any ops Q fuel listed a w := by
  have hend : ∀ (listed : Array Bool) (E : Env) (a : Act) (w : World), listed.size = ops.size → RepE C (mst (fun i => listed.getD i false) ops.toList es 0 S) E a w → Region.ready .any ops listed = [] → Q .normal a w := by
    intro listed E a w hs hR hr
    refine hQ E a w ?_
    rw [mst_all] at hR
    · exact hR
    · intro k hk
      rw [Nat.zero_add]
      exact ready_all h hs hr k (by simpa using hk)
  intro fuel
  induction fuel with
  | zero =>
    intro listed E a w hs hu hd hR
    have hr : Region.ready .any ops listed = [] := by
      rw [List.eq_nil_iff_forall_not_mem]
      intro j hj
      rw [mem_ready] at hj
      obtain ⟨h1, o, h2, _⟩ := hj
      have h3 := (Array.getElem?_eq_some_iff.1 h2).1
      have : 0 < unl ops listed := by
        unfold unl
        rw [List.countP_pos_iff]
        exact ⟨j, by simpa using h3, by rw [h1]; rfl⟩
      omega
    exact ⟨hr, hend listed E a w hs hR hr⟩
  | succ fuel ih =>
    intro listed E a w hs hu hd hR
    refine ⟨hend listed E a w hs hR, fun j hj => ?_⟩
    have hj' := hj
    rw [mem_ready] at hj
    obtain ⟨h1, o, h2, h3⟩ := hj
    have hlt := (Array.getElem?_eq_some_iff.1 h2).1
    obtain ⟨e, q1, q2⟩ := h.has h2
    have hm : listed.getD j false = false := by
      simp [Array.getD_eq_getD_getElem?, hs, hlt] at h1 ⊢
      exact h1
    have hr : ∀ i, ((clos ops.toList #[]).getD j 0).testBit i = true → listed.getD i false = true := by
      intro i hi
      rcases clos_spec hi with hi | ⟨k, o', r1, r2, e', r3, r4, r5⟩
      · simp [Array.getD_eq_getD_getElem?] at hi
      · simp at r1
        subst r1
        rw [Array.getElem?_toList, h2] at r2
        cases r2
        have hl := h3 e' (by simpa using r3) (by rw [binds_any]; exact r4)
        rcases r5 with r5 | r5
        · rw [r5]; exact hl
        · exact hd e'.on hl i r5
    obtain ⟨s1, s2, s3⟩ := h.sees (m := fun i => listed.getD i false) hd hm h2 q1 hr
    refine step_ok hG hR (mst_dec h.dec) (fun d hd' => h.fresh (i := j) (fun k e' hk hle hr' => by
      rcases Nat.lt_or_ge j k with hlt' | hge
      · cases hmk : listed.getD k false with
        | false => rfl
        | true =>
          have hks : k < ops.size := by
            have := (List.getElem?_eq_some_iff.1 hk).1
            rw [plan_len h.plan] at this
            simpa using this
          have hjj : listed.getD j false = true := hd k hmk j (h.held hlt' h2 (Array.getElem?_eq_getElem hks) q1 hk (.inr (hr' hlt')))
          rw [hm] at hjj
          cases hjj
      · have : k = j := by omega
        rw [this]; exact hm) hd') h2 q2 s1 (fun e' he id hid => s2 id (by rw [he]; exact hid)) (fun E' a' w' hR' => ?_)
    have hset : ∀ i, (listed.setIfInBounds j true).getD i false = (listed.getD i false || decide (i = j)) := by
      intro i
      by_cases hij : i = j
      · subst hij; simp [Array.getD_eq_getD_getElem?, hs, hlt]
      · rw [getD_set_ne false (Ne.symm hij)]; simp [hij]
    refine ih _ E' a' w' (by simpa using hs) ?_ ?_ ?_
    · have : unl ops (listed.setIfInBounds j true) < unl ops listed := by
        unfold unl
        refine countP_lt (i := j) (fun x hx => ?_) (by simpa using hlt) (by rw [h1]; rfl) ?_
        · by_cases hxj : x = j
          · subst hxj; rw [h1]; rfl
          · rwa [getD_set_ne true (Ne.symm hxj)] at hx
        · simp [Array.getD_eq_getD_getElem?, hs, hlt]
      omega
    · intro k hk i hi
      have hk' : (listed.setIfInBounds j true).getD k false = true := hk
      show (listed.setIfInBounds j true).getD i false = true
      rw [hset] at hk' ⊢
      by_cases hkj : k = j
      · subst hkj; rw [hr i hi]; rfl
      · have hl : listed.getD k false = true := by simpa [hkj] using hk'
        rw [show listed.getD i false = true from hd k hl i hi]; rfl
    · rw [show (fun i => (listed.setIfInBounds j true).getD i false) = fun i => listed.getD i false || decide (i = j) from funext hset]
      exact hR'.eqv s3.symm
def Bd (S : AS) : Prop := ∀ id, S.obj id ≠ none → id < S.nx
theorem seq_ok (hG : GOK C G) (h : Sched0 G ops nid0 S es) {Q : Exit → Act → World → Prop} (hQ : ∀ E a w, RepE C (fin ops.toList es S) E a w → Q .normal a w) :
    ∀ (n k : Nat) (E : Env) (a : Act) (w : World), k + n = ops.size → RepE C (mst (upto k) ops.toList es 0 S) E a w → wpOps C.P ops Q (List.range' k n) a w
  | 0, k, E, a, w, hk, hR => by
    rw [mst_all (fun i hi => by simp [upto]; simp at hi; omega)] at hR
    exact hQ E a w hR
  | n + 1, k, E, a, w, hk, hR => by
    rw [List.range'_succ, wpOps_cons]
    have hlt : k < ops.size := by omega
    obtain ⟨e, q1, q2⟩ := h.has (Array.getElem?_eq_getElem hlt)
    refine step_ok hG hR (mst_dec h.dec) (fun d hd' => h.fresh (fun k' e' _ hle _ => by simp [upto]; omega) hd') (Array.getElem?_eq_getElem hlt) q2 (fun _ _ => rfl) (fun _ _ _ _ => rfl) (fun E' a' w' hR' => ?_)
    refine seq_ok hG h hQ n (k + 1) E' a' w' (by omega) ?_
    have := mst_step (i := 0) (k := k) (S := S) (toList_get (Array.getElem?_eq_getElem hlt)) q1
    rw [Nat.zero_add] at this
    rw [this]
    exact hR'
theorem region_ok (hG : GOK C G) (hmix : C.P.follows .mixedOrders = true) (hd : DecOK S) (hb : Bd S) (h : RepE C S E a w) {draw : Bool} {id : Nat} {Q' : AS → Prop} (hs : (evRegion G ops draw S).sat Q')
    {Q : Exit → Act → World → Prop} (hQ : ∀ S' E a w, Q' S' → DecOK S' → Bd S' → RepE C S' E a w → Q .normal a w) : (Code.region id ops draw).wp C.P Q a w := by
  unfold evRegion at hs
  obtain ⟨es, S', p1, p2, p3, p4, p5, p6⟩ := evOps_plan (sat_bnd hs) (show DecOK { S with nx := S.nx + 4 * ops.size } from hd)
  have hE0 : Eqv { S with nx := S.nx + 4 * ops.size } { S with dec := [] } := ⟨fun _ => rfl, fun _ => rfl⟩
  have hE1 : Eqv S { S with dec := [] } := ⟨fun _ => rfl, fun _ => rfl⟩
  have s0 : Sched0 G ops S.nx { S with dec := [] } es := ⟨rfl, hb, p2.eqv hE0⟩
  have hfin : Eqv S' (fin ops.toList es { S with dec := [] }) := p4.trans (fin_eqv hE0)
  have hB : Bd S' := by
    intro i hi
    rw [p6]
    show i < S.nx + 4 * ops.size
    rcases Nat.lt_or_ge i (S.nx + 4 * ops.size) with q | q
    · exact q
    · exfalso
      apply hi
      rw [hfin.o, ← mst_all (m := fun _ => true) (i := 0) (fun _ _ => rfl)]
      have h1 := mst_obj (m := fun _ => true) (m' := fun _ => false) (id := i) (l := ops.toList) (es := es) (i := 0) (S := { S with dec := [] }) (S' := { S with dec := [] }) rfl (fun k e hk hl hid => by
        exfalso
        have hl' : k < ops.size := by simpa using hl
        obtain ⟨e', q1, q2⟩ := s0.has (i := k) (Array.getElem?_eq_getElem hl')
        rw [q1] at hk
        cases hk
        cases e with
        | none => cases hid
        | some e =>
          obtain ⟨_, q3, _⟩ := q2.run e rfl
          have := wsOK_mem q3 _ hid
          omega)
      rw [h1, mst_none (fun _ => rfl)]
      cases hq : AS.obj { S with dec := [] } i with
      | none => rfl
      | some o => have := hb i (by rw [show S.obj i = some o from hq]; simp); omega
  cases draw with
  | false =>
    refine wp_region ?_
    rw [List.range_eq_range']
    refine seq_ok hG s0 (fun E a w hR => hQ S' E a w p3 p5 hB (hR.eqv hfin.symm)) ops.size 0 E a w (by omega) ?_
    rw [mst_none (fun _ => by simp [upto])]
    exact h.eqv hE1
  | true =>
    simp only at p3
    split at p3
    · rename_i hc
      rw [Bool.and_eq_true] at hc
      simp only [List.append_nil, List.reverse_reverse] at hc
      have s1 : Sched G ops S.nx { S with dec := [] } es := { s0 with fwd := hc.1, ord := hc.2 }
      refine wp_region_any hmix ?_
      refine any_ok hG s1 (fun E a w hR => hQ S' E a w p3 p5 hB (hR.eqv hfin.symm)) ops.size _ E a _ (by simp) ?_ ?_ ?_
      · unfold unl
        exact Nat.le_trans List.countP_le_length (by simp)
      · intro j hj
        simp [Array.getD_eq_getD_getElem?, Array.getElem?_replicate] at hj
        split at hj <;> simp at hj
      · rw [mst_none (fun k => by
          simp [Array.getD_eq_getD_getElem?, Array.getElem?_replicate]
          split <;> rfl)]
        exact (h.eqv hE1).heap rfl ⟨Nat.le_refl _, rfl, rfl, fun _ => rfl⟩
    · cases p3
end
end Go.Rx
