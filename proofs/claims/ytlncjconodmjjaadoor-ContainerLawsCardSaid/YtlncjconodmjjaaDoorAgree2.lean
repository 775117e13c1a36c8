/- Rx, part 16: a call comes to the same where the same objects stand; all operations together. -/
import Derived.Test.YtlncjconodmjjaaDoorAgree
import Derived.Test.YtlncjconodmjjaaDoorCopy
namespace Go.Rx
set_option linter.unusedVariables false
set_option linter.unusedSimpArgs false
section
variable {S S' : AS} {G : Gl} {e : Eff}
theorem handCells_agree : ∀ {l as : List AV} {vis : List Nat}, handOver.handCells S l = some (as, vis) → (∀ id, id ∈ vis → S'.obj id = S.obj id) → handOver.handCells S' l = some (as, vis)
  | [], _, _, h, _ => h
  | v :: l, as, vis, h, ho => by
    have gen : (match handOver.handCells S l with | some (l, vis) => some (v :: l, vis) | none => none) = some (as, vis) → (match handOver.handCells S' l with | some (l, vis) => some (v :: l, vis) | none => none) = some (as, vis) := by
      intro q
      split at q
      · rename_i l' vis' hl
        cases q
        rw [handCells_agree hl ho]
      · cases q
    cases v <;> first | exact gen h | skip
    rename_i id
    simp only [handOver.handCells] at h ⊢
    split at h
    · rename_i l' vis' hl
      split at h
      · rename_i e1 et xs hob
        cases h
        rw [handCells_agree hl (fun i hi => ho i (by simp [hi]))]
        simp only
        rw [ho id (by simp), hob]
      · rename_i e1 xs hob
        cases h
        rw [handCells_agree hl (fun i hi => ho i (by simp [hi]))]
        simp only
        rw [ho id (by simp), hob]
      · cases h
    · cases h
theorem handOver_agree : ∀ {m : List Bool} {l as : List AV} {vis : List Nat}, handOver S m l = some (as, vis) → (∀ id, id ∈ vis → S'.obj id = S.obj id) → handOver S' m l = some (as, vis)
  | [], l, as, vis, h, _ => by
    have e1 : ∀ S : AS, handOver S [] l = some (l, []) := fun S => by cases l <;> rfl
    rw [e1] at h ⊢
    exact h
  | b :: m, [], as, vis, h, _ => by
    have e1 : ∀ S : AS, handOver S (b :: m) [] = some ([], []) := fun S => by cases b <;> rfl
    rw [e1] at h ⊢
    exact h
  | b :: m, v :: l, as, vis, h, ho => by
    have gen : (match handOver S m l with | some (l, vis) => some (v :: l, vis) | none => none) = some (as, vis) → (match handOver S' m l with | some (l, vis) => some (v :: l, vis) | none => none) = some (as, vis) := by
      intro q
      split at q
      · rename_i l' vis' hl
        cases q
        rw [handOver_agree hl ho]
      · cases q
    cases b with
    | false =>
      have h1 : (match handOver S m l with | some (l, vis) => some (v :: l, vis) | none => none) = some (as, vis) := by cases v <;> exact h
      have := gen h1
      cases v <;> exact this
    | true =>
      cases v <;> first | exact gen h | skip
      · rename_i id
        simp only [handOver] at h ⊢
        split at h
        · rename_i l' vis' hl
          split at h
          · rename_i e1 et xs hob
            cases h
            rw [handOver_agree hl (fun i hi => ho i (by simp [hi]))]
            simp only
            rw [ho id (by simp), hob]
          · rename_i e1 xs hob
            cases h
            rw [handOver_agree hl (fun i hi => ho i (by simp [hi]))]
            simp only
            rw [ho id (by simp), hob]
          · cases h
        · cases h
      · rename_i cs
        simp only [handOver] at h ⊢
        split at h
        · rename_i c v1 l' v2 hc hl
          cases h
          rw [handCells_agree hc (fun i hi => ho i (by simp [hi])), handOver_agree hl (fun i hi => ho i (by simp [hi]))]
        · cases h
theorem reach_sub : ∀ {n : Nat} {acc l : List Nat} (id : Nat), id ∈ acc → id ∈ reach S n acc l
  | 0, _, _, _, h => by simpa [reach] using h
  | n + 1, acc, [], _, h => by simpa [reach] using h
  | n + 1, acc, a :: r, id, h => by
    simp only [reach]
    split
    · exact reach_sub id h
    · split
      · exact reach_sub id (by simp [h])
      · exact reach_sub id (by simp [h])
theorem reach_agree : ∀ {n : Nat} {acc l : List Nat}, (∀ id, id ∈ reach S n acc l → S'.obj id = S.obj id) → reach S' n acc l = reach S n acc l
  | 0, _, _, _ => by simp [reach]
  | n + 1, acc, [], _ => by simp [reach]
  | n + 1, acc, a :: r, ho => by
    simp only [reach] at ho ⊢
    split at ho
    · rename_i h1
      exact reach_agree ho
    · rename_i h1
      have ha : S'.obj a = S.obj a := by
        refine ho a ?_
        split
        · exact reach_sub a (by simp)
        · exact reach_sub a (by simp)
      rw [ha]
      split at ho
      · exact reach_agree ho
      · exact reach_agree ho
theorem objsOf_agree : ∀ {ids : List Nat}, (∀ id, id ∈ ids → S'.obj id = S.obj id) → objsOf S' ids = objsOf S ids
  | [], _ => rfl
  | a :: r, ho => by simp only [objsOf, ho a (by simp), objsOf_agree (ids := r) (fun id hi => ho id (by simp [hi]))]
theorem anyEntry_agree {m : Nat} {H : List (Nat × Obj)} : ∀ {ids : List Nat} {k : Nat}, (∀ id, id ∈ ids → S'.obj id = S.obj id) → anyEntry m S' H k ids = anyEntry m S H k ids
  | [], _, _ => rfl
  | a :: r, k, ho => by simp only [anyEntry, entry, ho a (by simp), anyEntry_agree (ids := r) (fun id hi => ho id (by simp [hi]))]
theorem evCall_agree {nid : Nat} {f : AV} {args : List AV} (h : (evCall G S nid f args).sat (· = e)) (ho : ∀ id, id ∈ e.rd → S'.obj id = S.obj id) : (evCall G S' nid f args).sat (· = e) := by
  unfold evCall at h ⊢
  split at h
  case h_2 => cases h
  rename_i f1 first caps
  split at h
  · cases h
  rename_i as vis hhand
  simp only at h
  split at h
  case h_2 => cases h
  rename_i os hos hdisj hnd hsub
  split at h
  case h_2 => cases h
  rename_i cs hin hcs
  obtain ⟨r, hr, h⟩ := h
  simp only at h
  split at h
  case h_2 => cases h
  rename_i hk
  cases h
  simp only at ho ⊢
  rw [handOver_agree hhand (fun i hi => ho i (by simp [hi]))]
  simp only
  have hre : reach S' 64 [] (refsL as) = reach S 64 [] (refsL as) := reach_agree (fun id hi => ho id (by simp [hi]))
  rw [hre, objsOf_agree (fun id hi => ho id (by simp [hi])), hos, hdisj, hnd, hsub]
  simp only
  rw [hin, hcs]
  simp only
  refine ⟨r, hr, ?_⟩
  simp only
  rw [hk]
  simp only
  rw [anyEntry_agree (fun id hi => ho id (by simp [hi])), frz_agree (fun id hi => ho id (by simp [hi]))]
  rfl

theorem parts_agree {l : List (Nat × Operand)} (h : ∀ p, p ∈ l → S'.ev p.2 = S.ev p.2) : (l.map fun p => (p.1, S'.ev p.2)) = l.map fun p => (p.1, S.ev p.2) :=
  List.map_congr_left (fun p hp => by rw [h p hp])
theorem evs_agree {l : List Operand} (h : ∀ x, x ∈ l → S'.ev x = S.ev x) : l.map S'.ev = l.map S.ev := List.map_congr_left h
theorem ev_agree {x : Operand} (h : ∀ t, x = .tmp t → S'.get t = S.get t) : S'.ev x = S.ev x := by
  cases x <;> first | rfl | exact h _ rfl
end
theorem ofConst_bool {v : Value} {b : Bool} (h : ofConst v = .bool b) : v = .bool b := by
  unfold ofConst at h
  split at h
  · cases h
  · cases h
  · unfold ofLeaf at h
    split at h <;> first | (cases h; done) | (cases h; rfl)
theorem withTy_agree {G : Gl} {t : TypeId} {k k' : TI → Tree Eff} {e : Eff} (h : (withTy G t k).sat (· = e)) (hk : ∀ ti, G.ty t = some ti → (k ti).sat (· = e) → (k' ti).sat (· = e)) : (withTy G t k').sat (· = e) := by
  unfold withTy at h ⊢
  split at h
  · rename_i ti hti
    exact hk ti hti h
  · cases h
/-- The same elsewhere, but for what was known as decided. -/
theorem op_agree {S S' : AS} {G : Gl} {nid : Nat} {op : Op} {e : Eff} (hd : DecOK S) (hd' : DecOK S') (h : (evOp G S nid op).sat (· = e)) (ht : ∀ x, x ∈ op.operands → S'.ev x = S.ev x) (ho : ∀ id, id ∈ e.rd → S'.obj id = S.obj id) :
    ∃ e', (evOp G S' nid op).sat (· = e') ∧ e'.v = e.v ∧ e'.ws = e.ws := by
  cases op with
  | pick c x y =>
    simp only [evOp] at h ⊢
    obtain ⟨b, dec, h1, h2, h3⟩ := withBool_sat hd h
    cases h1
    have hc : S'.ev c = .bool b := by rw [ht c (by simp [Op.operands]), h2]
    have hx : S'.ev x = S.ev x := ht x (by simp [Op.operands])
    have hy : S'.ev y = S.ev y := ht y (by simp [Op.operands])
    unfold withBool
    split
    · rename_i b'
      have : b' = b := by simpa [AS.ev, ofConst, ofLeaf] using hc
      subst this
      exact ⟨_, rfl, by cases b' <;> simp [hx, hy], rfl⟩
    · rename_i t
      split
      · rename_i c' hc'
        have h4 : S'.get t = .bool c' := hd' _ (look_mem hc')
        have : c' = b := by
          have h5 : S'.get t = .bool b := hc
          rw [h4] at h5
          cases h5
          rfl
        subst this
        exact ⟨_, rfl, by cases c' <;> simp [hx, hy], rfl⟩
      · have h5 : S'.get t = .bool b := hc
        rw [h5]
        simp only
        cases b with
        | true => exact ⟨_, .inl ⟨rfl, rfl⟩, by simp [hx], rfl⟩
        | false => exact ⟨_, .inr ⟨rfl, rfl⟩, by simp [hy], rfl⟩
    · rename_i hn1 hn2
      exfalso
      cases c with
      | tmp t => exact hn2 t rfl
      | const v => exact hn1 b (by rw [ofConst_bool hc])
      | global g => simp [AS.ev] at hc
      | func f => simp [AS.ev] at hc
  | move x => simp only [evOp] at h ⊢; rw [ht x (by simp [Op.operands])]; exact ⟨e, h, rfl, rfl⟩
  | assign x => simp only [evOp] at h ⊢; rw [ht x (by simp [Op.operands])]; exact ⟨e, h, rfl, rfl⟩
  | alloc t => exact ⟨e, h, rfl, rfl⟩
  | box t x =>
    simp only [evOp] at h ⊢
    refine ⟨e, withTy_agree h (fun ti _ q => ?_), rfl, rfl⟩
    rw [ht x (by simp [Op.operands])]
    unfold evBox at q ⊢
    split at q
    · exact q
    · split at q
      · exact newObj_agree q ho
      · cases q
  | build t parts =>
    simp only [evOp] at h ⊢
    rw [parts_agree (fun p hp => ht p.2 (by simp only [Op.operands, List.mem_toArray, Array.mem_def]; simpa using ⟨p.1, by simpa using hp⟩))]
    exact ⟨e, h, rfl, rfl⟩
  | buildSlice t n parts =>
    simp only [evOp] at h ⊢
    rw [parts_agree (fun p hp => ht p.2 (by simp only [Op.operands, List.mem_toArray, Array.mem_def]; simpa using ⟨p.1, by simpa using hp⟩))]
    exact ⟨e, withTy_agree h (fun ti _ q => evBuildSlice_agree q ho), rfl, rfl⟩
  | load t x =>
    simp only [evOp] at h ⊢
    rw [ht x (by simp [Op.operands])]
    exact ⟨e, withTy_agree h (fun ti _ q => evLoad_agree q ho), rfl, rfl⟩
  | store t x y =>
    simp only [evOp] at h ⊢
    rw [ht x (by simp [Op.operands]), ht y (by simp [Op.operands])]
    refine ⟨e, withTy_agree h (fun ti _ q => ?_), rfl, rfl⟩
    split at q
    · rename_i hq
      try simp only [hq]
      exact evStoreArr_agree q ho
    · exact evStore_agree q ho
  | nilCheck x => simp only [evOp] at h ⊢; rw [ht x (by simp [Op.operands])]; exact ⟨e, h, rfl, rfl⟩
  | binOp op t x y t' => simp only [evOp] at h ⊢; rw [ht x (by simp [Op.operands]), ht y (by simp [Op.operands])]; exact ⟨e, h, rfl, rfl⟩
  | unOp op t x => simp only [evOp] at h ⊢; rw [ht x (by simp [Op.operands])]; exact ⟨e, h, rfl, rfl⟩
  | convert s d x => simp only [evOp] at h ⊢; rw [ht x (by simp [Op.operands])]; exact ⟨e, h, rfl, rfl⟩
  | makeFunc f first caps =>
    cases f <;> first | exact h.elim | skip
    simp only [evOp] at h ⊢
    rw [evs_agree (fun x hx => ht x (by simp [Op.operands]; exact .inl (by simpa using hx))), evs_agree (fun x hx => ht x (by simp [Op.operands]; exact .inr (by simpa using hx)))]
    exact ⟨e, h, rfl, rfl⟩
  | makeSlice t x y => simp only [evOp] at h ⊢; rw [ht x (by simp [Op.operands]), ht y (by simp [Op.operands])]; exact ⟨e, h, rfl, rfl⟩
  | slice t x lo hi mx =>
    cases mx with
    | some m => exact h.elim
    | none =>
      simp only [evOp] at h ⊢
      have hl : lo.map S'.ev = lo.map S.ev := by cases lo with | none => rfl | some y => simp [ht y (by simp [Op.operands])]
      have hh : hi.map S'.ev = hi.map S.ev := by cases hi with | none => rfl | some y => simp [ht y (by simp [Op.operands])]
      rw [ht x (by simp [Op.operands]), hl, hh]
      exact ⟨e, withTy_agree h (fun ti _ q => evSlice2_agree q ho), rfl, rfl⟩
  | fieldAddr t x f => simp only [evOp] at h ⊢; rw [ht x (by simp [Op.operands])]; exact ⟨e, h, rfl, rfl⟩
  | field t x f => simp only [evOp] at h ⊢; rw [ht x (by simp [Op.operands])]; exact ⟨e, h, rfl, rfl⟩
  | indexAddr t x y =>
    simp only [evOp] at h ⊢
    rw [ht x (by simp [Op.operands]), ht y (by simp [Op.operands])]
    exact ⟨e, withTy_agree h (fun ti _ q => evIndexAddr_agree q ho), rfl, rfl⟩
  | index t x y => simp only [evOp] at h ⊢; rw [ht x (by simp [Op.operands]), ht y (by simp [Op.operands])]; exact ⟨e, h, rfl, rfl⟩
  | extract x i => simp only [evOp] at h ⊢; rw [ht x (by simp [Op.operands])]; exact ⟨e, h, rfl, rfl⟩
  | call c =>
    obtain ⟨callee, args, ats⟩ := c
    have hargs : args.toList.map S'.ev = args.toList.map S.ev := evs_agree (fun x hx => ht x (by simp [Op.operands, Call.operands]; exact .inr (by simpa using hx)))
    cases callee with
    | invoke r m => exact h.elim
    | value f =>
      simp only [evOp] at h ⊢
      rw [hargs, ht f (by simp [Op.operands, Call.operands])]
      exact ⟨e, evCall_agree h ho, rfl, rfl⟩
    | builtin b =>
      simp only [evOp] at h ⊢
      rw [hargs]
      refine ⟨e, ?_, rfl, rfl⟩
      unfold evBuiltin at h ⊢
      split at h
      · split at h
        · refine withTy_agree h (fun ti _ q => ?_)
          split at q
          · rename_i n rd hl
            cases q
            rw [lenAV_agree hl ho]
            rfl
          · cases q
        · cases h
      · split at h
        · split at h
          · exact evAppend_agree h ho
          · cases h
        · cases h
      · split at h
        · exact evClear_agree h ho
        · cases h
      · split at h
        · split at h
          · exact evCopy_agree h ho
          · cases h
        · cases h
      · exact h
      · exact h
      · cases h
  | _ => exact h.elim

section
variable {C : Ctx} {S : AS} {E : Env} {a : Act} {w : World} {G : Gl}
theorem op_ok (hG : GOK C G) (hd : DecOK S) (h : RepE C S E a w) {nid : Nat} (hn : ∀ j, j < 4 → S.obj (nid + j) = none) {o : Oper} {e : Eff} (he : (evOp G S nid o.op).sat (· = e)) : OpWP C S a w o e := by
  have hn0 : S.obj nid = none := by simpa using hn 0 (by omega)
  cases ho : o.op with
  | move x => rw [ho] at he; cases he; exact move_ok h (.inl ho)
  | assign x => rw [ho] at he; cases he; exact move_ok h (.inr ho)
  | pick c x y =>
    rw [ho] at he
    simp only [evOp] at he
    obtain ⟨b, dec, h1, h2, h3⟩ := withBool_sat hd he
    cases h1
    have hc := h.ev c
    rw [h2] at hc
    simp only [RepV] at hc
    cases b with
    | true => exact pick_ok h ho (b := true) hc
    | false => exact pick_ok h ho (b := false) hc
  | alloc t => rw [ho] at he; obtain ⟨ti, h1, h2⟩ := withTy_sat he; exact alloc_ok hG.ty h hn0 (hG.ty _ _ h1) ho h2
  | box t x =>
    rw [ho] at he
    obtain ⟨ti, h1, h2⟩ := withTy_sat he
    exact evBox_ok hG.m h hn0 ho h2
  | build t parts => rw [ho] at he; obtain ⟨ti, h1, h2⟩ := withTy_sat he; exact build_ok hG.ty h (hG.ty _ _ h1) ho h2
  | buildSlice t n parts => rw [ho] at he; obtain ⟨ti, h1, h2⟩ := withTy_sat he; exact buildSlice_ok hG.m hG.ty h hn0 (hG.ty _ _ h1) ho h2
  | load t x => rw [ho] at he; obtain ⟨ti, h1, h2⟩ := withTy_sat he; exact load_ok h (hG.ty _ _ h1) ho h2
  | store t x y =>
    rw [ho] at he
    obtain ⟨ti, h1, h2⟩ := withTy_sat he
    split at h2
    · rename_i hq
      exact storeArr_ok hG.m h (hG.ty _ _ h1) ho h2
    · exact store_ok hG.m h (hG.ty _ _ h1) ho h2
  | nilCheck x => rw [ho] at he; exact nilCheck_ok h ho G nid he
  | binOp op t x y t' => rw [ho] at he; obtain ⟨ti, h1, h2⟩ := withTy_sat he; exact bin_ok h (hG.ty _ _ h1) ho h2
  | unOp op t x => rw [ho] at he; exact un_ok h ho he
  | convert s d x =>
    rw [ho] at he
    obtain ⟨ts, h1, h2⟩ := withTy_sat he
    obtain ⟨td, h3, h4⟩ := withTy_sat h2
    exact conv_ok h (hG.ty _ _ h1) (hG.ty _ _ h3) ho h4
  | makeFunc f first caps =>
    rw [ho] at he
    cases f <;> first | exact he.elim | skip
    cases he
    exact makeFunc_ok h ho
  | makeSlice t x y => rw [ho] at he; obtain ⟨ti, h1, h2⟩ := withTy_sat he; exact makeSlice_ok hG.ty h hn0 (hG.ty _ _ h1) ho h2
  | slice t x lo hi mx =>
    rw [ho] at he
    cases mx with
    | some m => exact he.elim
    | none => obtain ⟨ti, h1, h2⟩ := withTy_sat he; exact slice2_ok hG.ty h (hG.ty _ _ h1) hn0 ho h2
  | fieldAddr t x f => rw [ho] at he; obtain ⟨ti, h1, h2⟩ := withTy_sat he; exact fieldAddr_ok hG.ty h (hG.ty _ _ h1) ho h2
  | field t x f => rw [ho] at he; obtain ⟨ti, h1, h2⟩ := withTy_sat he; exact field_ok hG.ty h (hG.ty _ _ h1) ho h2
  | indexAddr t x y => rw [ho] at he; obtain ⟨ti, h1, h2⟩ := withTy_sat he; exact indexAddr_ok hG.gl hG.ty h (hG.ty _ _ h1) ho h2
  | index t x y => rw [ho] at he; obtain ⟨ti, h1, h2⟩ := withTy_sat he; exact index_ok hG.ty h (hG.ty _ _ h1) ho h2
  | extract x i => rw [ho] at he; exact extract_ok (G := G) h ho nid he
  | call c =>
    obtain ⟨callee, args, ats⟩ := c
    rw [ho] at he
    cases callee with
    | invoke r m => exact he.elim
    | value f => exact call_ok hG.calls hG.m h hn ho he
    | builtin b =>
      simp only [evOp] at he
      unfold evBuiltin at he
      split at he
      · rename_i v hargs
        obtain ⟨x, hx, hx2⟩ : ∃ x, args = #[x] ∧ S.ev x = v := by
          match args, hargs with
          | ⟨[x]⟩, hargs => exact ⟨x, rfl, by simpa using hargs⟩
        subst hx
        split at he
        · rename_i t hats
          have hats : ats = #[t] := Array.ext' (by simpa using hats)
          subst hats
          obtain ⟨ti, h1, h2⟩ := withTy_sat he
          split at h2
          · rename_i n rd hl
            cases h2
            rw [← hx2] at hl
            exact len_ok h (hG.ty _ _ h1) ho hl
          · cases h2
        · cases he
      · rename_i s x hargs
        obtain ⟨x1, x2, hx, hx1, hx2⟩ : ∃ x1 x2, args = #[x1, x2] ∧ S.ev x1 = s ∧ S.ev x2 = x := by
          match args, hargs with
          | ⟨[x1, x2]⟩, hargs => exact ⟨x1, x2, rfl, by simpa using hargs⟩
        subst hx
        split at he
        · rename_i t t' hats
          split at he
          · rename_i hb
            have hb := Nat.eq_of_beq_eq_true hb
            subst hb
            have hats : ats = #[t, t] := Array.ext' (by simpa using hats)
            subst hats
            rw [← hx1, ← hx2] at he
            exact append_ok hG.ty h hn0 ho he
          · cases he
        · cases he
      · rename_i v hargs
        obtain ⟨x, hx, hx2⟩ : ∃ x, args = #[x] ∧ S.ev x = v := by
          match args, hargs with
          | ⟨[x]⟩, hargs => exact ⟨x, rfl, by simpa using hargs⟩
        subst hx
        split at he
        · rename_i t hats
          have hats : ats = #[t] := Array.ext' (by simpa using hats)
          subst hats
          rw [← hx2] at he
          exact clear_ok hG.ty h ho he
        · cases he
      · rename_i s x hargs
        obtain ⟨x1, x2, hx, hx1, hx2⟩ : ∃ x1 x2, args = #[x1, x2] ∧ S.ev x1 = s ∧ S.ev x2 = x := by
          match args, hargs with
          | ⟨[x1, x2]⟩, hargs => exact ⟨x1, x2, rfl, by simpa using hargs⟩
        subst hx
        split at he
        · rename_i t t' hats
          split at he
          · rename_i hb
            have hb := Nat.eq_of_beq_eq_true hb
            subst hb
            have hats : ats = #[t, t] := Array.ext' (by simpa using hats)
            subst hats
            rw [← hx1, ← hx2] at he
            exact copy_ok hG.ty h ho he
          · cases he
        · cases he
      · split at he
        · rename_i v hv
          cases he
          exact minmax_ok (mx := false) h ho hv
        · cases he
      · split at he
        · rename_i v hv
          cases he
          exact minmax_ok (mx := true) h ho hv
        · cases he
      · cases he
  | _ => rw [ho] at he; exact he.elim
end
end Go.Rx
