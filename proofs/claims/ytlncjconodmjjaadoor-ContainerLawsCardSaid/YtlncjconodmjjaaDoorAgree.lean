/- Rx, part 15: each operation, in one lemma; it comes to the same wherever what it looks at is the same. -/
import Derived.Test.YtlncjconodmjjaaDoorCall2
namespace Go.Rx
set_option linter.unusedVariables false
set_option linter.unusedSimpArgs false
def DecOK (S : AS) : Prop := ∀ p, p ∈ S.dec → S.get p.1 = .bool p.2
structure GOK (C : Ctx) (G : Gl) : Prop where
  m : G.m = C.m
  n : G.n = C.N
  gl : G.gl = C.gl
  ty : TyOK C.P G
  calls : CallsOK C.P C.gl G
theorem look_mem {α : Type} : ∀ {l : List (Nat × α)} {n : Nat} {v : α}, look l n = some v → (n, v) ∈ l
  | [], _, _, h => by cases h
  | p :: l, n, v, h => by
    obtain ⟨k, u⟩ := p
    rw [look_cons] at h
    split at h
    · rename_i e; cases h; rw [e]; simp
    · exact List.mem_cons_of_mem _ (look_mem h)
theorem withBool_sat {α : Type} {S : AS} (hd : DecOK S) {x : Operand} {k : Bool → List (Nat × Bool) → Tree α} {Q : α → Prop} (h : (withBool S x k).sat Q) :
    ∃ b dec, (k b dec).sat Q ∧ S.ev x = .bool b ∧ ∀ p, p ∈ dec → S.get p.1 = .bool p.2 ∧ x = .tmp p.1 := by
  unfold withBool at h
  split at h
  · exact ⟨_, [], h, rfl, fun p hp => by cases hp⟩
  · rename_i t
    split at h
    · rename_i c hc
      exact ⟨c, [], h, hd _ (look_mem hc), fun p hp => by cases hp⟩
    · split at h
      · rename_i b hb
        rcases h with ⟨h1, h2⟩ | ⟨h1, h2⟩
        · exact ⟨true, _, h2, by show S.get t = _; rw [hb, h1], fun p hp => by simp at hp; subst hp; exact ⟨by show S.get t = _; rw [hb, h1], rfl⟩⟩
        · exact ⟨false, _, h2, by show S.get t = _; rw [hb, h1], fun p hp => by simp at hp; subst hp; exact ⟨by show S.get t = _; rw [hb, h1], rfl⟩⟩
      · cases h
  · cases h
theorem withTy_sat {G : Gl} {t : TypeId} {k : TI → Tree Eff} {Q : Eff → Prop} (h : (withTy G t k).sat Q) : ∃ ti, G.ty t = some ti ∧ (k ti).sat Q := by
  unfold withTy at h
  split at h
  · exact ⟨_, by assumption, h⟩
  · cases h
theorem fillAV_len (p : Nat → Option (Nat × Nat)) : True := trivial

/-! ### The same elsewhere -/
section
variable {S S' : AS} {G : Gl} {e : Eff}
theorem frz_agree {h h' : Nat → Option Obj} : ∀ {vis : List Nat}, (∀ id, id ∈ vis → h' id = h id) → frz h' vis = frz h vis
  | [], _ => rfl
  | v :: r, hv => by
    have := frz_agree (vis := r) (fun id hi => hv id (by simp [hi]))
    simp only [frz, hv v (by simp), this]
theorem dataAll_agree {m : Nat} {h h' : Nat → Option Obj} {t : Sh} {l : List AV} {d : DC t} (q : dataAll m h t l = some d) (hv : ∀ id, id ∈ d.vis → h' id = h id) : dataAll m h' t l = some d := by
  unfold dataAll at q ⊢
  split at q
  · rename_i x vis hd
    cases q
    rw [data_agree t l _ hd hv]
  · cases q
theorem evLoad_agree {ti : TI} {v : AV} (h : (evLoad S ti v).sat (· = e)) (ho : ∀ id, id ∈ e.rd → S'.obj id = S.obj id) : (evLoad S' ti v).sat (· = e) := by
  cases v <;> first | exact h | skip
  · rename_i id off
    have key : id ∈ e.rd := by
      simp only [evLoad] at h
      split at h
      · split at h
        · cases h; simp
        · cases h
      · cases h
    simp only [evLoad] at h ⊢
    rw [ho id key]
    exact h
  · rename_i id sz i off
    have key : id ∈ e.rd := by
      simp only [evLoad] at h
      split at h
      all_goals first
        | (split at h
           · cases h; simp
           · cases h)
        | cases h
    simp only [evLoad] at h ⊢
    rw [ho id key]
    exact h
theorem evStore_agree {m : Nat} {ti : TI} {a v : AV} (h : (evStore m S ti a v).sat (· = e)) (ho : ∀ id, id ∈ e.rd → S'.obj id = S.obj id) : (evStore m S' ti a v).sat (· = e) := by
  unfold evStore at h ⊢
  split at h
  case h_2 => cases h
  cases a <;> first | exact h | skip
  · rename_i id off
    simp only at h ⊢
    split at h
    · rename_i cs hob
      split at h
      · rename_i hle
        cases h
        rw [ho id (by simp), hob]
        simp only [hle]
        rfl
      · cases h
    · cases h
  · rename_i id sz i off
    simp only at h ⊢
    split at h
    · rename_i en e1 et xs hob
      split at h
      · rename_i d hb hle hd
        split at h
        · rename_i hvis
          cases h
          rw [ho id (by simp), hob]
          simp only
          rw [hb, hle, dataAll_agree hd (fun i hi => ho i (by simp [hi]))]
          simp only
          rw [hvis]
          simp only
          rw [frz_agree (fun i hi => ho i (by simp [hi]))]
          rfl
        · cases h
      · cases h
    · rename_i e1 xs hob
      split at h
      · rename_i d hb hle hd
        split at h
        · rename_i hvis
          cases h
          rw [ho id (by simp), hob]
          simp only
          rw [hb, hle, dataAll_agree hd (fun i hi => ho i (by simp [hi]))]
          simp only
          rw [hvis]
          simp only
          rw [frz_agree (fun i hi => ho i (by simp [hi]))]
          rfl
        · cases h
      · cases h
    · cases h
theorem evIndexAddr_agree {ti : TI} {v y : AV} (h : (evIndexAddr G S ti v y).sat (· = e)) (ho : ∀ id, id ∈ e.rd → S'.obj id = S.obj id) : (evIndexAddr G S' ti v y).sat (· = e) := by
  cases v <;> first | (cases y <;> exact h) | skip
  · rename_i id
    cases y <;> first | exact h | skip
    rename_i k i
    have key : id ∈ e.rd := by
      simp only [evIndexAddr] at h
      split at h
      all_goals first
        | (split at h
           · obtain ⟨_, _, h⟩ := h; cases h; simp
           · cases h)
        | cases h
    simp only [evIndexAddr] at h ⊢
    rw [ho id key]
    exact h
  · rename_i id off
    cases off with
    | succ n => cases y <;> exact h
    | zero =>
      cases y <;> first | exact h | skip
      rename_i k i
      have key : id ∈ e.rd := by
        simp only [evIndexAddr] at h
        split at h
        · split at h
          · obtain ⟨_, _, _, h⟩ := h; cases h; simp
          · cases h
        · cases h
      simp only [evIndexAddr] at h ⊢
      rw [ho id key]
      exact h
theorem lenAV_agree {td : TD} {v : AV} {n : Int} {rd : List Nat} (h : lenAV S td v = some (n, rd)) (ho : ∀ id, id ∈ rd → S'.obj id = S.obj id) : lenAV S' td v = some (n, rd) := by
  cases v <;> first | exact h | skip
  rename_i id
  have key : id ∈ rd := by
    simp only [lenAV] at h
    split at h
    · cases h; simp
    · cases h; simp
    · cases h
  simp only [lenAV] at h ⊢
  rw [ho id key]
  exact h
theorem listAV_agree {t : Sh} {v : AV} {d : DC (.sl t)} (h : listAV S t v = some d) (ho : ∀ id, id ∈ d.vis → S'.obj id = S.obj id) : listAV S' t v = some d := by
  cases v <;> first | exact h | skip
  rename_i id
  have key : id ∈ d.vis := by
    simp only [listAV] at h
    split at h
    · split at h
      · cases h; simp
      · cases h
    · split at h
      · cases h; simp
      · cases h
    · cases h
  simp only [listAV] at h ⊢
  rw [ho id key]
  exact h
theorem appDest_agree {t : Sh} {et : TypeId} {v : AV} {d : AD t} (h : appDest S t et v = some d) (ho : ∀ id, id ∈ d.vis → S'.obj id = S.obj id) : appDest S' t et v = some d := by
  cases v <;> first | exact h | skip
  rename_i id
  have key : id ∈ d.vis := by
    simp only [appDest] at h
    split at h
    · split at h
      · cases h; simp
      · cases h
    · cases h
  simp only [appDest] at h ⊢
  rw [ho id key]
  exact h
theorem evAppend_agree {nid : Nat} {st : TypeId} {s x : AV} (h : (evAppend G S nid st s x).sat (· = e)) (ho : ∀ id, id ∈ e.rd → S'.obj id = S.obj id) : (evAppend G S' nid st s x).sat (· = e) := by
  unfold evAppend at h ⊢
  split at h
  case h_2 => cases h
  rename_i ts hts
  try simp only [hts]
  split at h
  case h_2 => cases h
  rename_i el htt
  try simp only [htt]
  split at h
  case h_2 => cases h
  rename_i te hg
  try simp only [hg]
  split at h
  case h_2 => cases h
  rename_i d d' hd hd' hsz
  split at h
  case h_2 => cases h
  rename_i h1 h2
  obtain ⟨h3, h4, h5⟩ := h
  cases h5
  rw [appDest_agree hd (fun i hi => ho i (by simp [hi])), listAV_agree hd' (fun i hi => ho i (by simp [hi])), hsz]
  try simp only [h1, h2]
  exact ⟨h3, h4, rfl⟩
theorem evCopy_agree {st : TypeId} {s x : AV} (h : (evCopy G S st s x).sat (· = e)) (ho : ∀ id, id ∈ e.rd → S'.obj id = S.obj id) : (evCopy G S' st s x).sat (· = e) := by
  unfold evCopy at h ⊢
  split at h
  case h_2 => cases h
  rename_i ts hts
  try simp only [hts]
  split at h
  case h_2 => cases h
  rename_i el htt
  try simp only [htt]
  split at h
  case h_2 => cases h
  rename_i te hg
  try simp only [hg]
  split at h
  case h_2 => cases h
  rename_i id
  split at h
  case h_2 => cases h
  rename_i en e1 et xs hob
  split at h
  case h_2 => cases h
  rename_i d hd h1 h2
  split at h
  case h_2 => cases h
  rename_i hv
  obtain ⟨h3, h4⟩ := h
  cases h4
  have hid : S'.obj id = S.obj id := ho id (by simp)
  simp only [hid, hob]
  rw [listAV_agree hd (fun i hi => by rw [hv] at hi; cases hi)]
  simp only [h1, h2, hv]
  exact ⟨h3, rfl⟩
theorem sliceSrc_agree {v : AV} {tb : Tab} {rd : List Nat} (h : sliceSrc S v = some (tb, rd)) (ho : ∀ id, id ∈ rd → S'.obj id = S.obj id) : sliceSrc S' v = some (tb, rd) := by
  cases v <;> first | exact h | skip
  rename_i id
  have key : id ∈ rd := by
    simp only [sliceSrc] at h
    split at h
    · cases h; simp
    · cases h
  simp only [sliceSrc] at h ⊢
  rw [ho id key]
  exact h
theorem evSlice_agree {ti : TI} {v : AV} {lo hi : Option AV} (h : (evSlice G S ti v lo hi).sat (· = e)) (ho : ∀ id, id ∈ e.rd → S'.obj id = S.obj id) : (evSlice G S' ti v lo hi).sat (· = e) := by
  unfold evSlice at h ⊢
  split at h
  · cases h
  rename_i tb rd hsrc
  have key : e.rd = rd := by
    split at h
    case h_2 => cases h
    split at h
    · cases h; rfl
    · obtain ⟨_, _, h⟩ := h; cases h; rfl
    · obtain ⟨_, _, h⟩ := h; cases h; rfl
    · obtain ⟨_, _, _, _, h⟩ := h; cases h; rfl
    · cases h
  rw [sliceSrc_agree hsrc (fun i hi => ho i (by rw [key]; exact hi))]
  exact h
theorem newObj_agree {nid : Nat} {ti : TI} {v : AV} (h : (newObj G S nid ti v).sat (· = e)) (ho : ∀ id, id ∈ e.rd → S'.obj id = S.obj id) : (newObj G S' nid ti v).sat (· = e) := by
  unfold newObj at h ⊢
  split at h
  · split at h
    · rename_i te hg
      try simp only [hg]
      split at h
      · rename_i d hd
        cases h
        rw [dataN_agree _ _ _ _ hd (fun i hi => ho i hi)]
        simp only
        rw [frz_agree (fun i hi => ho i hi)]
        rfl
      · cases h
    · cases h
  · cases h
  · exact h
theorem evSlice2_agree {nid : Nat} {ti : TI} {v : AV} {lo hi : Option AV} (h : (evSlice2 G S nid ti v lo hi).sat (· = e)) (ho : ∀ id, id ∈ e.rd → S'.obj id = S.obj id) : (evSlice2 G S' nid ti v lo hi).sat (· = e) := by
  unfold evSlice2 at h
  split at h
  case h_2 =>
    rename_i hv
    have := evSlice_agree h ho
    unfold evSlice2
    split
    · rename_i id
      exact absurd rfl (hv id)
    · exact this
  rename_i id
  split at h
  case h_2 =>
    rename_i hob
    have hid : S'.obj id = S.obj id := by
      unfold evSlice at h
      split at h
      · cases h
      · rename_i tb rd hsrc
        have hm : id ∈ rd := by
          simp only [sliceSrc] at hsrc
          split at hsrc
          · cases hsrc; simp
          · cases hsrc
        refine ho id ?_
        split at h
        · split at h
          · cases h; exact hm
          · obtain ⟨_, _, h⟩ := h; cases h; exact hm
          · obtain ⟨_, _, h⟩ := h; cases h; exact hm
          · obtain ⟨_, _, _, _, h⟩ := h; cases h; exact hm
          · cases h
        · cases h
    have := evSlice_agree h ho
    unfold evSlice2
    simp only [hid]
    first
      | exact this
      | (split
         · rename_i en e1 et xs q
           exact absurd q (hob en e1 et xs)
         · exact this)
  rename_i en e1 et xs hob
  have hid : S'.obj id = S.obj id := by
    refine ho id ?_
    unfold evSliceOwn at h
    split at h
    · split at h
      · obtain ⟨_, _, h⟩ := h; cases h; simp
      · obtain ⟨_, _, _, h⟩ := h; cases h; simp
      · cases h
    · cases h
  unfold evSlice2
  simp only [hid, hob]
  exact h
theorem evClear_agree {st : TypeId} {x : AV} (h : (evClear G S st x).sat (· = e)) (ho : ∀ id, id ∈ e.rd → S'.obj id = S.obj id) : (evClear G S' st x).sat (· = e) := by
  unfold evClear at h ⊢
  split at h
  case h_2 => cases h
  rename_i ts hts
  try simp only [hts]
  split at h
  case h_2 => cases h
  rename_i el htt
  try simp only [htt]
  split at h
  case h_2 => cases h
  rename_i te hg
  try simp only [hg]
  split at h
  case h_2 => cases h
  rename_i id sz lo
  split at h
  case h_2 => cases h
  rename_i en e1 et xs hob
  split at h
  case h_2 => cases h
  rename_i hsh hd hb1 hb2
  obtain ⟨h3, h4⟩ := h
  cases h4
  have hid : S'.obj id = S.obj id := ho id (by simp)
  simp only [hid, hob, hd, hb1, hb2]
  exact ⟨h3, rfl⟩
theorem evStoreArr_agree {m n : Nat} {ti : TI} {a v : AV} (h : (evStoreArr m S n ti a v).sat (· = e)) (ho : ∀ id, id ∈ e.rd → S'.obj id = S.obj id) : (evStoreArr m S' n ti a v).sat (· = e) := by
  unfold evStoreArr at h ⊢
  split at h
  case h_2 => cases h
  rename_i id
  split at h
  case h_2 => cases h
  rename_i e1 xs hob
  split at h
  case h_2 => cases h
  rename_i d h1 h2 hd
  split at h
  case h_2 => cases h
  rename_i hv
  obtain ⟨h3, h4⟩ := h
  cases h4
  rw [ho id (by simp), hob]
  simp only
  rw [h1, h2, dataN_agree _ _ _ _ hd (fun i hi => ho i (by simp [hi]))]
  simp only
  rw [hv]
  simp only
  rw [frz_agree (fun i hi => ho i (by simp [hi]))]
  exact ⟨h3, rfl⟩
theorem evBuildSlice_agree {nid n : Nat} {ti : TI} {parts : List (Nat × AV)} (h : (evBuildSlice G S nid ti n parts).sat (· = e)) (ho : ∀ id, id ∈ e.rd → S'.obj id = S.obj id) : (evBuildSlice G S' nid ti n parts).sat (· = e) := by
  unfold evBuildSlice at h ⊢
  split at h
  case h_2 => cases h
  rename_i el htt
  try simp only [htt]
  split at h
  case h_2 => cases h
  rename_i te hg
  try simp only [hg]
  split at h
  case h_2 => cases h
  rename_i cs h1 h2
  split at h
  · rename_i d hd
    cases h
    try simp only [h1, h2]
    rw [dataN_agree _ _ _ _ hd (fun i hi => ho i hi)]
    simp only
    rw [frz_agree (fun i hi => ho i hi)]
    rfl
  · cases h
end
end Go.Rx
