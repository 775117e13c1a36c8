/- RxC: texts of one kind, laid side by side. -/
import Derived.Test.YtgoofkilcbniiaaGreatDoorRxB
import Derived.Laws.Append
import Derived.Laws.CopyRow
import Derived.Laws.IdiomCopy
import Derived.Lib.AppendZeros
/-! Rx, part 10: literals, make, append, len, min and max. -/
namespace Go.Rx
set_option linter.unusedVariables false
set_option linter.unusedSimpArgs false
section
variable {C : Ctx} {S : AS} {E : Env} {a : Act} {w : World} {G : Gl}
theorem foldl_set (off : Nat) : ∀ (l : List Value) (k : Nat) (arr : Array Value), off + k + l.length ≤ arr.size →
    ((l.zipIdx k).foldl (fun cs p => cs.setIfInBounds (off + p.2) p.1) arr).toList = arr.toList.take (off + k) ++ l ++ arr.toList.drop (off + k + l.length)
  | [], k, arr, _ => by simp
  | v :: l, k, arr, h => by
    simp only [List.zipIdx_cons, List.foldl_cons]
    rw [foldl_set off l (k + 1) _ (by simp at h ⊢; omega)]
    have := list_seg_step arr.toList (off + k) v l (by simp at h ⊢; omega)
    simp only [Array.toList_setIfInBounds]
    rw [show off + (k + 1) = off + k + 1 by omega, this]
    simp [Nat.add_comm, Nat.add_left_comm]
inductive RepP (D : Nat → Prop) (E : Env) (A : Nat → Prop) (w : World) : List (Nat × AV) → List (Nat × Value) → Prop
  | nil : RepP D E A w [] []
  | cons (i : Nat) (v : AV) (x : Value) (l : List (Nat × AV)) (r : List (Nat × Value)) : RepV D E A w v x → RepP D E A w l r → RepP D E A w ((i, v) :: l) ((i, x) :: r)
theorem fill_ok {D : Nat → Prop} {A : Nat → Prop} {place place' : Nat → Option (Nat × Nat)} (hp : ∀ i q, place i = some q → place' i = some q) : ∀ {parts : List (Nat × AV)} {vparts : List (Nat × Value)} {cs cs' : List AV} {vs : List Value},
    RepP D E A w parts vparts → fillAV place cs parts = some cs' → RepL D E A w cs vs → ∃ vs', Instr.fill place' vs.toArray vparts = some vs'.toArray ∧ RepL D E A w cs' vs'
  | [], _, cs, cs', vs, hpt, h, hr => by
    cases hpt
    simp only [fillAV] at h
    cases h
    exact ⟨vs, rfl, hr⟩
  | (i, v) :: rest, _, cs, cs', vs, hpt, h, hr => by
    cases hpt
    rename_i x r hx hrest
    simp only [fillAV] at h
    split at h
    · cases h
    · rename_i off size hpl
      split at h
      · rename_i h1 h2 h3
        have h1 := Nat.eq_of_beq_eq_true h1
        have h2 := Nat.le_of_ble_eq_true h2
        have hc := cellsAV_ok hx h3
        have hlen := repL_length hc
        have hl := repL_length hr
        have hsz : x.cells.size = size := by rw [← h1, ← hlen]; simp
        obtain ⟨vs', q1, q2⟩ := fill_ok hp hrest h (repL_splice off hr hc)
        refine ⟨vs', ?_, q2⟩
        simp only [Instr.fill, hp i _ hpl]
        rw [if_neg (by simp [hsz]; omega)]
        have := foldl_set off x.cells.toList 0 vs.toArray (by simp; omega)
        have e : (x.cells.zipIdx.foldl (fun cs (c, j) => cs.setIfInBounds (off + j) c) vs.toArray) = (vs.take off ++ x.cells.toList ++ vs.drop (off + x.cells.toList.length)).toArray := by
          apply Array.ext'
          rw [← Array.foldl_toList, Array.toList_zipIdx]
          simpa using this
        rw [e]
        exact q1
      · cases h
theorem parts_ok (h : RepE C S E a w) : ∀ (l : List (Nat × Operand)), RepP (Dom S) E (Al C S E w) w (l.map fun p => (p.1, S.ev p.2)) (l.map fun p => (p.1, a.eval p.2))
  | [] => .nil
  | p :: l => .cons _ _ _ _ _ (h.ev p.2) (parts_ok h l)
theorem run_mapM {α β : Type} {P : Program} {w : World} {f : α → Sem β} {g : α → β} : ∀ (l : List α), (∀ x ∈ l, (f x).run P w = .ok (g x) w) → (l.mapM f).run P w = .ok (l.map g) w
  | [], _ => by simp
  | x :: l, h => by
    have := run_mapM l (fun y hy => h y (by simp [hy]))
    simp [h x (by simp), this]
theorem run_mapA {α β : Type} {P : Program} {w : World} {f : α → Sem β} {g : α → β} (l : Array α) (h : ∀ x ∈ l.toList, (f x).run P w = .ok (g x) w) : (l.mapM f).run P w = .ok (l.map g) w := by
  rw [Array.mapM_eq_mapM_toList]
  simp [run_mapM l.toList h]
  exact Array.ext' (by simp)
def repV (l : List Value) : Nat → List Value
  | 0 => []
  | n + 1 => l ++ repV l n
theorem repV_length (l : List Value) : ∀ n, (repV l n).length = n * l.length
  | 0 => by simp [repV]
  | n + 1 => by simp [repV, repV_length l n, Nat.succ_mul, Nat.add_comm]
theorem repL_rep {D : Nat → Prop} {A : Nat → Prop} {l : List AV} {vs : List Value} (h : RepL D E A w l vs) : ∀ n, RepL D E A w (rep l n) (repV vs n)
  | 0 => by simp [rep, repV, RepL]
  | n + 1 => by simp only [rep, repV]; exact repL_append.2 ⟨_, _, rfl, h, repL_rep h n⟩
theorem repV_get (l : List Value) (hl : 0 < l.length) : ∀ (n k : Nat), k < n * l.length → (repV l n)[k]? = l[k % l.length]?
  | 0, k, h => by simp at h
  | n + 1, k, h => by
    simp only [repV]
    by_cases hk : k < l.length
    · rw [List.getElem?_append_left hk, Nat.mod_eq_of_lt hk]
    · rw [List.getElem?_append_right (by omega), repV_get l hl n _ (by rw [Nat.succ_mul] at h; omega)]
      congr 1
      rw [Nat.mod_eq_sub_mod (a := k) (by omega)]
theorem made_rep (z : Array Value) (hz : 0 < z.size) (n : Nat) : (madeCells z (n * z.size)).toList = repV z.toList n := by
  apply List.ext_getElem?
  intro k
  by_cases hk : k < n * z.size
  · rw [repV_get z.toList (by simpa using hz) n k (by simpa using hk)]
    have hm : k % z.size < z.size := Nat.mod_lt _ hz
    simp [madeCells, hk, hm]
  · rw [List.getElem?_eq_none (by simp [size_madeCells]; omega), List.getElem?_eq_none (by rw [repV_length]; simp; omega)]
theorem rows_rep {A : Nat → Prop} {e : Sh} {d : e.T} {zs : List Value} (h : PC A w e d zs) : ∀ n, RowsL (fun x c => PC A w e x c) (List.replicate n d) (repV zs n)
  | 0 => rfl
  | n + 1 => ⟨zs, repV zs n, rfl, h, rows_rep h n⟩
theorem unk_repL {D : Nat → Prop} {E : Env} {w : World} {A : Nat → Prop} : ∀ {n : Nat} {zs : List Value}, zs.length = n → RepL D E A w (rep [.unk] n) zs
  | 0, [], _ => by simp [rep, RepL]
  | n + 1, v :: zs, h => by simp only [rep, List.cons_append, List.nil_append, RepL]; exact ⟨v, zs, rfl, by simp [RepV], unk_repL (by simpa using h)⟩
theorem unks_repL {D : Nat → Prop} {E : Env} {w : World} {A : Nat → Prop} : ∀ {l : List AV} {zs : List Value}, (∀ v, v ∈ l → v = .unk) → zs.length = l.length → RepL D E A w l zs
  | [], [], _, _ => by simp [RepL]
  | [], _ :: _, _, h => by cases h
  | v :: l, [], _, h => by cases h
  | v :: l, z :: zs, hv, h => by
    have := hv v (by simp)
    subst this
    simp only [RepL]
    exact ⟨z, zs, rfl, by simp [RepV], unks_repL (fun v h => hv v (by simp [h])) (by simpa using h)⟩
theorem rep_mem {v : AV} {l : List AV} : ∀ {n : Nat}, v ∈ rep l n → v ∈ l
  | 0, h => by cases h
  | n + 1, h => (List.mem_append.1 h).elim id (fun h => rep_mem h)
theorem zero_unk {ti : TI} (hd : ¬ ti.dat = true) : ∀ v, v ∈ zeroAV ti → v = .unk := by
  intro v hv
  unfold zeroAV at hv
  split at hv
  · contradiction
  · split at hv
    · simpa using rep_mem hv
    · simpa using hv
theorem zero_one {A : Nat → Prop} {ti : TI} {zs : List Value} (h : ZeroOK G.ty ti zs) (hs : zs.length = ti.size) (htt : ∃ fs, ti.td = .st fs) {D : Nat → Prop} : RepL D E A w (zeroZ ti) zs := by
  obtain ⟨fs, htt⟩ := htt
  by_cases hd : ti.dat = true
  · have : zeroZ ti = encZ ti.sh := by unfold zeroZ; rw [hd]
    rw [this]
    exact encZ_ok (zero_zc h hd)
  · have hn : ti.nds = true := by
      cases q : ti.nds with
      | true => rfl
      | false => exact absurd (by unfold TI.dat; rw [q, htt]; rfl) hd
    have hz : zeroZ ti = rep [.unk] (ti.size - 1 + 1) := by
      unfold zeroZ
      have : ti.dat = false := by simpa using hd
      rw [this, hn]
    rw [hz]
    unfold ZeroOK at h
    rw [hn] at h
    have h : 0 < ti.size := h
    exact unk_repL (by omega)
theorem isSl_under {P : Program} {t : TypeId} {ti : TI} (ht : TIOK P G.ty t ti) (hs : isSl ti.td = true) : ∃ el, P.underlying t = some (.slice el) ∧ ti.td = .sl el := by
  obtain ⟨d, hd, htd⟩ := ht.desc
  cases hq : ti.td <;> rw [hq] at hs htd <;> first | (cases hs; done) | skip
  cases d <;> simp [tdOf] at htd
  subst htd
  exact ⟨_, hd, rfl⟩
theorem len_ok {x : Operand} {t : TypeId} {ti : TI} {n : Int} {rd : List Nat} (h : RepE C S E a w) (ht : TIOK C.P G.ty t ti) {o : Oper} (ho : o.op = .call ⟨.builtin .len, #[x], #[t]⟩) (he : lenAV S ti.td (S.ev x) = some (n, rd)) :
    OpWP C S a w o ⟨.int .i64 n, [], rd, []⟩ := by
  have hx := h.ev x
  have key : ∀ {ad : Option Addr} {k cap : Nat}, isSl ti.td = true → a.eval x = .slice ad k cap → n = (k : Int) → OpWP C S a w o ⟨.int .i64 n, [], rd, []⟩ := by
    intro ad k cap hs hv hn
    obtain ⟨el, hd, _⟩ := isSl_under ht hs
    refine OpWP.pure h (x := .int .i64 n) ?_ (by simp [RepV])
    simp [execOp, ho, resolve, invoke, builtin, hv, hn, Builtin.len_, run_underlying hd, goInt]
  unfold lenAV at he
  split at he
  · rename_i e1 xs heq
    rw [heq] at hx
    split at he
    · rename_i hs
      cases he
      simp only [RepV] at hx
      obtain ⟨ad, cap, q, _⟩ := hx
      exact key hs (by simpa using q) rfl
    · cases he
  · rename_i heq
    rw [heq] at hx
    split at he
    · rename_i hs
      cases he
      simp only [RepV] at hx
      exact key hs hx rfl
    · cases he
  · rename_i s heq
    rw [heq] at hx
    split at he
    · rename_i hs
      cases he
      simp only [RepV] at hx
      obtain ⟨d, hd, htd⟩ := ht.desc
      rw [hs] at htd
      cases d <;> simp [tdOf] at htd
      refine OpWP.pure h (x := .int .i64 (s.size : Int)) ?_ (by simp [RepV])
      simp [execOp, ho, resolve, invoke, builtin, hx, Builtin.len_, run_underlying hd, goInt]
    · cases he
  · rename_i id heq
    rw [heq] at hx
    simp only [RepV] at hx
    split at he
    · rename_i hs hob
      cases he
      obtain ⟨q1, q2⟩ := h.h.objs id _ hob
      rcases q2 with ⟨q2, q3⟩ | ⟨cap, cur, cells, q2, _⟩
      · exact key hs (by rw [hx.2]; exact q2) (by rw [q3]; rfl)
      · exact key hs (by rw [hx.2]; exact q2) rfl
    · rename_i hs hob
      cases he
      obtain ⟨q1, q2, q3⟩ := h.h.objs id _ hob
      obtain ⟨ad, cap, q, _⟩ := q2
      exact key hs (by rw [hx.2]; simpa using q) rfl
    · cases he
  · rename_i id sz lo heq
    rw [heq] at hx
    simp only [RepV] at hx
    split at he
    · rename_i hs hob
      cases he
      obtain ⟨q1, _⟩ := h.h.objs id _ hob
      obtain ⟨_, ad, c, hx2, _⟩ := hx
      exact key hs hx2 (by rw [q1])
    · cases he
  · cases he
theorem rows_repL {D : Nat → Prop} {A : Nat → Prop} {e : Sh} {d : e.T} : ∀ {n : Nat} {zs : List Value}, RowsL (fun x c => PC A w e x c) (List.replicate n d) zs → RepL D E A w (rep (enc e d) n) zs
  | 0, _, h => by cases h; simp [rep, RepL]
  | n + 1, _, ⟨c, r, e1, h1, h2⟩ => by simp only [rep]; exact repL_append.2 ⟨c, r, e1, enc_ok h1, rows_repL h2⟩
theorem build_ok {t : TypeId} {ti : TI} {parts : Array (Nat × Operand)} {e : Eff} (hty : TyOK C.P G) (h : RepE C S E a w) (ht : TIOK C.P G.ty t ti) {o : Oper} (ho : o.op = .build t parts)
    (he : (evBuild G ti (parts.toList.map fun p => (p.1, S.ev p.2))).sat (· = e)) : OpWP C S a w o e := by
  obtain ⟨i, z, hi, hz, hzs, his, hib, hok⟩ := zero_run ht
  obtain ⟨d, hd, htd⟩ := ht.desc
  have hp := parts_ok h parts.toList
  have hparts : (parts.map fun p => (p.1, a.eval p.2)).toList = parts.toList.map fun p => (p.1, a.eval p.2) := by simp
  unfold evBuild at he
  split at he
  · rename_i fs htt
    rw [htt] at htd
    cases d <;> simp [tdOf] at htd
    rename_i flds
    split at he
    · rename_i cs hall hfill
      cases he
      have hz' : RepL (Dom S) E (Al C S E w) w (zeroZ ti) z.cells.toList := zero_one hok (by simpa using hzs) ⟨fs, htt⟩
      have hplaces : ∀ x ∈ flds.toList, (do pure (x.offset, ← sizeOf x.type) : Sem (Nat × Nat)).run C.P w = .ok (x.offset, C.P.cellsOf x.type) w := by
        intro x hx
        have hm : (x.offset, x.type) ∈ fs := by rw [← htd]; exact List.mem_map.2 ⟨x, hx, rfl⟩
        have : ∃ tf, G.ty x.type = some tf := by
          clear hfill htd htt
          induction fs with
          | nil => cases hm
          | cons p r ih =>
            simp only [allTy] at hall
            split at hall
            · rename_i tf hg
              rcases List.mem_cons.1 hm with q | q
              · subst q; exact ⟨tf, hg⟩
              · exact ih hall q
            · cases hall
        obtain ⟨tf, hg⟩ := this
        obtain ⟨i', hi', hs', _⟩ := (hty _ _ hg).info
        simp [sizeOf, typeInfo, hi', Program.cellsOf]
      have hrunp := run_mapA (P := C.P) (w := w) (f := fun f : Field => do pure (f.offset, ← sizeOf f.type)) (g := fun f : Field => (f.offset, C.P.cellsOf f.type)) flds hplaces
      obtain ⟨vs', q1, q2⟩ := fill_ok (place' := fun k => (flds.map fun f : Field => (f.offset, C.P.cellsOf f.type))[k]?) (by
        intro k q hq
        unfold placeSt at hq
        split at hq
        · rename_i p hpk
          rw [← htd, List.getElem?_map] at hpk
          cases hfk : flds.toList[k]? with
          | none => rw [hfk] at hpk; cases hpk
          | some fld =>
            rw [hfk] at hpk
            cases hpk
            split at hq
            · rename_i tf hg
              cases hq
              obtain ⟨i', hi', hs', _⟩ := (hty _ _ hg).info
              have hfk' : flds[k]? = some fld := by simpa using hfk
              simp [hfk', Program.cellsOf, hi', hs']
            · cases hq
        · cases hq) hp hfill hz'
      refine OpWP.pure h (x := .agg vs'.toArray) ?_ (by simp only [RepV]; exact ⟨vs', rfl, q2⟩)
      have q1' : Instr.fill (fun k => (flds.map fun f : Field => (f.offset, C.P.cellsOf f.type))[k]?) z.cells (parts.toList.map fun p => (p.1, a.eval p.2)) = some vs'.toArray := by simpa using q1
      have hrunp' : (Array.mapM (fun f : Field => sizeOf f.type >>= fun b => (pure (f.offset, b) : Sem (Nat × Nat))) flds).run C.P w = .ok (flds.map fun f : Field => (f.offset, C.P.cellsOf f.type)) w := hrunp
      simp only [execOp, ho, Instr.build, zeroValue, typeInfo, Sem.run_bind, run_program, Result.andThen_ok, hi, Sem.run_pure, hz, run_underlying hd, hrunp', hparts, q1']
    · cases he
  · rename_i n el htt
    rw [htt] at htd
    cases d <;> simp [tdOf] at htd
    rename_i k el'
    obtain ⟨rfl, rfl⟩ := htd
    split at he
    · rename_i te hg
      split at he
      · rename_i hzb
        cases he
        unfold zbOf at hzb
        split at hzb
        case h_2 => cases hzb
        rename_i hnil
        obtain ⟨hns, hrows⟩ := zero_arr hok htt te hg
        obtain ⟨td, sh, size, bytes, eqs, nd⟩ := te
        split at hzb
        case h_2 => cases hzb
        rename_i htd hsh
        simp only at htd hsh
        subst htd
        subst hsh
        have hz' : RepL (Dom S) E (Al C S E w) w (rep (enc .bool Sh.bool.dflt) k) z.cells.toList := rows_repL (hrows (by intro q; cases q) _ _)
        have hrep : ∀ (n : Nat) (vs : List Value), RepL (Dom S) E (Al C S E w) w (rep (enc .bool Sh.bool.dflt) n) vs → vs = List.replicate n (.bool false) := by
          intro n
          induction n with
          | zero => intro vs h; simpa [rep, RepL] using h
          | succ n ih =>
            intro vs h
            simp only [rep, enc, List.cons_append, List.nil_append, RepL, RepV] at h
            obtain ⟨x, t, rfl, rfl, h3⟩ := h
            rw [ih t h3, List.replicate_succ]
            rfl
        have hv := hrep k _ hz'
        have hp0 : parts.toList = [] := by simpa using hnil
        refine OpWP.pure h (x := .agg z.cells) ?_ (by simp only [RepV]; rw [← hv])
        have hsz2 := sizeOf_ok (hty _ _ hg) w
        simp only [execOp, ho, Instr.build, zeroValue, typeInfo, Sem.run_bind, run_program, Result.andThen_ok, hi, Sem.run_pure, hz, run_underlying hd, hsz2, hparts, hp0, List.map_nil, Instr.fill]
      split at he
      · rename_i cs hsz hfill
        cases he
        have hsz := Nat.eq_of_beq_eq_true hsz
        obtain ⟨hns, hrows⟩ := zero_arr hok htt te hg
        have hz' : RepL (Dom S) E (Al C S E w) w (rep (zeroAV te) k) z.cells.toList := by
          by_cases hdat : te.dat = true
          · have : zeroAV te = enc te.sh te.sh.dflt := by unfold zeroAV; rw [hdat]
            rw [this]
            exact rows_repL (hrows (dat_fn hdat) _ _)
          · have hl : ∀ (l : List AV) n, (rep l n).length = n * l.length := by
              intro l n
              induction n with
              | zero => simp [rep]
              | succ n ih => simp [rep, ih, Nat.succ_mul, Nat.add_comm]
            exact unks_repL (fun v hv => zero_unk hdat v (rep_mem hv)) (by rw [hl, hsz, hns]; simpa using hzs)
        obtain ⟨vs', q1, q2⟩ := fill_ok (place' := fun i => some (i * te.size, te.size)) (fun i q hq => hq) hp hfill hz'
        refine OpWP.pure h (x := .agg vs'.toArray) ?_ (by simp only [RepV]; exact ⟨vs', rfl, q2⟩)
        have q1' : Instr.fill (fun i => some (i * te.size, te.size)) z.cells (parts.toList.map fun p => (p.1, a.eval p.2)) = some vs'.toArray := by simpa using q1
        have hsz2 := sizeOf_ok (hty _ _ hg) w
        simp only [execOp, ho, Instr.build, zeroValue, typeInfo, Sem.run_bind, run_program, Result.andThen_ok, hi, Sem.run_pure, hz, run_underlying hd, hsz2, hparts, q1']
      · cases he
    · cases he
  · cases he
theorem obj_none_frz {vis : List Nat} {id : Nat} (h : S.obj id = none) : (S.setObjs (frz S.obj vis)).obj id = none := by
  rw [obj_frz]
  split
  · rw [h]
  · exact h
theorem buildSlice_ok {t : TypeId} {ti : TI} {n nid : Nat} {parts : Array (Nat × Operand)} {e : Eff} (hm : G.m = C.m) (hty : TyOK C.P G) (h : RepE C S E a w) (hn : S.obj nid = none) (ht : TIOK C.P G.ty t ti) {o : Oper} (ho : o.op = .buildSlice t n parts)
    (he : (evBuildSlice G S nid ti n (parts.toList.map fun p => (p.1, S.ev p.2))).sat (· = e)) : OpWP C S a w o e := by
  obtain ⟨d, hd, htd⟩ := ht.desc
  have hp := parts_ok h parts.toList
  have hparts : (parts.map fun p => (p.1, a.eval p.2)).toList = parts.toList.map fun p => (p.1, a.eval p.2) := by simp
  unfold evBuildSlice at he
  split at he
  · rename_i el htt
    rw [htt] at htd
    cases d <;> simp [tdOf] at htd
    rename_i el'
    subst htd
    split at he
    · rename_i te hg
      split at he
      · rename_i cs hchk hfill
        split at he
        · rename_i d hdn
          cases he
          simp only [Bool.and_eq_true] at hchk
          obtain ⟨⟨hdat, hle⟩, hpos⟩ := hchk
          have hle := Nat.le_of_ble_eq_true hle
          have hpos : 0 < te.size := Nat.le_of_ble_eq_true hpos
          obtain ⟨i, z, hi, hz, hzs, his, hib, hok⟩ := zero_run (hty _ _ hg)
          have hzd := zero_data hok hdat
          have hz' : zeroAV te = enc te.sh te.sh.dflt := by unfold zeroAV; rw [hdat]
          have hmade := made_rep z.cells (by omega) n
          rw [hzs] at hmade
          have hzero : RepL (Dom S) E (Al C S E w) w (rep (zeroAV te) n) (madeCells z.cells (n * te.size)).toList := by
            rw [hmade, hz']
            exact repL_rep (enc_ok (hzd _ _)) n
          obtain ⟨vs', q1, q2⟩ := fill_ok (place' := fun i => some (i * te.size, te.size)) (fun i q hq => hq) hp hfill hzero
          obtain ⟨r1, r2, r3, r4⟩ := h.dataN hm hdn q2
          have hlen := r3.length (fun x c h => h.length)
          have hshs : te.sh.size = te.size := by rw [← hzs]; have := (hzd (Al C S E w) w).length; simpa using this.symm
          obtain ⟨E', s1, s2, s3⟩ := r1.newRow (obj_none_frz hn) (et := el') (cur := vs'.toArray) (cap := n) r3 (by simp [← hlen]) (by simp [hlen, r4]) (by omega) (by unfold maxLen; have : n * 1 ≤ n * te.size := Nat.mul_le_mul_left _ hpos; omega)
          refine OpWP.run (x := .slice (some ⟨w.heap.size, 0, none⟩) n n) (w' := w.alloc (.cells vs'.toArray el')) ?_ s1 ?_
          · have hne : ¬ (n * te.size = 0 ∧ n ≠ 0) := by
              intro ⟨q, q'⟩
              rcases Nat.mul_eq_zero.1 q with q | q <;> omega
            have hsz2 := sizeOf_ok (hty _ _ hg) w
            have hmc : (Array.map (fun x => z.cells[x % z.cells.size]!) (Array.range (n * te.size))) = madeCells z.cells (n * te.size) := rfl
            by_cases hn0 : n * te.size = 0
            · have hn0' : n = 0 := by rcases Nat.mul_eq_zero.1 hn0 with q | q <;> omega
              subst hn0'
              simp only [execOp, ho, Instr.buildSlice, Sem.run_bind, run_underlying hd, Result.andThen_ok, hsz2, Nat.zero_mul]
              have q1' : Instr.fill (fun i => some (i * te.size, te.size)) #[] (parts.toList.map fun p => (p.1, a.eval p.2)) = some vs'.toArray := by
                simpa [madeCells] using q1
              simp [Array.range_zero', q1', newRow, hparts]
            · have hgt : ¬ 2 ^ 24 < n * te.size := by omega
              have q1' : Instr.fill (fun i => some (i * te.size, te.size)) (Array.map (fun x => z.cells[x % z.cells.size]!) (Array.range (n * te.size))) (parts.toList.map fun p => (p.1, a.eval p.2)) = some vs'.toArray := by
                rw [hmc]; simpa using q1
              simp only [execOp, ho, Instr.buildSlice, Sem.run_bind, run_underlying hd, Result.andThen_ok, hsz2]
              simp only [hparts, hn0, if_false, Sem.run_ite, gt_iff_lt, hgt, zeroValue, typeInfo, Sem.run_bind, run_program, Result.andThen_ok, hi, Sem.run_pure, hz, q1', newRow, run_newObj]
              rfl
          · simp only [RepV]
            rw [s3, r4]
            exact ⟨by unfold Dom; show ((S.setObjs (frz S.obj d.vis)).setObjs [(nid, _)]).obj nid ≠ none; rw [obj_cons]; simp, rfl⟩
        · cases he
      · cases he
    · cases he
  · cases he
end
end Go.Rx
/-! Rx, part 11: make, append, min, max, functions as values. -/
namespace Go.Rx
set_option linter.unusedVariables false
set_option linter.unusedSimpArgs false
section
variable {C : Ctx} {S : AS} {E : Env} {a : Act} {w : World} {G : Gl}
theorem dom_new (S : AS) (nid : Nat) (o : Obj) (l : List (Nat × Obj)) : Dom (S.setObjs ((nid, o) :: l)) nid := by unfold Dom; rw [obj_cons]; simp
theorem makeSlice_ok {t : TypeId} {ti : TI} {nid : Nat} {x y : Operand} {e : Eff} (hty : TyOK C.P G) (h : RepE C S E a w) (hn : S.obj nid = none) (ht : TIOK C.P G.ty t ti) {o : Oper} (ho : o.op = .makeSlice t x y)
    (he : (evMakeSlice G nid ti (S.ev x) (S.ev y)).sat (· = e)) : OpWP C S a w o e := by
  have hx := h.ev x
  have hy := h.ev y
  obtain ⟨d, hd, htd⟩ := ht.desc
  unfold evMakeSlice at he
  split at he
  · rename_i n c hex hey
    rw [hex] at hx
    rw [hey] at hy
    simp only [RepV] at hx hy
    split at he
    · rename_i el htt
      rw [htt] at htd
      cases d <;> simp [tdOf] at htd
      rename_i el'
      subst htd
      split at he
      · rename_i te hg
        split at he
        · rename_i hdat
          obtain ⟨h1, h2, h3, h4, he⟩ := he
          cases he
          have h1 : 0 ≤ n := by simpa using h1
          have h2 : n ≤ c := by simpa using h2
          have h3 : (te.bytes : Int) * c ≤ 140737488355328 := by simpa using h3
          have h4 : c ≤ 140737488355328 := by simpa using h4
          obtain ⟨i, z, hi, hz, hzs, his, hib, hok⟩ := zero_run (hty _ _ hg)
          have hzd := zero_data hok hdat
          have hshs : te.sh.size = te.size := by rw [← hzs]; have := (hzd (Al C S E w) w).length; simpa using this.symm
          have hrun := run_make (P := C.P) w t el' i z hd hi hz .i64 .i64 n c h1 h2 (by rw [hib]; omega) (by omega)
          rw [his] at hrun
          have hrows : RowsL (fun x c => PC (Al C S E w) w te.sh x c) (List.replicate n.toNat te.sh.dflt) ((madeCells z.cells (c.toNat * te.size)).toList.take (n.toNat * te.size)) := by
            by_cases hs0 : te.size = 0
            · have hz0 : z.cells.toList = [] := List.eq_nil_of_length_eq_zero (by simpa [hs0] using hzs)
              rw [hs0, Nat.mul_zero, List.take_zero]
              have := hzd (Al C S E w) w
              rw [hz0] at this
              have e0 : ∀ k, repV [] k = [] := fun k => by induction k with | zero => rfl | succ k ih => simp [repV, ih]
              have q := rows_rep this n.toNat
              rw [e0] at q
              exact q
            · have hmade := made_rep z.cells (by omega) c.toNat
              rw [hzs] at hmade
              rw [hmade]
              have q := RowsL.take (fun x c (h : PC (Al C S E w) w te.sh x c) => h.length) n.toNat (rows_rep (hzd (Al C S E w) w) c.toNat)
              rw [hshs, List.take_replicate, Nat.min_eq_left (by omega)] at q
              exact q
          obtain ⟨E', s1, s2, s3⟩ := h.newRow hn (et := el') (cur := madeCells z.cells (c.toNat * te.size)) (cap := c.toNat) hrows (by simp [hshs]) (by rw [size_madeCells, hshs]) (by simp; omega) (by unfold maxLen; omega)
          refine OpWP.run (x := .slice (some ⟨w.heap.size, 0, none⟩) n.toNat c.toNat) (w' := w.alloc (.cells (madeCells z.cells (c.toNat * te.size)) el')) ?_ s1 ?_
          · simp [execOp, ho, hx, hy, hrun]
          · simp only [RepV]
            exact ⟨dom_new _ _ _ _, by rw [s3]; simp⟩
        · cases he
      · cases he
    · cases he
  · cases he
theorem makeFunc_ok {f : FuncId} {x y : Array Operand} (h : RepE C S E a w) {o : Oper} (ho : o.op = .makeFunc (.func f) x y) {rd : List Nat} {dec : List (Nat × Bool)} :
    OpWP C S a w o ⟨.fn f (x.toList.map S.ev) (y.toList.map S.ev), [], rd, dec⟩ := by
  refine OpWP.pure h (x := .func (.func f) (x.map a.eval) (y.map a.eval)) (by simp [execOp, ho, Instr.makeFunc]) ?_
  simp only [RepV]
  exact ⟨x.toList.map a.eval, y.toList.map a.eval, by rw [← Array.toList_map, ← Array.toList_map], h.evs _, h.evs _⟩
theorem mm_min {P : Program} {w : World} : ∀ {l : List AV} {vs : List Value} {D : Nat → Prop} {E : Env} {A : Nat → Prop} {k : IntKind} {n : Int} {v : AV}, mmGo false k n l = some v → RepL D E A w l vs → ∃ x, (vs.foldlM Builtin.min2 (.int k n)).run P w = .ok x w ∧ RepV D E A w v x
  | [], _, _, _, _, _, _, _, h, hl => by simp only [RepL] at hl; subst hl; cases h; exact ⟨_, by simp; rfl, by simp [RepV]⟩
  | u :: l, vs, D, E, A, k, n, v, h, hl => by
    simp only [RepL] at hl
    obtain ⟨x, t, rfl, h1, h2⟩ := hl
    cases u <;> first | (simp [mmGo] at h; done) | skip
    rename_i k' b
    simp only [RepV] at h1
    subst h1
    simp only [mmGo] at h
    split at h
    · rename_i q _
      subst q
      obtain ⟨y, h3, h4⟩ := mm_min (P := P) h h2
      refine ⟨y, ?_, h4⟩
      have : (if b < n then b else n) = min n b := by omega
      simp [Builtin.min2, this, h3]
    · cases h
theorem mm_max {P : Program} {w : World} : ∀ {l : List AV} {vs : List Value} {D : Nat → Prop} {E : Env} {A : Nat → Prop} {k : IntKind} {n : Int} {v : AV}, mmGo true k n l = some v → RepL D E A w l vs → ∃ x, (vs.foldlM Builtin.max2 (.int k n)).run P w = .ok x w ∧ RepV D E A w v x
  | [], _, _, _, _, _, _, _, h, hl => by simp only [RepL] at hl; subst hl; cases h; exact ⟨_, by simp; rfl, by simp [RepV]⟩
  | u :: l, vs, D, E, A, k, n, v, h, hl => by
    simp only [RepL] at hl
    obtain ⟨x, t, rfl, h1, h2⟩ := hl
    cases u <;> first | (simp [mmGo] at h; done) | skip
    rename_i k' b
    simp only [RepV] at h1
    subst h1
    simp only [mmGo] at h
    split at h
    · rename_i q _
      subst q
      obtain ⟨y, h3, h4⟩ := mm_max (P := P) h h2
      refine ⟨y, ?_, h4⟩
      have : (if n < b then b else n) = max n b := by omega
      simp [Builtin.max2, this, h3]
    · cases h
theorem minmax_ok {mx : Bool} {xs : Array Operand} {ats : Array TypeId} {v : AV} (h : RepE C S E a w) {o : Oper} (ho : o.op = .call ⟨.builtin (match mx with | true => .max | false => .min), xs, ats⟩) (he : minmax mx (xs.toList.map S.ev) = some v) {rd : List Nat} {dec : List (Nat × Bool)} :
    OpWP C S a w o ⟨v, [], rd, dec⟩ := by
  have hl := h.evs xs.toList
  unfold minmax at he
  split at he
  · rename_i k n r heq
    rw [heq] at hl
    simp only [RepL, RepV] at hl
    obtain ⟨x, t, hv, rfl, h2⟩ := hl
    have hv' : (xs.map a.eval).toList = .int k n :: t := by simpa using hv
    cases mx with
    | true =>
      obtain ⟨y, h3, h4⟩ := mm_max (P := C.P) he h2
      refine OpWP.pure h (x := y) ?_ h4
      simp [execOp, ho, resolve, invoke, builtin, Builtin.max_, hv, h3]
    | false =>
      obtain ⟨y, h3, h4⟩ := mm_min (P := C.P) he h2
      refine OpWP.pure h (x := y) ?_ h4
      simp [execOp, ho, resolve, invoke, builtin, Builtin.min_, hv, h3]
  · cases he

/-! ### append -/
theorem RepE.drew (h : RepE C S E a w) : RepE C S E a w.drew := by
  have := h.step (S' := S) (E' := E) (w' := w.drew) (fun _ => rfl) (later_drew _) (fun _ _ _ => rfl) (fun id hd => ⟨hd, rfl, rfl, rfl⟩) (fun b _ _ h3 id o ho hw => h3 id o ho hw) (fun _ _ => rfl) (fun _ id o ho => .inl ⟨ho, fun _ => rfl⟩) h.h.inj
  exact this.1
theorem Ext.refl {D : Nat → Prop} {A : Nat → Prop} : Ext D E A w D E A w := ⟨fun id hd => ⟨hd, rfl, rfl, rfl⟩, fun b hb => ⟨hb, fun _ _ q => q⟩⟩
/-- An object is given up for good. -/
theorem RepE.kill (h : RepE C S E a w) {id : Nat} (hd : Dom S id) : RepE C (S.setObjs [(id, .gone)]) E a w ∧ Ext (Dom S) E (Al C S E w) w (Dom (S.setObjs [(id, .gone)])) E (Al C (S.setObjs [(id, .gone)]) E w) w := by
  have old : ∀ i o, (S.setObjs [(id, .gone)]).obj i = some o → Owns E i o → S.obj i = some o := by
    intro i o hi hw
    rw [obj_cons] at hi
    split at hi
    · cases hi; exact hw.elim
    · exact hi
  refine h.step (fun _ => rfl) (Later.refl _) (fun _ _ _ => rfl) (fun i hi => ⟨by unfold Dom at *; rw [obj_cons]; split <;> simp [obj_nil, hi], rfl, rfl, rfl⟩)
    (fun b _ _ h3 i o hi hw => h3 i o (old i o hi hw) hw) (fun _ _ => rfl) (fun ext i o hi => ?_) (fun i j o1 o2 hi hwi hj hwj hβ => h.h.inj i j o1 o2 (old i o1 hi hwi) hwi (old j o2 hj hwj) hwj hβ)
  rw [obj_cons] at hi
  split at hi
  · cases hi
    exact .inr ⟨trivial, fun q => q.elim⟩
  · exact .inl ⟨hi, fun _ => rfl⟩
/-- A list that is nil. -/
theorem RepE.newNil (h : RepE C S E a w) {id : Nat} (hid : S.obj id = none) {en : Bool} {e : Sh} {et : TypeId} :
    ∃ E', RepE C (S.setObjs [(id, .grow en e et [])]) E' a w ∧ E'.σ id = .slice none 0 0 := by
  have hne : ∀ i, Dom S i → i ≠ id := fun i hi q => hi (q ▸ hid)
  have hσ : (E.upd id 0 (none, 0, 0) 0).σ id = .slice none 0 0 := by simp
  have old : ∀ i o, (S.setObjs [(id, .grow en e et [])]).obj i = some o → Owns (E.upd id 0 (none, 0, 0) 0) i o → S.obj i = some o ∧ i ≠ id ∧ Owns E i o := by
    intro i o hi hw
    rw [obj_cons] at hi
    split at hi
    · rename_i q
      subst q
      cases hi
      exact absurd hσ hw
    · rename_i q
      exact ⟨hi, q, (Owns.env (upd_ne E q).2.1).1 hw⟩
  refine ⟨_, (h.step (S' := S.setObjs [(id, .grow en e et [])]) (E' := E.upd id 0 (none, 0, 0) 0) (w' := w) (fun _ => rfl) (Later.refl _) (fun _ _ _ => rfl)
    (fun i hi => ⟨by unfold Dom at *; rw [obj_cons]; split <;> simp [obj_nil, hi], upd_ne E (hne i hi)⟩) (fun b _ _ h3 i o hi hw => ?_) (fun _ _ => rfl) (fun ext i o hi => ?_) (fun i j o1 o2 hi hwi hj hwj hβ => ?_)).1, hσ⟩
  · obtain ⟨q1, q2, q3⟩ := old i o hi hw
    rw [(upd_ne E q2).1]
    exact h3 i o q1 q3
  · rw [obj_cons] at hi
    split at hi
    · rename_i q
      subst q
      cases hi
      exact .inr ⟨⟨by simp, .inl ⟨hσ, rfl⟩⟩, fun q => absurd hσ q⟩
    · exact .inl ⟨hi, fun _ => rfl⟩
  · obtain ⟨q1, q2, q3⟩ := old i o1 hi hwi
    obtain ⟨r1, r2, r3⟩ := old j o2 hj hwj
    rw [(upd_ne E q2).1, (upd_ne E r2).1] at hβ
    exact h.h.inj i j o1 o2 q1 q3 r1 r3 hβ
/-- A row passes to another number, and is written. -/
theorem RepE.pass (h : RepE C S E a w) {id nid : Nat} (hn : S.obj nid = none) {en : Bool} {e : Sh} {et : TypeId} {xs ys : List e.T} (hid : S.obj id = some (.grow en e et xs)) (hO : Owns E id (.grow en e et xs)) {w' : World} (hlat : Later w w') (hsz : w'.heap.size = w.heap.size)
    (hw : ∀ k, k ≠ E.β id → w'.heap[k]? = w.heap[k]?) {cur : Array Value} {cells : List Value} {cap : Nat} (hh : w'.heap[E.β id]? = some (.cells cur et (0, 0))) (hr : RowsL (fun x c => PC (Al C S E w) w e x c) ys cells)
    (ht : cur.toList.take (ys.length * e.size) = cells) (hc : cur.size = cap * e.size) (hl : ys.length ≤ cap) (hm : cap ≤ maxLen) :
    ∃ E', RepE C (S.setObjs [(nid, .grow en e et ys), (id, .gone)]) E' a w' ∧ E'.σ nid = .slice (some ⟨E.β id, 0, none⟩) ys.length cap := by
  have hne : ∀ i, Dom S i → i ≠ nid := fun i hi q => hi (q ▸ hn)
  have hin : id ≠ nid := hne id (by unfold Dom; rw [hid]; simp)
  obtain ⟨E', hE'⟩ : ∃ E', E' = E.upd nid (E.β id) (some ⟨E.β id, 0, none⟩, ys.length, cap) ys.length := ⟨_, rfl⟩
  have hσ : E'.σ nid = .slice (some ⟨E.β id, 0, none⟩) ys.length cap := by rw [hE']; simp
  have hβn : E'.β nid = E.β id := by rw [hE']; simp
  have hEne : ∀ i, i ≠ nid → E'.β i = E.β i ∧ E'.σ i = E.σ i ∧ E'.ln i = E.ln i := fun i q => by rw [hE']; exact upd_ne E q
  have look : ∀ i, (S.setObjs [(nid, .grow en e et ys), (id, .gone)]).obj i = if i = nid then some (.grow en e et ys) else if i = id then some .gone else S.obj i := by
    intro i
    rw [obj_cons, obj_cons, obj_nil]
  have old : ∀ i o, (S.setObjs [(nid, .grow en e et ys), (id, .gone)]).obj i = some o → Owns E' i o → (i = nid ∧ o = .grow en e et ys) ∨ (i ≠ nid ∧ i ≠ id ∧ S.obj i = some o ∧ Owns E i o) := by
    intro i o hi hw
    rw [look] at hi
    split at hi
    · cases hi; exact .inl ⟨by assumption, rfl⟩
    · rename_i q
      split at hi
      · cases hi; exact hw.elim
      · rename_i q'
        exact .inr ⟨q, q', hi, (Owns.env (hEne i q).2.1).1 hw⟩
  have hAw : ∀ b, Al C S E w b → w'.heap[b]? = w.heap[b]? := fun b hb => hw b (Ne.symm (h.h.apart hid hO hb))
  refine ⟨E', (h.step (S' := S.setObjs [(nid, .grow en e et ys), (id, .gone)]) (E' := E') (w' := w') (fun _ => rfl) hlat (fun b h1 h2 => hw b (h.h.away hid hO h1 h2)) (fun i hi => ⟨by unfold Dom at *; rw [look]; split <;> (try split) <;> simp_all, hEne i (hne i hi)⟩) (fun b h1 h2 h3 i o hi hwi => ?_) hAw (fun ext i o hi => ?_) (fun i j o1 o2 hi hwi hj hwj hβ => ?_)).1, hσ⟩
  · rcases old i o hi hwi with ⟨q1, q2⟩ | ⟨q1, q2, q3, q4⟩
    · rw [q1, hβn]
      exact h3 id _ hid hO
    · rw [(hEne i q1).1]
      exact h3 i o q3 q4
  · rw [look] at hi
    split at hi
    · rename_i q
      subst q
      cases hi
      refine .inr ⟨⟨by rw [hE']; simp, .inr ⟨cap, cur, cells, by rw [hσ, hβn], by rw [hβn]; exact hh, hl, hm, hc, hr.imp (fun _ _ => ext.pc), ht⟩⟩, fun _ => ?_⟩
      rw [hβn, hsz]
      have := h.h.fresh id _ hid hO
      exact ⟨this.1, this.2.imp (fun q => q) (fun q => ⟨q.1, q.2⟩)⟩
    · rename_i q
      split at hi
      · cases hi
        exact .inr ⟨trivial, fun q => q.elim⟩
      · rename_i q'
        refine .inl ⟨hi, fun hwi => hw _ (fun q2 => q' (h.h.inj i id o _ hi hwi hid hO q2))⟩
  · rcases old i o1 hi hwi with ⟨q1, q2⟩ | ⟨q1, q2, q3, q4⟩ <;> rcases old j o2 hj hwj with ⟨r1, r2⟩ | ⟨r1, r2, r3, r4⟩
    · rw [q1, r1]
    · rw [q1, hβn, (hEne j r1).1] at hβ
      exact absurd (h.h.inj id j _ o2 hid hO r3 r4 hβ).symm r2
    · rw [r1, hβn, (hEne i q1).1] at hβ
      exact absurd (h.h.inj i id o1 _ q3 q4 hid hO hβ) q2
    · rw [(hEne i q1).1, (hEne j r1).1] at hβ
      exact h.h.inj i j o1 o2 q3 q4 r3 r4 hβ
end
end Go.Rx
/-! Rx, part 12: append. -/
namespace Go.Rx
set_option linter.unusedVariables false
set_option linter.unusedSimpArgs false
section
variable {C : Ctx} {S : AS} {E : Env} {a : Act} {w : World} {G : Gl}
theorem rows_one {A : Nat → Prop} {e : Sh} : ∀ {xs : List e.T} {cs : List Value}, RowsL (fun x c => PC A w e x c) xs cs → ∀ v ∈ cs, v.oneCell' = true
  | [], _, h => by cases h; simp
  | x :: xs, _, ⟨c, r, e1, h1, h2⟩ => by
    intro v hv
    rw [e1] at hv
    rcases List.mem_append.1 hv with hv | hv
    · exact cells_pc h1 v hv
    · exact rows_one h2 v hv
theorem list_ok (h : RepE C S E a w) {e : Sh} {v : AV} {x : Value} {d : DC (.sl e)} (hv : RepV (Dom S) E (Al C S E w) w v x) (hd : listAV S e v = some d) :
    ∃ ad cap, x = .slice ad (List.length d.x) cap ∧ (d.x ≠ [] → ∃ b off, ad = some ⟨b, off, none⟩ ∧ ∃ cells, RowsL (fun x c => PC (Al C S E w) w e x c) d.x cells ∧ At w ⟨b, off, none⟩ cells) := by
  have ofPC : ∀ {xs : List e.T}, PC (Al C S E w) w (.sl e) xs [x] → ∃ ad cap, x = .slice ad (List.length xs) cap ∧ (xs ≠ [] → ∃ b off, ad = some ⟨b, off, none⟩ ∧ ∃ cells, RowsL (fun x c => PC (Al C S E w) w e x c) xs cells ∧ At w ⟨b, off, none⟩ cells) := by
    intro xs hp
    obtain ⟨ad, cap, e1, _, h2⟩ := hp
    refine ⟨ad, cap, by simpa using e1, fun hne => ?_⟩
    obtain ⟨⟨b, off, sp⟩, e2, h3, h4, cells, h5, h6⟩ := h2 hne
    simp only at h3
    subst h3
    exact ⟨b, off, e2, cells, h5, h6⟩
  unfold listAV at hd
  split at hd
  · split at hd
    · rename_i q _
      subst q
      cases hd
      simp only [RepV] at hv
      exact ofPC hv
    · cases hd
  · cases hd
    simp only [RepV] at hv
    exact ⟨none, 0, by rw [hv]; rfl, fun q => absurd rfl q⟩
  · rename_i id
    simp only [RepV] at hv
    split at hd
    · rename_i en e' et xs hob
      split at hd
      · rename_i q _
        subst q
        cases hd
        obtain ⟨q1, q2⟩ := h.h.objs id _ hob
        rcases q2 with ⟨q2, q3⟩ | ⟨cap, cur, cells, q2, q3, q4, q5, q6, q7, q8⟩
        · subst q3
          exact ⟨none, 0, by rw [hv.2, q2]; rfl, fun q => absurd rfl q⟩
        · refine ⟨_, cap, by rw [hv.2, q2]; rfl, fun _ => ⟨_, _, rfl, cells, q7, fun j v hj => ?_⟩⟩
          rw [← q8, List.getElem?_take] at hj
          split at hj
          · simp only [World.cell?, q3, Nat.zero_add]; simpa using hj
          · cases hj
      · cases hd
    · rename_i e' xs hob
      split at hd
      · rename_i q _
        subst q
        cases hd
        rw [hv.2] at ofPC ⊢
        exact ofPC (h.h.objs id _ hob).2.1
      · cases hd
    · cases hd
  · cases hd
theorem append_ok {st : TypeId} {nid : Nat} {s x : Operand} {e : Eff} (hty : TyOK C.P G) (h : RepE C S E a w) (hn : S.obj nid = none) {o : Oper} (ho : o.op = .call ⟨.builtin .append, #[s, x], #[st, st]⟩)
    (he : (evAppend G S nid st (S.ev s) (S.ev x)).sat (· = e)) : OpWP C S a w o e := by
  have hs := h.ev s
  have hx := h.ev x
  unfold evAppend at he
  split at he
  case h_2 => cases he
  rename_i ts hts
  split at he
  case h_2 => cases he
  rename_i el htt
  split at he
  case h_2 => cases he
  rename_i te hg
  split at he
  case h_2 => cases he
  rename_i d d' hd hd' hsz
  split at he
  case h_2 => cases he
  rename_i hmeet hdat
  obtain ⟨h1, h2, he⟩ := he
  cases he
  have hsz := Nat.eq_of_beq_eq_true hsz
  simp only [Bool.and_eq_true] at hdat
  have hpos : 0 < te.size := Nat.le_of_ble_eq_true hdat.2
  have h1 : (d.x.length + List.length d'.x) * te.bytes ≤ 140737488355328 := by simpa using h1
  have h2 : d.x.length + List.length d'.x ≤ 140737488355328 := by simpa using h2
  obtain ⟨i, z, hi, hz, hzs, his, hib, hok⟩ := zero_run (hty _ _ hg)
  obtain ⟨el', hu, htt'⟩ := isSl_under (hty _ _ hts) (by rw [htt]; rfl)
  rw [htt] at htt'
  cases htt'
  obtain ⟨ad, cap', hxv, hxr⟩ := list_ok h hx hd'
  have exec : ∀ {v : Value} {w' : World}, (Builtin.append_ #[st, st] o.type #[a.eval s, a.eval x]).run C.P w = .ok v w' → (execOp a.eval o).run C.P w = .ok (.value v) w' := by
    intro v w' hr
    unfold execOp
    simp only [ho, resolve, invoke, builtin, Sem.run_bind, Sem.run_pure, Result.andThen_ok, List.map_toArray, List.map_cons, List.map_nil, hr]
  -- nothing is appended
  have none_run : d'.x = [] → ∀ {ad0 : Option Addr} {n c : Nat}, a.eval s = .slice ad0 n c → n ≤ c → (ad0 = none ∨ ∃ b, ad0 = some ⟨b, 0, none⟩ ∧ ∃ cur et, w.heap[b]? = some (.cells cur et (0, 0))) → (Builtin.append_ #[st, st] o.type #[a.eval s, a.eval x]).run C.P w = .ok (.slice ad0 n c) w := by
    intro hnil ad0 n c hsv hnc had
    rw [hnil] at hxv
    have hxv : a.eval x = .slice ad 0 cap' := hxv
    rw [hsv, hxv]
    cases ad <;> rcases had with rfl | ⟨b, rfl, cur, et, hcur⟩ <;>
      simp [Builtin.append_, run_underlying hu, sizeOf, typeInfo, hi, Builtin.lenOf, hnc, Builtin.firstCells, loadCells, loadCellsFrom, storeCells]
  -- what the new list is made of
  have news : d'.x ≠ [] → ∃ b off cells, a.eval x = .slice (some ⟨b, off, none⟩) (List.length d'.x) cap' ∧ RowsL (fun x c => PC (Al C S E w) w te.sh x c) d'.x cells ∧ cells.length = List.length d'.x * i.size ∧
      (∀ j u, cells[j]? = some u → w.cell? ((⟨b, off, none⟩ : Addr).add j) = some u) ∧ ∀ u ∈ cells, u.oneCell' = true := by
    intro hne
    obtain ⟨b, off, e1, cells, h5, h6⟩ := hxr hne
    refine ⟨b, off, cells, by rw [hxv, e1], h5, by rw [h5.length (fun x c h => h.length), hsz, his], fun j u hu => by rw [Addr.add_lit]; exact h6 j u hu, rows_one h5⟩
  -- a new row
  have fresh : ∀ {xs : List te.sh.T} {cells news : List Value} {c : Nat} {vis : List Nat} {S1 : AS} (hS1 : RepE C S1 E a w) (hext : Ext (Dom S) E (Al C S E w) w (Dom S1) E (Al C S1 E w) w) (hn1 : S1.obj nid = none),
      xs.length + List.length d'.x ≤ 140737488355328 → RowsL (fun x c => PC (Al C S E w) w te.sh x c) xs cells → cells.length = xs.length * i.size → RowsL (fun x c => PC (Al C S E w) w te.sh x c) d'.x news → news.length = List.length d'.x * i.size →
      ∃ E', RepE C (S1.setObjs [(nid, .grow d.en te.sh el (xs ++ d'.x))]) E' a (w.drew.alloc (.cells (cells.toArray ++ news.toArray ++ Builtin.zeroCells z.cells (grownCap w (xs.length + List.length d'.x) c el - (xs.length + List.length d'.x))) el)) ∧
        E'.σ nid = .slice (some ⟨w.heap.size, 0, none⟩) (xs.length + List.length d'.x) (grownCap w (xs.length + List.length d'.x) c el) := by
    intro xs cells news c vis S1 hS1 hext hn1 hle hr1 hl1 hr2 hl2
    have hge := grownCap_ge w (xs.length + List.length d'.x) c el
    have hcm := grownCap_le_maxLen w (xs.length + List.length d'.x) c el (by unfold maxLen; omega)
    have hd1 := hS1.drew
    have hrow := (hr1.append hr2).imp (R' := fun x c => PC (Al C S1 E w.drew) w.drew te.sh x c) (fun x c q => by
      have q1 : PC (Al C S E w) w te.sh x c := q
      have q2 : PC (Al C S1 E w) w te.sh x c := hext.pc q1
      exact PC.mono (A := Al C S1 E w) (A' := Al C S1 E w.drew) (w := w) (w' := w.drew) (fun b hb => hb) (fun b _ o v hv => hv) q2)
    have hlen : (xs ++ d'.x).length = xs.length + List.length d'.x := by simp
    obtain ⟨cap, hcap⟩ : ∃ k, k = grownCap w (xs.length + List.length d'.x) c el := ⟨_, rfl⟩
    rw [← hcap] at hge hcm ⊢
    obtain ⟨cur, hcur⟩ : ∃ k, k = cells.toArray ++ news.toArray ++ Builtin.zeroCells z.cells (cap - (xs.length + List.length d'.x)) := ⟨_, rfl⟩
    rw [← hcur]
    have hsz1 : cur.size = cap * te.sh.size := by
      rw [hcur]
      simp only [Array.size_append, List.size_toArray, size_zeroCells, hzs, hl1, hl2, his, hsz, ← Nat.add_mul]
      congr 1
      omega
    have htk : cur.toList.take ((xs ++ d'.x).length * te.sh.size) = cells ++ news := by
      have : (xs ++ d'.x).length * te.sh.size = (cells ++ news).length := by rw [hlen, List.length_append, hl1, hl2, his, hsz, Nat.add_mul]
      rw [this, hcur]
      simp only [Array.toList_append]
      exact List.take_left
    have q := hd1.alloc hn1 (.grow d.en te.sh el (xs ++ d'.x)) (.cells cur el) ⟨_, _, rfl⟩ (some ⟨w.heap.size, 0, none⟩, xs.length + List.length d'.x, cap) (xs ++ d'.x).length (by
      intro D' A' ext _
      refine ⟨by simp, .inr ⟨cap, cur, cells ++ news, by simp, ?_, by rw [hlen]; exact hge, hcm, hsz1, hrow.imp (fun _ _ => ext.pc), htk⟩⟩
      simp only [upd_β]
      exact heap_alloc_new w.drew _)
    exact ⟨_, q.1, by simp⟩
  unfold appDest at hd
  split at hd
  · -- the nil slice
    rename_i heq
    cases hd
    rw [heq] at hs
    simp only [RepV] at hs
    simp only [List.length_nil, Nat.zero_add] at h1 h2
    by_cases hne : d'.x = []
    · have hrun := none_run hne hs (Nat.le_refl _) (.inl rfl)
      obtain ⟨E', r1, r2⟩ := h.newNil hn (en := false) (e := te.sh) (et := el)
      refine OpWP.run (exec hrun) (E' := E') ?_ ?_
      · simp only [hne]; exact r1
      · simp only [RepV, hne]; exact ⟨dom_new _ _ _ _, by rw [r2]⟩
    · obtain ⟨b, off, nws, hxv', hr2, hl2, hcell, hone⟩ := news hne
      have hm : 0 < List.length d'.x := List.length_pos_iff.2 hne
      have hrun := run_append_nil (P := C.P) w st o.type el i z hu hi hz ⟨b, off, none⟩ (List.length d'.x) cap' nws hl2 hcell hm (by omega) (by rw [hib]; exact (by omega : List.length d'.x * te.bytes ≤ 281474976710656))
      rw [← hs, ← hxv'] at hrun
      obtain ⟨E', r1, r2⟩ := fresh (xs := []) (cells := []) (c := 0) (vis := []) h Ext.refl hn (by simpa using h2) rfl (by simp) hr2 hl2
      simp only [List.length_nil, Nat.zero_add, List.nil_append, Array.empty_append] at r1 r2
      refine OpWP.run (exec hrun) (E' := E') ?_ ?_
      · exact r1
      · simp only [RepV]; exact ⟨dom_new _ _ _ _, by rw [r2]⟩
  · rename_i id heq
    rw [heq] at hs
    simp only [RepV] at hs
    split at hd
    · rename_i en e' et xs hob
      split at hd
      · rename_i q _ hbe
        have hbe := Nat.eq_of_beq_eq_true hbe
        subst hbe
        subst q
        cases hd
        simp only [castL_rfl] at h1 h2 fresh ⊢
        have hdom : Dom S id := by unfold Dom; rw [hob]; simp
        obtain ⟨k1, k2⟩ := h.kill hdom
        have hin : nid ≠ id := fun q => by rw [q, hob] at hn; cases hn
        have hn1 : (S.setObjs [(id, .gone)]).obj nid = none := by rw [obj_cons, if_neg hin]; exact hn
        obtain ⟨q1, q2⟩ := h.h.objs id _ hob
        rcases q2 with ⟨q2, q3⟩ | ⟨cap, cur, cells, q2, q3, q4, q5, q6, q7, q8⟩
        · subst q3
          by_cases hne : d'.x = []
          · have hrun := none_run hne (by rw [hs.2]; exact q2) (Nat.le_refl _) (.inl rfl)
            obtain ⟨E', r1, r2⟩ := k1.newNil hn1 (en := en) (e := te.sh) (et := et)
            refine OpWP.run (exec hrun) (E' := E') ?_ ?_
            · simp only [hne]; exact r1
            · simp only [RepV, hne]; exact ⟨dom_new _ _ _ _, by rw [r2]⟩
          · obtain ⟨b, off, nws, hxv', hr2, hl2, hcell, hone⟩ := news hne
            have hm : 0 < List.length d'.x := List.length_pos_iff.2 hne
            have hrun := run_append_nil (P := C.P) w st o.type et i z hu hi hz ⟨b, off, none⟩ (List.length d'.x) cap' nws hl2 hcell hm (by omega) (by rw [hib]; exact (by simp only [List.length_nil, Nat.zero_add] at h1; omega : List.length d'.x * te.bytes ≤ 281474976710656))
            rw [← q2, ← hs.2, ← hxv'] at hrun
            obtain ⟨E', r1, r2⟩ := fresh (xs := []) (cells := []) (c := 0) (vis := []) k1 k2 hn1 (by simpa using h2) rfl (by simp) hr2 hl2
            simp only [List.length_nil, Nat.zero_add, List.nil_append, Array.empty_append] at r1 r2
            refine OpWP.run (exec hrun) (E' := E') ?_ ?_
            · exact r1
            · simp only [RepV]; exact ⟨dom_new _ _ _ _, by rw [r2]⟩
        · have hOw : Owns E id (.grow en te.sh et xs) := by simp only [Owns]; rw [q2]; simp
          have hcl := q7.length (fun x c h => h.length)
          by_cases hroom : xs.length + List.length d'.x ≤ cap
          · by_cases hne : d'.x = []
            · have hrun := none_run hne (by rw [hs.2]; exact q2) q4 (.inr ⟨_, rfl, cur, et, q3⟩)
              obtain ⟨E', r1, r2⟩ := h.pass hn hob hOw (Later.refl _) rfl (fun _ _ => rfl) q3 (ys := xs) q7 q8 q6 q4 q5
              refine OpWP.run (exec hrun) (E' := E') ?_ ?_
              · simp only [hne, List.append_nil]; exact r1
              · simp only [RepV, hne, List.append_nil]; exact ⟨dom_new _ _ _ _, by rw [r2]⟩
            · obtain ⟨b, off, nws, hxv', hr2, hl2, hcell, hone⟩ := news hne
              have hfit : xs.length * i.size + nws.length ≤ cur.size := by rw [hl2, q6, ← Nat.add_mul, his, hsz]; exact Nat.mul_le_mul_right _ hroom
              have hrun := run_append_room (P := C.P) w st o.type et i hu hi (E.β id) xs.length cap cur q3 ⟨b, off, none⟩ (List.length d'.x) cap' nws hl2 hcell hone hroom hfit
              rw [← q2, ← hs.2, ← hxv'] at hrun
              have hsz' : (cur.toList.take (xs.length * i.size) ++ nws ++ cur.toList.drop (xs.length * i.size + nws.length)).toArray.size = cur.size := by
                simp only [List.size_toArray, List.length_append, List.length_take, List.length_drop, Array.length_toList]
                omega
              obtain ⟨E', r1, r2⟩ := h.pass hn hob hOw (w' := w.setRow (E.β id) (cur.toList.take (xs.length * i.size) ++ nws ++ cur.toList.drop (xs.length * i.size + nws.length)).toArray) (later_setRow _ _ _) (by simp) (fun k hk => setRow_other w _ k _ hk)
                (setRow_heap w _ cur _ et _ q3) (ys := xs ++ d'.x) (cells := cells ++ nws) (q7.append hr2) (by
                  have hlen : (xs ++ d'.x).length * te.sh.size = (cells ++ nws).length := by rw [List.length_append, List.length_append, hcl, hl2, his, hsz, Nat.add_mul]
                  rw [hlen]
                  have q8' : cur.toList.take (xs.length * i.size) = cells := by rw [his, ← hsz]; exact q8
                  simp only [q8']
                  exact List.take_left) (cap := cap) (by rw [hsz', q6]) (by simp; omega) q5
              refine OpWP.run (exec hrun) (E' := E') ?_ ?_
              · exact r1
              · simp only [RepV]; exact ⟨dom_new _ _ _ _, by rw [r2]; simp⟩
          · have hne : d'.x ≠ [] := by
              intro q
              rw [q] at hroom
              simp at hroom
              omega
            obtain ⟨b, off, nws, hxv', hr2, hl2, hcell, hone⟩ := news hne
            have hold : ∀ j v, cells[j]? = some v → w.cell? ((⟨E.β id, 0, none⟩ : Addr).add j) = some v := by
              intro j v hj
              rw [Addr.add_lit, Nat.zero_add]
              rw [← q8, List.getElem?_take] at hj
              split at hj
              · simp only [World.cell?, q3]; simpa using hj
              · cases hj
            have hcl' : cells.length = xs.length * i.size := by rw [hcl, his, hsz]
            have hrun := run_append_grow (P := C.P) w st o.type et i z hu hi hz ⟨E.β id, 0, none⟩ xs.length cap cells hcl' hold ⟨b, off, none⟩ (List.length d'.x) cap' nws hl2 hcell (by omega) (by omega) (growslice_fits (by omega) (by rw [hib]; exact h1))
            rw [← q2, ← hs.2, ← hxv'] at hrun
            obtain ⟨E', r1, r2⟩ := fresh (xs := xs) (cells := cells) (c := cap) (vis := []) k1 k2 hn1 h2 q7 hcl' hr2 hl2
            refine OpWP.run (exec hrun) (E' := E') ?_ ?_
            · exact r1
            · simp only [RepV]; exact ⟨dom_new _ _ _ _, by rw [r2]⟩
      · cases hd
    · cases hd
  · cases hd
end
end Go.Rx
/-! Rx, part 27: copy. -/
namespace Go.Rx
set_option linter.unusedVariables false
set_option linter.unusedSimpArgs false
section
variable {C : Ctx} {S : AS} {E : Env} {a : Act} {w : World} {G : Gl}
theorem storeArr_ok {n : Nat} {ti : TI} {t : TypeId} {x y : Operand} {e : Eff} (hm : G.m = C.m) (h : RepE C S E a w) (ht : TIOK C.P G.ty t ti) {o : Oper} (ho : o.op = .store t x y)
    (he : (evStoreArr G.m S n ti (S.ev x) (S.ev y)).sat (· = e)) : OpWP C S a w o e := by
  have hx := h.ev x
  have hy := h.ev y
  unfold evStoreArr at he
  split at he
  case h_2 => cases he
  rename_i id heq
  rw [heq] at hx
  simp only [RepV] at hx
  split at he
  case h_2 => cases he
  rename_i e1 xs hob
  split at he
  case h_2 => cases he
  rename_i d hsz hcb hd
  split at he
  case h_2 => cases he
  rename_i hvis
  obtain ⟨h3, he⟩ := he
  cases he
  have h3 := Nat.eq_of_beq_eq_true h3
  have hsz := Nat.eq_of_beq_eq_true hsz
  have hcs := cellsAV_ok hy hcb
  have hlen : (a.eval y).cells.size = ti.size := by rw [← hsz, ← repL_length hcs]; simp
  have hone := cells_one hcs hcb
  obtain ⟨q1, cells, et, q2, q3⟩ := h.h.objs id _ hob
  obtain ⟨r1, r2, r3, r4⟩ := h.dataN hm hd hcs
  have l1 := q3.length (fun x c h => h.length)
  have l2 := r3.length (fun x c h => h.length)
  rw [r4, h3, ← l1] at l2
  have hyl : (a.eval y).cells.toList.length = ti.size := by simpa using hlen
  rw [hyl] at l2
  have hst := storeVar_ok ht (off := 0) (v := a.eval y) q2 hlen (by simp; omega) hone
  have hvis' : id ∉ d.vis := fun q => by rw [hasId_iff.2 q] at hvis; cases hvis
  have hob1 : (S.setObjs (frz S.obj d.vis)).obj id = some (.arr e1 xs) := by rw [obj_frz, if_neg hvis']; exact hob
  have hw := r1.write (o' := .arr e1 d.x) (w' := w.setRow (E.β id) _) hob1 trivial (fun q => q) (later_setRow _ _ _) (by simp) (fun k hk => setRow_other w _ _ _ hk) (by
    intro D' A' ext
    refine ⟨by rw [r4, h3]; exact q1, (a.eval y).cells.toList, et, ?_, r3.imp (fun _ _ => ext.pc)⟩
    have := setRow_heap w _ _ ((cells.toArray.toList.take 0 ++ (a.eval y).cells.toList ++ cells.toArray.toList.drop (0 + ti.size)).toArray) _ _ q2
    rw [this]
    congr 2
    simp [List.drop_eq_nil_of_le (Nat.le_of_eq l2.symm)])
  refine OpWP.unit (w' := _) (E' := E) ?_ hw.1 rfl
  simp [execOp, ho, Instr.storeAt, hx.2, Instr.sureAddr, hst]
theorem copy_ok {st : TypeId} {s x : Operand} {e : Eff} (hty : TyOK C.P G) (h : RepE C S E a w) {o : Oper} (ho : o.op = .call ⟨.builtin .copy, #[s, x], #[st, st]⟩)
    (he : (evCopy G S st (S.ev s) (S.ev x)).sat (· = e)) : OpWP C S a w o e := by
  have hs := h.ev s
  have hx := h.ev x
  unfold evCopy at he
  split at he
  case h_2 => cases he
  rename_i ts hts
  split at he
  case h_2 => cases he
  rename_i el htt
  split at he
  case h_2 => cases he
  rename_i te hg
  split at he
  case h_2 => cases he
  rename_i id hsv
  split at he
  case h_2 => cases he
  rename_i en e1 et xs hob
  split at he
  case h_2 => cases he
  rename_i d hd hb1 hb2
  split at he
  case h_2 => cases he
  rename_i hv
  obtain ⟨h3, he⟩ := he
  cases he
  have h3 : 0 < xs.length := by simpa using h3
  have hb1 := Nat.eq_of_beq_eq_true hb1
  have hb2 := Nat.eq_of_beq_eq_true hb2
  obtain ⟨i, z, hi, hz, hzs, his, hib, hok⟩ := zero_run (hty _ _ hg)
  obtain ⟨el', hu, htt'⟩ := isSl_under (hty _ _ hts) (by rw [htt]; rfl)
  rw [htt] at htt'
  cases htt'
  have hs1 : (C.P.info? el).map (·.size) = some 1 := by rw [hi]; simp [his, hb2]
  rw [hsv] at hs
  simp only [RepV] at hs
  obtain ⟨ad, cap', hxv, hxr⟩ := list_ok h hx hd
  have exec : ∀ {v : Value} {w' : World}, (Builtin.copy_ #[st, st] o.type #[a.eval s, a.eval x]).run C.P w = .ok v w' → (execOp a.eval o).run C.P w = .ok (.value v) w' := by
    intro v w' hr
    unfold execOp
    simp only [ho, resolve, invoke, builtin, Sem.run_bind, Sem.run_pure, Result.andThen_ok, List.map_toArray, List.map_cons, List.map_nil, hr]
  obtain ⟨q1, q2⟩ := h.h.objs id _ hob
  rcases q2 with ⟨_, q3⟩ | ⟨cap, cur, cells, q3, q4, q5, q6, q7, q8, q9⟩
  · rw [q3] at h3
    simp at h3
  have hcl := q8.length (fun x c h => h.length)
  rw [hb1, Nat.mul_one] at hcl q7 q9
  have hO : Owns E id (.grow en e1 et xs) := by simp only [Owns]; rw [q3]; simp
  by_cases hne : d.x = []
  · have hrun := run_copy_none (P := C.P) w st st o.type el (some ⟨E.β id, 0, none⟩) ad xs.length cap 0 cap' hu hs1 (by simp)
    have hxv0 : a.eval x = .slice ad 0 cap' := by rw [hxv, hne]; rfl
    rw [← hxv0, ← q3, ← hs.2] at hrun
    have hw := h.write (o' := .grow en e1 et (List.take xs.length d.x ++ List.drop (List.length d.x) xs)) (w' := w) hob hO (fun q => q) (Later.refl _) rfl (fun k _ => rfl) (by
      intro D' A' ext
      have : List.take xs.length d.x ++ List.drop (List.length d.x) xs = xs := by simp [hne]
      rw [this]
      exact ⟨q1, .inr ⟨cap, cur, cells, q3, q4, q5, q6, by rw [hb1, Nat.mul_one]; exact q7, q8.imp (fun x c q => ext.pc q), by rw [hb1, Nat.mul_one]; exact q9⟩⟩)
    refine OpWP.run (exec hrun) (E' := E) hw.1 ?_
    simp [RepV, hne, goInt]
  · obtain ⟨b, off, hadv, nws, r1, r2⟩ := hxr hne
    have hnl := r1.length (fun x c h => h.length)
    rw [hb1, Nat.mul_one] at hnl
    have hn : (nws.take xs.length).length = Nat.min (List.length d.x) xs.length := by
      rw [List.length_take, hnl]
      exact Nat.min_comm _ _
    have hrun := run_copy_row (P := C.P) w st st o.type el (E.β id) 0 xs.length cap ⟨b, off, none⟩ (List.length d.x) cap' cur et (nws.take xs.length) hu hs1 q4 hn
      (fun j v hj => by
        rw [List.getElem?_take] at hj
        split at hj
        · rw [Addr.add_lit]; exact r2 j v hj
        · cases hj)
      (by rw [hn]; have : Nat.min (List.length d.x) xs.length ≤ xs.length := Nat.min_le_right _ _; omega)
      (fun v hv => rows_one r1 v (List.mem_of_mem_take hv))
    rw [hadv] at hxv
    rw [← hxv, ← q3, ← hs.2] at hrun
    simp only [List.take_zero, List.nil_append, Nat.zero_add] at hrun
    have hsz : ((nws.take xs.length) ++ cur.toList.drop (nws.take xs.length).length).toArray.size = cur.size := by
      simp only [List.size_toArray, List.length_append, List.length_drop, Array.length_toList, List.length_take]
      omega
    have hw := h.write (o' := .grow en e1 et (List.take xs.length d.x ++ List.drop (List.length d.x) xs)) (w' := w.setRow (E.β id) ((nws.take xs.length) ++ cur.toList.drop (nws.take xs.length).length).toArray) hob hO (fun q => q) (later_setRow _ _ _) (by simp) (fun k hk => setRow_other w _ k _ hk) (by
      intro D' A' ext
      have hlen : (List.take xs.length d.x ++ List.drop (List.length d.x) xs).length = xs.length := by
        simp only [List.length_append, List.length_take, List.length_drop]
        omega
      refine ⟨by rw [hlen]; exact q1, .inr ⟨cap, _, nws.take xs.length ++ cells.drop (List.length d.x), by rw [hlen]; exact q3, setRow_heap w _ cur _ et _ q4, by rw [hlen]; exact q5, q6, by rw [hsz, hb1, Nat.mul_one]; exact q7, ?_, ?_⟩⟩
      · have t1 := RowsL.take (n := 1) (fun x c h => by rw [h.length, hb1]) xs.length r1
        have t2 := RowsL.drop (n := 1) (fun x c h => by rw [h.length, hb1]) (List.length d.x) q8
        rw [Nat.mul_one] at t1 t2
        exact (t1.append t2).imp (fun x c q => ext.pc q)
      · rw [hlen, hb1, Nat.mul_one]
        show List.take xs.length (nws.take xs.length ++ cur.toList.drop (nws.take xs.length).length) = _
        rw [List.take_append, List.take_take, Nat.min_self]
        congr 1
        rw [List.length_take, ← q9, hnl]
        by_cases c : List.length d.x ≤ xs.length
        · rw [show min xs.length (List.length d.x) = List.length d.x by omega, List.drop_take]
        · rw [show min xs.length (List.length d.x) = xs.length by omega, Nat.sub_self, List.take_zero, List.drop_eq_nil_of_le]
          simp
          omega)
    refine OpWP.run (exec hrun) (E' := E) hw.1 ?_
    simp only [RepV, goInt, List.length_take, hnl]
    congr 2
    omega
theorem appendZ_ok {st it : TypeId} {nid : Nat} {s x : Operand} {e : Eff} (hty : TyOK C.P G) (h : RepE C S E a w) (hn : S.obj nid = none) {o : Oper} (ho : o.op = .call ⟨.builtin .append, #[s, x], #[st, it]⟩)
    (he : (evAppendZ G nid st it (S.ev s) (S.ev x)).sat (· = e)) : OpWP C S a w o e := by
  have hs := h.ev s
  have hx := h.ev x
  unfold evAppendZ at he
  split at he
  case h_2 => cases he
  rename_i kd n ts tn hsv hxv hts htn
  rw [hsv] at hs
  rw [hxv] at hx
  simp only [RepV] at hs hx
  split at he
  case h_2 => cases he
  rename_i el kn htt hti
  split at he
  case h_2 => cases he
  rename_i te hg
  split at he
  case h_2 => cases he
  rename_i hdat
  obtain ⟨h1, h2, h3, he⟩ := he
  cases he
  simp only [Bool.and_eq_true] at hdat
  have hpos : 0 < te.size := Nat.le_of_ble_eq_true hdat.2
  have h1 : 0 < n := by simpa using h1
  have h2 : n * te.bytes ≤ 140737488355328 := by simpa using h2
  have h3 : n ≤ 140737488355328 := by simpa using h3
  obtain ⟨i, z, hi, hz, hzs, his, hib, hok⟩ := zero_run (hty _ _ hg)
  obtain ⟨el', hu, htt'⟩ := isSl_under (hty _ _ hts) (by rw [htt]; rfl)
  rw [htt] at htt'
  cases htt'
  obtain ⟨dn, hdn, htdn⟩ := (hty _ _ htn).desc
  rw [hti] at htdn
  have hun : C.P.underlying it = some (.int kn) := by
    cases dn <;> simp [tdOf] at htdn
    rw [hdn, htdn]
  obtain ⟨m, hm⟩ : ∃ m : Nat, n = (m : Int) := ⟨n.toNat, by omega⟩
  subst hm
  have hb : m * i.bytes ≤ 281474976710656 := by
    rw [hib]
    have : ((m * te.bytes : Nat) : Int) ≤ 140737488355328 := by rw [Int.natCast_mul]; exact h2
    omega
  have hrun := Lib.run_append_nil_zeros (P := C.P) w st it o.type el i z kd kn hu hun hi hz m (by omega) (by omega) (by omega) hb
  rw [← hs, ← hx] at hrun
  have hge := grownCap_ge w m 0 el
  have hcm := grownCap_le_maxLen w m 0 el (by unfold maxLen; omega)
  generalize grownCap w m 0 el = cap at *
  have hd1 := h.drew
  have hzd := zero_data hok hdat.1
  have hshs : te.sh.size = te.size := by rw [← hzs]; have := (hzd (Al C S E w) w).length; simpa using this.symm
  have hcells : (Builtin.zeroCells z.cells m ++ Builtin.zeroCells z.cells (cap - m)).toList = repV z.cells.toList m ++ repV z.cells.toList (cap - m) := by
    rw [Array.toList_append]
    have e : ∀ k, (Builtin.zeroCells z.cells k).toList = repV z.cells.toList k := fun k => made_rep z.cells (by omega) k
    rw [e, e]
  have hrows : RowsL (fun x c => PC (Al C S E w.drew) w.drew te.sh x c) (List.replicate m te.sh.dflt) (repV z.cells.toList m) := rows_rep (hzd (Al C S E w.drew) w.drew) m
  have hlen : (repV z.cells.toList m).length = m * te.size := by rw [hrows.length (fun x c h => h.length), List.length_replicate, hshs]
  obtain ⟨E', s1, _, s3⟩ := hd1.newRow hn (et := el) (cur := Builtin.zeroCells z.cells m ++ Builtin.zeroCells z.cells (cap - m)) (cap := cap) hrows (by
      rw [hcells, List.length_replicate, hshs, ← hlen]
      exact List.take_left) (by rw [Array.size_append, size_zeroCells, size_zeroCells, hzs, hshs, ← Nat.add_mul]; congr 1; omega) (by rw [List.length_replicate]; exact hge) hcm
  refine OpWP.run (x := .slice (some ⟨w.heap.size, 0, none⟩) m cap) (w' := w.drew.alloc (.cells (Builtin.zeroCells z.cells m ++ Builtin.zeroCells z.cells (cap - m)) el)) ?_ (by rw [Int.toNat_natCast]; exact s1) ?_
  · unfold execOp
    simp only [ho, resolve, invoke, builtin, Sem.run_bind, Sem.run_pure, Result.andThen_ok, List.map_toArray, List.map_cons, List.map_nil, hrun]
  · simp only [RepV, Int.toNat_natCast]
    exact ⟨dom_new _ _ _ _, by rw [s3, List.length_replicate]; rfl⟩
theorem slice2_ok {t : TypeId} {ti : TI} {x : Operand} {lo hi : Option Operand} {e : Eff} {nid : Nat} (hty : TyOK C.P G) (h : RepE C S E a w) (ht : TIOK C.P G.ty t ti) (hn : S.obj nid = none) {o : Oper} (ho : o.op = .slice t x lo hi none)
    (he : (evSlice2 G S nid ti (S.ev x) (lo.map S.ev) (hi.map S.ev)).sat (· = e)) : OpWP C S a w o e := by
  have hx := h.ev x
  unfold evSlice2 at he
  split at he
  case h_3 => exact slice_ok hty h ht ho he
  case h_2 =>
    rename_i hsv
    rw [hsv] at hx
    simp only [RepV] at hx
    unfold evSliceNil at he
    split at he
    · rename_i el htt
      split at he
      · rename_i te hg
        obtain ⟨el', hd, hsz⟩ := elem_slice (n := te.size) hty ht (by rw [htt]; rfl) (by unfold elemOK; rw [htt]; simp only [hg]; exact Nat.beq_refl _)
        split at he
        · rename_i k n hlo hhi
          obtain ⟨h0, he⟩ := he
          cases he
          have h0 : n = 0 := by simpa using h0
          subst h0
          have hlo : lo = none := by simpa using hlo
          subst hlo
          cases hi with
          | none => cases hhi
          | some hx1 =>
            have hhi : S.ev hx1 = .int k 0 := by simpa using hhi
            have hl := h.ev hx1
            rw [hhi] at hl
            simp only [RepV] at hl
            refine OpWP.pure h (x := .slice none 0 0) ?_ (by simp [RepV])
            simp [execOp, ho, Instr.sliceAt, run_underlying hd, Instr.slice, hx, Instr.sliceBounds, Instr.sliceBound, hl, asIntOf, hsz]
        · cases he
      · cases he
    · cases he
  rename_i id hsv
  split at he
  case h_2 => exact slice_ok hty h ht ho he
  rename_i en e1 et xs hob
  unfold evSliceOwn at he
  split at he
  case h_2 => cases he
  rename_i hs hel
  obtain ⟨el, hd, hsz⟩ := elem_slice hty ht hs hel
  rw [hsv] at hx
  simp only [RepV] at hx
  obtain ⟨q1, q2⟩ := h.h.objs id _ hob
  split at he
  · rename_i k l hlo hhi
    obtain ⟨h0, h1, he⟩ := he
    cases he
    have h0 : 0 ≤ l := by simpa using h0
    have h1 : l ≤ (xs.length : Int) := by simpa using h1
    have hhi : hi = none := by simpa using hhi
    subst hhi
    cases lo with
    | none => cases hlo
    | some lx =>
      have hlo : S.ev lx = .int k l := by simpa using hlo
      have hl := h.ev lx
      rw [hlo] at hl
      simp only [RepV] at hl
      rcases q2 with ⟨q3, q4⟩ | ⟨cap, cur, cells, q3, q4, q5, q6, q7, q8, q9⟩
      · rw [q4] at h1 q1
        have hl0 : l = 0 := by simp at h1; omega
        subst hl0
        refine OpWP.pure h (x := .slice none 0 0) ?_ ?_
        · simp [execOp, ho, Instr.sliceAt, run_underlying hd, Instr.slice, hx.2, q3, Instr.sliceBounds, Instr.sliceBound, hl, asIntOf, hsz]
        · simp only [RepV]
          exact ⟨hx.1, none, 0, by rw [q1]; rfl, fun q => by rw [q1] at q; simp at q⟩
      · refine OpWP.pure h (x := .slice (if cap = l.toNat then some ⟨E.β id, 0, none⟩ else (some ⟨E.β id, 0, none⟩ : Option Addr).map (·.add (l.toNat * e1.size))) (xs.length - l.toNat) (cap - l.toNat)) ?_ ?_
        · have hb : l.toNat ≤ cap := by omega
          simp [execOp, ho, Instr.sliceAt, run_underlying hd, Instr.slice, hx.2, q3, Instr.sliceBounds, Instr.sliceBound, hl, asIntOf, hsz, h0, h1]
        · simp only [RepV]
          refine ⟨hx.1, _, _, by rw [q1], fun q => ?_⟩
          rw [q1] at q
          rw [if_neg (by omega)]
          simp [Addr.add_lit]
  · rename_i k hh hlo hhi
    obtain ⟨h0, h1, h2, he⟩ := he
    cases he
    have h0 : 0 ≤ hh := by simpa using h0
    have h1 : hh ≤ (xs.length : Int) := by simpa using h1
    have h2 : 0 < xs.length := by simpa using h2
    have hlo : lo = none := by simpa using hlo
    subst hlo
    cases hi with
    | none => cases hhi
    | some hx' =>
      have hhi : S.ev hx' = .int k hh := by simpa using hhi
      have hl := h.ev hx'
      rw [hhi] at hl
      simp only [RepV] at hl
      rcases q2 with ⟨_, q4⟩ | ⟨cap, cur, cells, q3, q4, q5, q6, q7, q8, q9⟩
      · rw [q4] at h2
        simp at h2
      · have hO : Owns E id (.grow en e1 et xs) := by simp only [Owns]; rw [q3]; simp
        have hcl := q8.length (fun x c h => h.length)
        have hlen : (xs.take hh.toNat).length = hh.toNat := by rw [List.length_take]; omega
        obtain ⟨E', r1, r2⟩ := h.pass hn hob hO (w' := w) (Later.refl _) rfl (fun _ _ => rfl) q4 (ys := xs.take hh.toNat) (cells := cells.take (hh.toNat * e1.size)) (RowsL.take (fun x c h => h.length) hh.toNat q8)
          (by rw [hlen, ← q9, List.take_take]; congr 1; have := Nat.mul_le_mul_right e1.size (show hh.toNat ≤ xs.length by omega); omega) (cap := cap) q7 (by rw [hlen]; omega) q6
        refine OpWP.run (w' := w) (x := .slice (some ⟨E.β id, 0, none⟩) hh.toNat cap) ?_ r1 ?_
        · have hcap : ¬ cap = 0 := by omega
          have hcap2 : ¬ (cap : Int) < hh := by omega
          simp [execOp, ho, Instr.sliceAt, run_underlying hd, Instr.slice, hx.2, q3, Instr.sliceBounds, Instr.sliceBound, hl, asIntOf, hsz, h0, h1, hcap, hcap2, Addr.add_lit]
        · simp only [RepV]
          exact ⟨dom_new _ _ _ _, by rw [r2, hlen]⟩
  · cases he
theorem clear_ok {st : TypeId} {x : Operand} {e : Eff} (hty : TyOK C.P G) (h : RepE C S E a w) {o : Oper} (ho : o.op = .call ⟨.builtin .clear, #[x], #[st]⟩)
    (he : (evClear G S st (S.ev x)).sat (· = e)) : OpWP C S a w o e := by
  have hx := h.ev x
  unfold evClear at he
  split at he
  case h_2 => cases he
  rename_i ts hts
  split at he
  case h_2 => cases he
  rename_i el htt
  split at he
  case h_2 => cases he
  rename_i te hg
  split at he
  case h_2 => cases he
  rename_i id sz lo hsv
  split at he
  case h_2 => cases he
  rename_i en e1 et xs hob
  split at he
  case h_2 => cases he
  rename_i hsh _ hb1 hb2
  obtain ⟨h3, he⟩ := he
  cases he
  have h3 : lo < xs.length := Nat.le_of_ble_eq_true h3
  simp only [Bool.and_eq_true] at hb2
  have hb1 := Nat.eq_of_beq_eq_true hb1
  have hb3 := Nat.eq_of_beq_eq_true hb2.1
  have hb4 := Nat.eq_of_beq_eq_true hb2.2.2
  obtain ⟨i, z, hi, hz, hzs, his, hib, hok⟩ := zero_run (hty _ _ hg)
  obtain ⟨el', hu, htt'⟩ := isSl_under (hty _ _ hts) (by rw [htt]; rfl)
  rw [htt] at htt'
  cases htt'
  have hzd := zero_data hok hb2.2.1
  rw [hsh] at hzd
  rw [hsv] at hx
  simp only [RepV] at hx
  obtain ⟨hD, ad, cp, hv, had⟩ := hx
  obtain ⟨q1, q2⟩ := h.h.objs id _ hob
  rw [q1] at hv had
  have exec : ∀ {v : Value} {w' : World}, (Builtin.clear_ #[st] o.type #[a.eval x]).run C.P w = .ok v w' → (execOp a.eval o).run C.P w = .ok (.value v) w' := by
    intro v w' hr
    unfold execOp
    simp only [ho, resolve, invoke, builtin, Sem.run_bind, Sem.run_pure, Result.andThen_ok, List.map_toArray, List.map_cons, List.map_nil, hr]
  have had := had h3
  subst had
  obtain ⟨v0, hv0⟩ : ∃ v0, z.cells = #[v0] := by
    have hz1 : z.cells.size = 1 := by rw [hzs, hb4]
    refine ⟨z.cells[0], ?_⟩
    apply Array.ext
    · simp [hz1]
    · intro k k1 k2
      have : k = 0 := by omega
      subst this
      rfl
  have hz0 : z.cells.toList = [v0] := by rw [hv0]
  rw [hz0] at hzd
  have hone : v0.oneCell' = true := cells_pc (hzd (fun _ => True) w) v0 (by simp)
  rcases q2 with ⟨_, q4⟩ | ⟨cap, cur, cells, q3, q4, q5, q6, q7, q8, q9⟩
  · rw [q4] at h3
    simp at h3
  have hcl := q8.length (fun x c h => h.length)
  rw [hb3, Nat.mul_one] at hcl q7 q9
  obtain ⟨n, hn⟩ : ∃ n, xs.length = lo + (n + 1) := ⟨xs.length - lo - 1, by omega⟩
  have hnn : xs.length - lo = n + 1 := by omega
  have hzc : (Builtin.zeroCells z.cells (n + 1)).toList = List.replicate (n + 1) v0 := by
    rw [hv0]
    simp [Builtin.zeroCells]
    apply List.ext_getElem
    · simp
    · intro i h1 h2
      simp [Nat.mod_one]
  have hvs : (List.replicate (n + 1) v0).length = n + 1 := List.length_replicate
  have hst := run_storeCells_at C.P (E.β id) (lo * sz) et (List.replicate (n + 1) v0) 0 cur w q4 (by rw [hvs, hb1, hb3]; omega) (fun v hv => by rw [List.eq_of_mem_replicate hv]; exact hone)
  rw [hb1, hb3, Nat.mul_one, Nat.add_zero, hvs] at hst
  have hrun : (Builtin.clear_ #[st] o.type #[a.eval x]).run C.P w = .ok (.tuple #[]) (w.setRow (E.β id) (cur.toList.take lo ++ List.replicate (n + 1) v0 ++ cur.toList.drop (lo + (n + 1))).toArray) := by
    rw [hv, hnn, hb1, hb3, Nat.mul_one]
    simp [Builtin.clear_, run_underlying hu, zeroValue, typeInfo, hi, hz, hzc, hst]
  have hO : Owns E id (.grow en e1 et xs) := by simp only [Owns]; rw [q3]; simp
  have hsz : (cur.toList.take lo ++ List.replicate (n + 1) v0 ++ cur.toList.drop (lo + (n + 1))).toArray.size = cur.size := by
    simp only [List.size_toArray, List.length_append, List.length_drop, Array.length_toList, List.length_take, List.length_replicate]
    omega
  have hw := h.write (o' := .grow en e1 et (xs.take lo ++ List.replicate (xs.length - lo) e1.dflt)) (w' := w.setRow (E.β id) (cur.toList.take lo ++ List.replicate (n + 1) v0 ++ cur.toList.drop (lo + (n + 1))).toArray) hob hO (fun q => q) (later_setRow _ _ _) (by simp) (fun k hk => setRow_other w _ k _ hk) (by
    intro D' A' ext
    have hlen : (xs.take lo ++ List.replicate (xs.length - lo) e1.dflt).length = xs.length := by
      simp only [List.length_append, List.length_take, List.length_replicate]
      omega
    refine ⟨by rw [hlen]; exact q1, .inr ⟨cap, _, cells.take lo ++ List.replicate (n + 1) v0, by rw [hlen]; exact q3, setRow_heap w _ cur _ et _ q4, by rw [hlen]; exact q5, q6, by rw [hsz, hb3, Nat.mul_one]; exact q7, ?_, ?_⟩⟩
    · have t1 := RowsL.take (n := 1) (fun x c h => by rw [h.length, hb3]) lo q8
      rw [Nat.mul_one] at t1
      have t2 : RowsL (fun x c => PC (Al C S E w) w e1 x c) (List.replicate (n + 1) e1.dflt) (List.replicate (n + 1) v0) := by
        have := rows_rep (hzd (Al C S E w) w) (n + 1)
        have e : ∀ k, repV [v0] k = List.replicate k v0 := by
          intro k
          induction k with
          | zero => rfl
          | succ k ih => simp only [repV, ih, List.replicate_succ]; rfl
        rw [e] at this
        exact this
      rw [hnn]
      exact (t1.append t2).imp (fun x c q => ext.pc q)
    · rw [hlen, hb3, Nat.mul_one]
      show List.take xs.length (cur.toList.take lo ++ List.replicate (n + 1) v0 ++ cur.toList.drop (lo + (n + 1))) = _
      have hl : (cur.toList.take lo ++ List.replicate (n + 1) v0).length = xs.length := by
        simp only [List.length_append, List.length_take, List.length_replicate, Array.length_toList]
        omega
      rw [← hl, List.take_left, ← q9, List.take_take, Nat.min_eq_left (by omega)])
  refine OpWP.run (exec hrun) (E' := E) hw.1 ?_
  simp only [RepV]
end
end Go.Rx
