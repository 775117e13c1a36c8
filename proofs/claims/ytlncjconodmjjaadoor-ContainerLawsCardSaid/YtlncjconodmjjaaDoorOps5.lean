/- Rx, part 10: literals, make, append, len, min and max. -/
import Derived.Test.YtlncjconodmjjaaDoorOps4
import Derived.Laws.Append
namespace Go.Rx
set_option linter.unusedVariables false
set_option linter.unusedSimpArgs false
section
variable {C : Ctx} {S : AS} {E : Env} {a : Act} {w : World} {G : Gl}
theorem foldl_set (off : Nat) : ∀ (l : List Value) (k : Nat) (arr : Array Value), off + k + l.length ≤ arr.size →
    ((l.zipIdx k).foldl (fun cs p => cs.setIfInBounds (off + p.2) p.1) arr).toList = arr.toList.take (off + k) ++ l ++ arr.toList.drop (off + k + l.length)
  | [], k, arr, _ => by simp
  | v :: l, k, arr, h => by
    simp only [List.zipIdx_cons, List.foldl_cons]
    rw [foldl_set off l (k + 1) _ (by simp at h ⊢; omega)]
    have := list_seg_step arr.toList (off + k) v l (by simp at h ⊢; omega)
    simp only [Array.toList_setIfInBounds]
    rw [show off + (k + 1) = off + k + 1 by omega, this]
    simp [Nat.add_comm, Nat.add_left_comm]
inductive RepP (D : Nat → Prop) (E : Env) (A : Nat → Prop) (w : World) : List (Nat × AV) → List (Nat × Value) → Prop
  | nil : RepP D E A w [] []
  | cons (i : Nat) (v : AV) (x : Value) (l : List (Nat × AV)) (r : List (Nat × Value)) : RepV D E A w v x → RepP D E A w l r → RepP D E A w ((i, v) :: l) ((i, x) :: r)
theorem fill_ok {D : Nat → Prop} {A : Nat → Prop} {place place' : Nat → Option (Nat × Nat)} (hp : ∀ i q, place i = some q → place' i = some q) : ∀ {parts : List (Nat × AV)} {vparts : List (Nat × Value)} {cs cs' : List AV} {vs : List Value},
    RepP D E A w parts vparts → fillAV place cs parts = some cs' → RepL D E A w cs vs → ∃ vs', Instr.fill place' vs.toArray vparts = some vs'.toArray ∧ RepL D E A w cs' vs'
  | [], _, cs, cs', vs, hpt, h, hr => by
    cases hpt
    simp only [fillAV] at h
    cases h
    exact ⟨vs, rfl, hr⟩
  | (i, v) :: rest, _, cs, cs', vs, hpt, h, hr => by
    cases hpt
    rename_i x r hx hrest
    simp only [fillAV] at h
    split at h
    · cases h
    · rename_i off size hpl
      split at h
      · rename_i h1 h2 h3
        have h1 := Nat.eq_of_beq_eq_true h1
        have h2 := Nat.le_of_ble_eq_true h2
        have hc := cellsAV_ok hx h3
        have hlen := repL_length hc
        have hl := repL_length hr
        have hsz : x.cells.size = size := by rw [← h1, ← hlen]; simp
        obtain ⟨vs', q1, q2⟩ := fill_ok hp hrest h (repL_splice off hr hc)
        refine ⟨vs', ?_, q2⟩
        simp only [Instr.fill, hp i _ hpl]
        rw [if_neg (by simp [hsz]; omega)]
        have := foldl_set off x.cells.toList 0 vs.toArray (by simp; omega)
        have e : (x.cells.zipIdx.foldl (fun cs (c, j) => cs.setIfInBounds (off + j) c) vs.toArray) = (vs.take off ++ x.cells.toList ++ vs.drop (off + x.cells.toList.length)).toArray := by
          apply Array.ext'
          rw [← Array.foldl_toList, Array.toList_zipIdx]
          simpa using this
        rw [e]
        exact q1
      · cases h
theorem parts_ok (h : RepE C S E a w) : ∀ (l : List (Nat × Operand)), RepP (Dom S) E (Al C S E w) w (l.map fun p => (p.1, S.ev p.2)) (l.map fun p => (p.1, a.eval p.2))
  | [] => .nil
  | p :: l => .cons _ _ _ _ _ (h.ev p.2) (parts_ok h l)
theorem run_mapM {α β : Type} {P : Program} {w : World} {f : α → Sem β} {g : α → β} : ∀ (l : List α), (∀ x ∈ l, (f x).run P w = .ok (g x) w) → (l.mapM f).run P w = .ok (l.map g) w
  | [], _ => by simp
  | x :: l, h => by
    have := run_mapM l (fun y hy => h y (by simp [hy]))
    simp [h x (by simp), this]
theorem run_mapA {α β : Type} {P : Program} {w : World} {f : α → Sem β} {g : α → β} (l : Array α) (h : ∀ x ∈ l.toList, (f x).run P w = .ok (g x) w) : (l.mapM f).run P w = .ok (l.map g) w := by
  rw [Array.mapM_eq_mapM_toList]
  simp [run_mapM l.toList h]
  exact Array.ext' (by simp)
def repV (l : List Value) : Nat → List Value
  | 0 => []
  | n + 1 => l ++ repV l n
theorem repV_length (l : List Value) : ∀ n, (repV l n).length = n * l.length
  | 0 => by simp [repV]
  | n + 1 => by simp [repV, repV_length l n, Nat.succ_mul, Nat.add_comm]
theorem repL_rep {D : Nat → Prop} {A : Nat → Prop} {l : List AV} {vs : List Value} (h : RepL D E A w l vs) : ∀ n, RepL D E A w (rep l n) (repV vs n)
  | 0 => by simp [rep, repV, RepL]
  | n + 1 => by simp only [rep, repV]; exact repL_append.2 ⟨_, _, rfl, h, repL_rep h n⟩
theorem repV_get (l : List Value) (hl : 0 < l.length) : ∀ (n k : Nat), k < n * l.length → (repV l n)[k]? = l[k % l.length]?
  | 0, k, h => by simp at h
  | n + 1, k, h => by
    simp only [repV]
    by_cases hk : k < l.length
    · rw [List.getElem?_append_left hk, Nat.mod_eq_of_lt hk]
    · rw [List.getElem?_append_right (by omega), repV_get l hl n _ (by rw [Nat.succ_mul] at h; omega)]
      congr 1
      rw [Nat.mod_eq_sub_mod (a := k) (by omega)]
theorem made_rep (z : Array Value) (hz : 0 < z.size) (n : Nat) : (madeCells z (n * z.size)).toList = repV z.toList n := by
  apply List.ext_getElem?
  intro k
  by_cases hk : k < n * z.size
  · rw [repV_get z.toList (by simpa using hz) n k (by simpa using hk)]
    have hm : k % z.size < z.size := Nat.mod_lt _ hz
    simp [madeCells, hk, hm]
  · rw [List.getElem?_eq_none (by simp [size_madeCells]; omega), List.getElem?_eq_none (by rw [repV_length]; simp; omega)]
theorem rows_rep {A : Nat → Prop} {e : Sh} {d : e.T} {zs : List Value} (h : PC A w e d zs) : ∀ n, RowsL (fun x c => PC A w e x c) (List.replicate n d) (repV zs n)
  | 0 => rfl
  | n + 1 => ⟨zs, repV zs n, rfl, h, rows_rep h n⟩
theorem unk_repL {D : Nat → Prop} {E : Env} {w : World} {A : Nat → Prop} : ∀ {n : Nat} {zs : List Value}, zs.length = n → RepL D E A w (rep [.unk] n) zs
  | 0, [], _ => by simp [rep, RepL]
  | n + 1, v :: zs, h => by simp only [rep, List.cons_append, List.nil_append, RepL]; exact ⟨v, zs, rfl, by simp [RepV], unk_repL (by simpa using h)⟩
theorem unks_repL {D : Nat → Prop} {E : Env} {w : World} {A : Nat → Prop} : ∀ {l : List AV} {zs : List Value}, (∀ v, v ∈ l → v = .unk) → zs.length = l.length → RepL D E A w l zs
  | [], [], _, _ => by simp [RepL]
  | [], _ :: _, _, h => by cases h
  | v :: l, [], _, h => by cases h
  | v :: l, z :: zs, hv, h => by
    have := hv v (by simp)
    subst this
    simp only [RepL]
    exact ⟨z, zs, rfl, by simp [RepV], unks_repL (fun v h => hv v (by simp [h])) (by simpa using h)⟩
theorem rep_mem {v : AV} {l : List AV} : ∀ {n : Nat}, v ∈ rep l n → v ∈ l
  | 0, h => by cases h
  | n + 1, h => (List.mem_append.1 h).elim id (fun h => rep_mem h)
theorem zero_unk {ti : TI} (hd : ¬ ti.dat = true) : ∀ v, v ∈ zeroAV ti → v = .unk := by
  intro v hv
  unfold zeroAV at hv
  split at hv
  · contradiction
  · split at hv
    · simpa using rep_mem hv
    · simpa using hv
theorem zero_one {A : Nat → Prop} {ti : TI} {zs : List Value} (h : ZeroOK G.ty ti zs) (hs : zs.length = ti.size) (htt : ∃ fs, ti.td = .st fs) {D : Nat → Prop} : RepL D E A w (zeroAV ti) zs := by
  obtain ⟨fs, htt⟩ := htt
  by_cases hd : ti.dat = true
  · have : zeroAV ti = enc ti.sh ti.sh.dflt := by unfold zeroAV; rw [hd]
    rw [this]
    exact enc_ok (zero_data h hd _ _)
  · have hn : ti.nds = true := by
      cases q : ti.nds with
      | true => rfl
      | false => exact absurd (by unfold TI.dat; rw [q, htt]; rfl) hd
    have hz : zeroAV ti = rep [.unk] (ti.size - 1 + 1) := by
      unfold zeroAV
      have : ti.dat = false := by simpa using hd
      rw [this, hn]
    rw [hz]
    unfold ZeroOK at h
    rw [hn] at h
    have h : 0 < ti.size := h
    exact unk_repL (by omega)
theorem isSl_under {P : Program} {t : TypeId} {ti : TI} (ht : TIOK P G.ty t ti) (hs : isSl ti.td = true) : ∃ el, P.underlying t = some (.slice el) ∧ ti.td = .sl el := by
  obtain ⟨d, hd, htd⟩ := ht.desc
  cases hq : ti.td <;> rw [hq] at hs htd <;> first | (cases hs; done) | skip
  cases d <;> simp [tdOf] at htd
  subst htd
  exact ⟨_, hd, rfl⟩
theorem len_ok {x : Operand} {t : TypeId} {ti : TI} {n : Int} {rd : List Nat} (h : RepE C S E a w) (ht : TIOK C.P G.ty t ti) {o : Oper} (ho : o.op = .call ⟨.builtin .len, #[x], #[t]⟩) (he : lenAV S ti.td (S.ev x) = some (n, rd)) :
    OpWP C S a w o ⟨.int .i64 n, [], rd, []⟩ := by
  have hx := h.ev x
  have key : ∀ {ad : Option Addr} {k cap : Nat}, isSl ti.td = true → a.eval x = .slice ad k cap → n = (k : Int) → OpWP C S a w o ⟨.int .i64 n, [], rd, []⟩ := by
    intro ad k cap hs hv hn
    obtain ⟨el, hd, _⟩ := isSl_under ht hs
    refine OpWP.pure h (x := .int .i64 n) ?_ (by simp [RepV])
    simp [execOp, ho, resolve, invoke, builtin, hv, hn, Builtin.len_, run_underlying hd, goInt]
  unfold lenAV at he
  split at he
  · rename_i e1 xs heq
    rw [heq] at hx
    split at he
    · rename_i hs
      cases he
      simp only [RepV] at hx
      obtain ⟨ad, cap, q, _⟩ := hx
      exact key hs (by simpa using q) rfl
    · cases he
  · rename_i heq
    rw [heq] at hx
    split at he
    · rename_i hs
      cases he
      simp only [RepV] at hx
      exact key hs hx rfl
    · cases he
  · rename_i s heq
    rw [heq] at hx
    split at he
    · rename_i hs
      cases he
      simp only [RepV] at hx
      obtain ⟨d, hd, htd⟩ := ht.desc
      rw [hs] at htd
      cases d <;> simp [tdOf] at htd
      refine OpWP.pure h (x := .int .i64 (s.size : Int)) ?_ (by simp [RepV])
      simp [execOp, ho, resolve, invoke, builtin, hx, Builtin.len_, run_underlying hd, goInt]
    · cases he
  · rename_i id heq
    rw [heq] at hx
    simp only [RepV] at hx
    split at he
    · rename_i hs hob
      cases he
      obtain ⟨q1, q2⟩ := h.h.objs id _ hob
      rcases q2 with ⟨q2, q3⟩ | ⟨cap, cur, cells, q2, _⟩
      · exact key hs (by rw [hx.2]; exact q2) (by rw [q3]; rfl)
      · exact key hs (by rw [hx.2]; exact q2) rfl
    · rename_i hs hob
      cases he
      obtain ⟨q1, q2, q3⟩ := h.h.objs id _ hob
      obtain ⟨ad, cap, q, _⟩ := q2
      exact key hs (by rw [hx.2]; simpa using q) rfl
    · cases he
  · cases he
theorem rows_repL {D : Nat → Prop} {A : Nat → Prop} {e : Sh} {d : e.T} : ∀ {n : Nat} {zs : List Value}, RowsL (fun x c => PC A w e x c) (List.replicate n d) zs → RepL D E A w (rep (enc e d) n) zs
  | 0, _, h => by cases h; simp [rep, RepL]
  | n + 1, _, ⟨c, r, e1, h1, h2⟩ => by simp only [rep]; exact repL_append.2 ⟨c, r, e1, enc_ok h1, rows_repL h2⟩
theorem build_ok {t : TypeId} {ti : TI} {parts : Array (Nat × Operand)} {e : Eff} (hty : TyOK C.P G) (h : RepE C S E a w) (ht : TIOK C.P G.ty t ti) {o : Oper} (ho : o.op = .build t parts)
    (he : (evBuild G ti (parts.toList.map fun p => (p.1, S.ev p.2))).sat (· = e)) : OpWP C S a w o e := by
  obtain ⟨i, z, hi, hz, hzs, his, hib, hok⟩ := zero_run ht
  obtain ⟨d, hd, htd⟩ := ht.desc
  have hp := parts_ok h parts.toList
  have hparts : (parts.map fun p => (p.1, a.eval p.2)).toList = parts.toList.map fun p => (p.1, a.eval p.2) := by simp
  unfold evBuild at he
  split at he
  · rename_i fs htt
    rw [htt] at htd
    cases d <;> simp [tdOf] at htd
    rename_i flds
    split at he
    · rename_i cs hall hfill
      cases he
      have hz' : RepL (Dom S) E (Al C S E w) w (zeroAV ti) z.cells.toList := zero_one hok (by simpa using hzs) ⟨fs, htt⟩
      have hplaces : ∀ x ∈ flds.toList, (do pure (x.offset, ← sizeOf x.type) : Sem (Nat × Nat)).run C.P w = .ok (x.offset, C.P.cellsOf x.type) w := by
        intro x hx
        have hm : (x.offset, x.type) ∈ fs := by rw [← htd]; exact List.mem_map.2 ⟨x, hx, rfl⟩
        have : ∃ tf, G.ty x.type = some tf := by
          clear hfill htd htt
          induction fs with
          | nil => cases hm
          | cons p r ih =>
            simp only [allTy] at hall
            split at hall
            · rename_i tf hg
              rcases List.mem_cons.1 hm with q | q
              · subst q; exact ⟨tf, hg⟩
              · exact ih hall q
            · cases hall
        obtain ⟨tf, hg⟩ := this
        obtain ⟨i', hi', hs', _⟩ := (hty _ _ hg).info
        simp [sizeOf, typeInfo, hi', Program.cellsOf]
      have hrunp := run_mapA (P := C.P) (w := w) (f := fun f : Field => do pure (f.offset, ← sizeOf f.type)) (g := fun f : Field => (f.offset, C.P.cellsOf f.type)) flds hplaces
      obtain ⟨vs', q1, q2⟩ := fill_ok (place' := fun k => (flds.map fun f : Field => (f.offset, C.P.cellsOf f.type))[k]?) (by
        intro k q hq
        unfold placeSt at hq
        split at hq
        · rename_i p hpk
          rw [← htd, List.getElem?_map] at hpk
          cases hfk : flds.toList[k]? with
          | none => rw [hfk] at hpk; cases hpk
          | some fld =>
            rw [hfk] at hpk
            cases hpk
            split at hq
            · rename_i tf hg
              cases hq
              obtain ⟨i', hi', hs', _⟩ := (hty _ _ hg).info
              have hfk' : flds[k]? = some fld := by simpa using hfk
              simp [hfk', Program.cellsOf, hi', hs']
            · cases hq
        · cases hq) hp hfill hz'
      refine OpWP.pure h (x := .agg vs'.toArray) ?_ (by simp only [RepV]; exact ⟨vs', rfl, q2⟩)
      have q1' : Instr.fill (fun k => (flds.map fun f : Field => (f.offset, C.P.cellsOf f.type))[k]?) z.cells (parts.toList.map fun p => (p.1, a.eval p.2)) = some vs'.toArray := by simpa using q1
      have hrunp' : (Array.mapM (fun f : Field => sizeOf f.type >>= fun b => (pure (f.offset, b) : Sem (Nat × Nat))) flds).run C.P w = .ok (flds.map fun f : Field => (f.offset, C.P.cellsOf f.type)) w := hrunp
      simp only [execOp, ho, Instr.build, zeroValue, typeInfo, Sem.run_bind, run_program, Result.andThen_ok, hi, Sem.run_pure, hz, run_underlying hd, hrunp', hparts, q1']
    · cases he
  · rename_i n el htt
    rw [htt] at htd
    cases d <;> simp [tdOf] at htd
    rename_i k el'
    obtain ⟨rfl, rfl⟩ := htd
    split at he
    · rename_i te hg
      split at he
      · rename_i hzb
        cases he
        unfold zbOf at hzb
        split at hzb
        case h_2 => cases hzb
        rename_i hnil
        obtain ⟨hns, hrows⟩ := zero_arr hok htt te hg
        obtain ⟨td, sh, size, bytes, eqs, nd⟩ := te
        split at hzb
        case h_2 => cases hzb
        rename_i htd hsh
        simp only at htd hsh
        subst htd
        subst hsh
        have hz' : RepL (Dom S) E (Al C S E w) w (rep (enc .bool Sh.bool.dflt) k) z.cells.toList := rows_repL (hrows (by intro q; cases q) _ _)
        have hrep : ∀ (n : Nat) (vs : List Value), RepL (Dom S) E (Al C S E w) w (rep (enc .bool Sh.bool.dflt) n) vs → vs = List.replicate n (.bool false) := by
          intro n
          induction n with
          | zero => intro vs h; simpa [rep, RepL] using h
          | succ n ih =>
            intro vs h
            simp only [rep, enc, List.cons_append, List.nil_append, RepL, RepV] at h
            obtain ⟨x, t, rfl, rfl, h3⟩ := h
            rw [ih t h3, List.replicate_succ]
            rfl
        have hv := hrep k _ hz'
        have hp0 : parts.toList = [] := by simpa using hnil
        refine OpWP.pure h (x := .agg z.cells) ?_ (by simp only [RepV]; rw [← hv])
        have hsz2 := sizeOf_ok (hty _ _ hg) w
        simp only [execOp, ho, Instr.build, zeroValue, typeInfo, Sem.run_bind, run_program, Result.andThen_ok, hi, Sem.run_pure, hz, run_underlying hd, hsz2, hparts, hp0, List.map_nil, Instr.fill]
      split at he
      · rename_i cs hsz hfill
        cases he
        have hsz := Nat.eq_of_beq_eq_true hsz
        obtain ⟨hns, hrows⟩ := zero_arr hok htt te hg
        have hz' : RepL (Dom S) E (Al C S E w) w (rep (zeroAV te) k) z.cells.toList := by
          by_cases hdat : te.dat = true
          · have : zeroAV te = enc te.sh te.sh.dflt := by unfold zeroAV; rw [hdat]
            rw [this]
            exact rows_repL (hrows (dat_fn hdat) _ _)
          · have hl : ∀ (l : List AV) n, (rep l n).length = n * l.length := by
              intro l n
              induction n with
              | zero => simp [rep]
              | succ n ih => simp [rep, ih, Nat.succ_mul, Nat.add_comm]
            exact unks_repL (fun v hv => zero_unk hdat v (rep_mem hv)) (by rw [hl, hsz, hns]; simpa using hzs)
        obtain ⟨vs', q1, q2⟩ := fill_ok (place' := fun i => some (i * te.size, te.size)) (fun i q hq => hq) hp hfill hz'
        refine OpWP.pure h (x := .agg vs'.toArray) ?_ (by simp only [RepV]; exact ⟨vs', rfl, q2⟩)
        have q1' : Instr.fill (fun i => some (i * te.size, te.size)) z.cells (parts.toList.map fun p => (p.1, a.eval p.2)) = some vs'.toArray := by simpa using q1
        have hsz2 := sizeOf_ok (hty _ _ hg) w
        simp only [execOp, ho, Instr.build, zeroValue, typeInfo, Sem.run_bind, run_program, Result.andThen_ok, hi, Sem.run_pure, hz, run_underlying hd, hsz2, hparts, q1']
      · cases he
    · cases he
  · cases he
theorem obj_none_frz {vis : List Nat} {id : Nat} (h : S.obj id = none) : (S.setObjs (frz S.obj vis)).obj id = none := by
  rw [obj_frz]
  split
  · rw [h]
  · exact h
theorem buildSlice_ok {t : TypeId} {ti : TI} {n nid : Nat} {parts : Array (Nat × Operand)} {e : Eff} (hm : G.m = C.m) (hty : TyOK C.P G) (h : RepE C S E a w) (hn : S.obj nid = none) (ht : TIOK C.P G.ty t ti) {o : Oper} (ho : o.op = .buildSlice t n parts)
    (he : (evBuildSlice G S nid ti n (parts.toList.map fun p => (p.1, S.ev p.2))).sat (· = e)) : OpWP C S a w o e := by
  obtain ⟨d, hd, htd⟩ := ht.desc
  have hp := parts_ok h parts.toList
  have hparts : (parts.map fun p => (p.1, a.eval p.2)).toList = parts.toList.map fun p => (p.1, a.eval p.2) := by simp
  unfold evBuildSlice at he
  split at he
  · rename_i el htt
    rw [htt] at htd
    cases d <;> simp [tdOf] at htd
    rename_i el'
    subst htd
    split at he
    · rename_i te hg
      split at he
      · rename_i cs hchk hfill
        split at he
        · rename_i d hdn
          cases he
          simp only [Bool.and_eq_true] at hchk
          obtain ⟨⟨hdat, hle⟩, hpos⟩ := hchk
          have hle := Nat.le_of_ble_eq_true hle
          have hpos : 0 < te.size := Nat.le_of_ble_eq_true hpos
          obtain ⟨i, z, hi, hz, hzs, his, hib, hok⟩ := zero_run (hty _ _ hg)
          have hzd := zero_data hok hdat
          have hz' : zeroAV te = enc te.sh te.sh.dflt := by unfold zeroAV; rw [hdat]
          have hmade := made_rep z.cells (by omega) n
          rw [hzs] at hmade
          have hzero : RepL (Dom S) E (Al C S E w) w (rep (zeroAV te) n) (madeCells z.cells (n * te.size)).toList := by
            rw [hmade, hz']
            exact repL_rep (enc_ok (hzd _ _)) n
          obtain ⟨vs', q1, q2⟩ := fill_ok (place' := fun i => some (i * te.size, te.size)) (fun i q hq => hq) hp hfill hzero
          obtain ⟨r1, r2, r3, r4⟩ := h.dataN hm hdn q2
          have hlen := r3.length (fun x c h => h.length)
          have hshs : te.sh.size = te.size := by rw [← hzs]; have := (hzd (Al C S E w) w).length; simpa using this.symm
          obtain ⟨E', s1, s2, s3⟩ := r1.newRow (obj_none_frz hn) (et := el') (cur := vs'.toArray) (cap := n) r3 (by simp [← hlen]) (by simp [hlen, r4]) (by omega) (by unfold maxLen; have : n * 1 ≤ n * te.size := Nat.mul_le_mul_left _ hpos; omega)
          refine OpWP.run (x := .slice (some ⟨w.heap.size, 0, none⟩) n n) (w' := w.alloc (.cells vs'.toArray el')) ?_ s1 ?_
          · have hne : ¬ (n * te.size = 0 ∧ n ≠ 0) := by
              intro ⟨q, q'⟩
              rcases Nat.mul_eq_zero.1 q with q | q <;> omega
            have hsz2 := sizeOf_ok (hty _ _ hg) w
            have hmc : (Array.map (fun x => z.cells[x % z.cells.size]!) (Array.range (n * te.size))) = madeCells z.cells (n * te.size) := rfl
            by_cases hn0 : n * te.size = 0
            · have hn0' : n = 0 := by rcases Nat.mul_eq_zero.1 hn0 with q | q <;> omega
              subst hn0'
              simp only [execOp, ho, Instr.buildSlice, Sem.run_bind, run_underlying hd, Result.andThen_ok, hsz2, Nat.zero_mul]
              have q1' : Instr.fill (fun i => some (i * te.size, te.size)) #[] (parts.toList.map fun p => (p.1, a.eval p.2)) = some vs'.toArray := by
                simpa [madeCells] using q1
              simp [Array.range_zero', q1', newRow, hparts]
            · have hgt : ¬ 2 ^ 24 < n * te.size := by omega
              have q1' : Instr.fill (fun i => some (i * te.size, te.size)) (Array.map (fun x => z.cells[x % z.cells.size]!) (Array.range (n * te.size))) (parts.toList.map fun p => (p.1, a.eval p.2)) = some vs'.toArray := by
                rw [hmc]; simpa using q1
              simp only [execOp, ho, Instr.buildSlice, Sem.run_bind, run_underlying hd, Result.andThen_ok, hsz2]
              simp only [hparts, hn0, if_false, Sem.run_ite, gt_iff_lt, hgt, zeroValue, typeInfo, Sem.run_bind, run_program, Result.andThen_ok, hi, Sem.run_pure, hz, q1', newRow, run_newObj]
              rfl
          · simp only [RepV]
            rw [s3, r4]
            exact ⟨by unfold Dom; show ((S.setObjs (frz S.obj d.vis)).setObjs [(nid, _)]).obj nid ≠ none; rw [obj_cons]; simp, rfl⟩
        · cases he
      · cases he
    · cases he
  · cases he
end
end Go.Rx
