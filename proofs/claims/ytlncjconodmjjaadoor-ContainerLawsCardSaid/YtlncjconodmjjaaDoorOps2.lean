/- Rx, part 7: the operations that only compute. -/
import Derived.Test.YtlncjconodmjjaaDoorOps
namespace Go.Rx
set_option linter.unusedVariables false
set_option linter.unusedSimpArgs false
section
variable {C : Ctx} {S : AS} {E : Env} {a : Act} {w : World}

theorem move_ok {x : Operand} (h : RepE C S E a w) {o : Oper} (ho : o.op = .move x ∨ o.op = .assign x) {rd : List Nat} {dec : List (Nat × Bool)} : OpWP C S a w o ⟨S.ev x, [], rd, dec⟩ := by
  refine OpWP.pure h (x := a.eval x) ?_ (h.ev x)
  rcases ho with ho | ho <;> simp [execOp, ho]
theorem pick_ok {c x y : Operand} (h : RepE C S E a w) {o : Oper} (ho : o.op = .pick c x y) {b : Bool} (hb : a.eval c = .bool b) {rd : List Nat} {dec : List (Nat × Bool)} :
    OpWP C S a w o ⟨match b with | true => S.ev x | false => S.ev y, [], rd, dec⟩ := by
  cases b with
  | true => exact OpWP.pure h (x := a.eval x) (by simp [execOp, ho, asBool, hb]) (h.ev x)
  | false => exact OpWP.pure h (x := a.eval y) (by simp [execOp, ho, asBool, hb]) (h.ev y)
theorem nilCheck_ok {x : Operand} {e : Eff} (h : RepE C S E a w) {o : Oper} (ho : o.op = .nilCheck x) (G : Gl) (nid : Nat) (he : (evOp G S nid (.nilCheck x)).sat (· = e)) : OpWP C S a w o e := by
  have hx := h.ev x
  simp only [evOp] at he
  split at he <;> rename_i heq <;> (try (cases he; done)) <;> rw [heq] at hx
  all_goals first
    | (cases he
       refine OpWP.pure h (x := a.eval x) ?_ hx
       simp only [RepV] at hx
       first
         | (obtain ⟨_, q⟩ := hx; simp [execOp, ho, q]; done)
         | (obtain ⟨_, _, q⟩ := hx; simp [execOp, ho, q]; done)
         | (obtain ⟨_, _, _, _, _, _, q⟩ := hx; simp [execOp, ho, q]; done)
         | (obtain ⟨_, _, _, _, _, q⟩ := hx; simp [execOp, ho, q]; done)
         | (obtain ⟨_, _, q, _⟩ := hx; simp [execOp, ho, q]; done))
    | skip
  rename_i e1 y
  obtain ⟨r, hr, he⟩ := he
  cases he
  subst hr
  simp only [RepV] at hx
  obtain ⟨ad, c, q1, q2, q3, q4, q5⟩ := hx
  have q1 : a.eval x = .pointer (some ad) := by simpa using q1
  refine OpWP.pure h (x := a.eval x) (by simp [execOp, ho, q1]) ?_
  simp only [RepV]
  refine ⟨ad, c, q3, q4, q5, ?_⟩
  rw [q1]
  obtain ⟨b, off, spot⟩ := ad
  simp only at q2
  subst q2
  rfl
theorem eqCells_ok {D : Nat → Prop} {A : Nat → Prop} : ∀ {l r : List AV} {c : Bool} {vs us : List Value}, eqCells l r = some c → RepL D E A w l vs → RepL D E A w r us → EqInts vs us c
  | [], _, _, _, _, h, _, _ => by simp [eqCells] at h
  | .int k x :: l, [], _, _, _, h, _, _ => by cases l <;> simp [eqCells] at h
  | .int k x :: l, v :: r, c, vs, us, h, h1, h2 => by
    cases v <;> first | (cases l <;> simp [eqCells] at h; done) | skip
    rename_i k' y
    simp only [RepL, RepV] at h1 h2
    obtain ⟨_, t, rfl, rfl, h3⟩ := h1
    obtain ⟨_, u, rfl, rfl, h4⟩ := h2
    cases l with
    | nil =>
      cases r with
      | nil =>
        simp only [RepL] at h3 h4
        subst h3 h4
        simp only [eqCells] at h
        split at h
        · rename_i q _
          subst q
          cases h
          exact EqInts.one _ _ _
        · cases h
      | cons v' r' =>
        simp only [eqCells] at h
        split at h
        · rename_i q1 q2
          exact absurd q2 (by simp)
        · cases h
    | cons v' l' =>
      have h' : (match decEq k k', eqCells (v' :: l') r with | isTrue _, some c => some (decide (x = y) && c) | _, _ => none) = some c := by
        cases r <;> exact h
      split at h'
      · rename_i q c' _ hc
        subst q
        cases h'
        exact EqInts.cons _ _ _ _ _ _ (eqCells_ok hc h3 h4)
      · cases h'
  | .unk :: _, _, _, _, _, h, _, _ => by simp [eqCells] at h
  | .undef :: _, _, _, _, _, h, _, _ => by simp [eqCells] at h
  | .anyB :: _, _, _, _, _, h, _, _ => by simp [eqCells] at h
  | .zb _ :: _, _, _, _, _, h, _, _ => by simp [eqCells] at h
  | .bool _ :: _, _, _, _, _, h, _, _ => by simp [eqCells] at h
  | .str _ :: _, _, _, _, _, h, _, _ => by simp [eqCells] at h
  | .nilsl :: _, _, _, _, _, h, _, _ => by simp [eqCells] at h
  | .nilptr :: _, _, _, _, _, h, _, _ => by simp [eqCells] at h
  | .glob _ :: _, _, _, _, _, h, _, _ => by simp [eqCells] at h
  | .psl _ _ :: _, _, _, _, _, h, _, _ => by simp [eqCells] at h
  | .ppt _ _ :: _, _, _, _, _, h, _, _ => by simp [eqCells] at h
  | .own _ :: _, _, _, _, _, h, _, _ => by simp [eqCells] at h
  | .optr _ _ :: _, _, _, _, _, h, _, _ => by simp [eqCells] at h
  | .oel _ _ _ _ :: _, _, _, _, _, h, _, _ => by simp [eqCells] at h
  | .otl _ _ _ :: _, _, _, _, _, h, _, _ => by simp [eqCells] at h
  | .pel _ _ _ _ :: _, _, _, _, _, h, _, _ => by simp [eqCells] at h
  | .pfl _ _ _ :: _, _, _, _, _, h, _, _ => by simp [eqCells] at h
  | .fn _ _ _ :: _, _, _, _, _, h, _, _ => by simp [eqCells] at h
  | .agg _ :: _, _, _, _, _, h, _, _ => by simp [eqCells] at h
  | .tup _ :: _, _, _, _, _, h, _, _ => by simp [eqCells] at h
theorem run_eq_bool {P : Program} {t : TypeId} (hd : P.underlying t = some .bool) (p q : Bool) (w : World) : (Op.equal t (.bool p) (.bool q)).run P w = .ok (p == q) w := by
  have : ∀ n, (Op.equalIn (n + 1) t (.bool p) (.bool q)).run P w = .ok (p == q) w := fun n => by simp [Op.equalIn, run_underlying hd]
  exact this 9999
theorem run_eq_nil {P : Program} {t el : TypeId} (hd : P.underlying t = some (.pointer el)) (p : Option Addr) (w : World) : (Op.equal t (.pointer p) (.pointer none)).run P w = .ok p.isNone w := by
  have : ∀ n, (Op.equalIn (n + 1) t (.pointer p) (.pointer none)).run P w = .ok p.isNone w := fun n => by cases p <;> simp [Op.equalIn, run_underlying hd]
  exact this 9999
theorem run_eq_nilsl {P : Program} {t el : TypeId} (hd : P.underlying t = some (.slice el)) (p : Option Addr) (l c l' c' : Nat) (w : World) : (Op.equal t (.slice p l c) (.slice none l' c')).run P w = .ok p.isNone w := by
  have : ∀ n, (Op.equalIn (n + 1) t (.slice p l c) (.slice none l' c')).run P w = .ok p.isNone w := fun n => by cases p <;> simp [Op.equalIn, run_underlying hd]
  exact this 9999
set_option maxHeartbeats 1000000 in
theorem bin_ok {G : Gl} {op : BinOp} {t t' : TypeId} {ti : TI} {x y : Operand} {e : Eff} (h : RepE C S E a w) (ht : TIOK C.P G.ty t ti) {o : Oper} (ho : o.op = .binOp op t x y t')
    (he : (evBin op ti (S.ev x) (S.ev y)).sat (· = e)) : OpWP C S a w o e := by
  have hx := h.ev x
  have hy := h.ev y
  obtain ⟨d, hd, htd⟩ := ht.desc
  unfold evBin at he
  split at he
  · rename_i k p k' q hex hey
    rw [hex] at hx
    rw [hey] at hy
    simp only [RepV] at hx hy
    split at he
    · obtain ⟨hb, he⟩ := he
      cases he
      have hb : ¬ q < 0 := by simpa using hb
      exact OpWP.pure h (x := .int k (shlI k p q)) (by simp [execOp, ho, hx, hy, eqGuard, binOp, Op.shift, hb, shlI]) (by simp [RepV])
    · obtain ⟨hb, he⟩ := he
      cases he
      have hb : ¬ q < 0 := by simpa using hb
      exact OpWP.pure h (x := .int k (shrI k p q)) (by simp [execOp, ho, hx, hy, eqGuard, binOp, Op.shift, hb, shrI]) (by simp [RepV])
    · split at he
      · cases he
      · rename_i hk _
        subst hk
        split at he
        all_goals first | (cases he; done) | skip
        · cases he; exact OpWP.pure h (x := .int k (k.wrap (p + q))) (by simp [execOp, ho, hx, hy, eqGuard, binOp, Op.intArith]) (by simp [RepV])
        · cases he; exact OpWP.pure h (x := .int k (k.wrap (p - q))) (by simp [execOp, ho, hx, hy, eqGuard, binOp, Op.intArith]) (by simp [RepV])
        · cases he; exact OpWP.pure h (x := .int k (k.wrap (p * q))) (by simp [execOp, ho, hx, hy, eqGuard, binOp, Op.intArith]) (by simp [RepV])
        · obtain ⟨hb, he⟩ := he
          cases he
          have hb : ¬ q = 0 := by simpa using hb
          exact OpWP.pure h (x := .int k (k.wrap (p.tdiv q))) (by simp [execOp, ho, hx, hy, eqGuard, binOp, Op.intDiv, hb]) (by simp [RepV])
        · obtain ⟨hb, he⟩ := he
          cases he
          have hb : ¬ q = 0 := by simpa using hb
          exact OpWP.pure h (x := .int k (p.tmod q)) (by simp [execOp, ho, hx, hy, eqGuard, binOp, Op.intDiv, hb]) (by simp [RepV])
        · cases he; exact OpWP.pure h (x := .int k (bitsI .and k p q)) (by simp [execOp, ho, hx, hy, eqGuard, binOp, Op.intBits, bitsI_eq, bitsD]) (by simp [RepV])
        · cases he; exact OpWP.pure h (x := .int k (bitsI .or k p q)) (by simp [execOp, ho, hx, hy, eqGuard, binOp, Op.intBits, bitsI_eq, bitsD]) (by simp [RepV])
        · cases he; exact OpWP.pure h (x := .int k (bitsI .xor k p q)) (by simp [execOp, ho, hx, hy, eqGuard, binOp, Op.intBits, bitsI_eq, bitsD]) (by simp [RepV])
        · cases he; exact OpWP.pure h (x := .int k (bitsI .andNot k p q)) (by simp [execOp, ho, hx, hy, eqGuard, binOp, Op.intBits, bitsI_eq, bitsD]) (by simp [RepV])
        · cases he; exact OpWP.pure h (x := .bool (decide (p = q))) (by simp [execOp, ho, hx, hy, eqGuard, binOp, Op.intCmp]; rfl) (by simp [RepV])
        · cases he; exact OpWP.pure h (x := .bool (!decide (p = q))) (by simp [execOp, ho, hx, hy, eqGuard, binOp, Op.intCmp]; rfl) (by simp [RepV])
        · cases he; exact OpWP.pure h (x := .bool (decide (p < q))) (by simp [execOp, ho, hx, hy, eqGuard, binOp, Op.intCmp]) (by simp [RepV])
        · cases he; exact OpWP.pure h (x := .bool (decide (p ≤ q))) (by simp [execOp, ho, hx, hy, eqGuard, binOp, Op.intCmp]) (by simp [RepV])
        · cases he; exact OpWP.pure h (x := .bool (decide (q < p))) (by simp [execOp, ho, hx, hy, eqGuard, binOp, Op.intCmp]) (by simp [RepV])
        · cases he; exact OpWP.pure h (x := .bool (decide (q ≤ p))) (by simp [execOp, ho, hx, hy, eqGuard, binOp, Op.intCmp]) (by simp [RepV])
  · rename_i p q hex hey
    rw [hex] at hx
    rw [hey] at hy
    simp only [RepV] at hx hy
    split at he
    · rename_i hti
      cases he
      have : d = .bool := by rw [hti] at htd; cases d <;> simp [tdOf] at htd ⊢
      subst this
      exact OpWP.pure h (x := .bool (p == q)) (by simp [execOp, ho, hx, hy, eqGuard, binOp, run_eq_bool hd]) (by simp [RepV])
    · rename_i hti
      cases he
      have : d = .bool := by rw [hti] at htd; cases d <;> simp [tdOf] at htd ⊢
      subst this
      exact OpWP.pure h (x := .bool (!(p == q))) (by simp [execOp, ho, hx, hy, eqGuard, binOp, run_eq_bool hd]) (by simp [RepV])
    · cases he
  · rename_i p q hex hey
    rw [hex] at hx
    rw [hey] at hy
    simp only [RepV] at hx hy
    split at he
    · cases he; exact OpWP.pure h (x := .bool (p.toList == q.toList)) (by simp [execOp, ho, hx, hy, eqGuard, binOp, Op.stringOp]) (by simp [RepV])
    · cases he; exact OpWP.pure h (x := .bool (!(p.toList == q.toList))) (by simp [execOp, ho, hx, hy, eqGuard, binOp, Op.stringOp]) (by simp [RepV])
    · cases he
  · rename_i e1 q hex hey
    rw [hex] at hx
    rw [hey] at hy
    simp only [RepV] at hx hy
    have hpt : ∀ {el}, ti.td = .ptr el → ∃ el, d = .pointer el := by
      intro el hti
      rw [hti] at htd
      cases d <;> simp [tdOf] at htd ⊢
    cases q with
    | none =>
      have hx : a.eval x = .pointer none := by have q : [a.eval x] = [_] := hx; simpa using q
      split at he
      · rename_i hti; obtain ⟨el, rfl⟩ := hpt hti
        cases he
        exact OpWP.pure h (x := .bool true) (by simp [execOp, ho, hx, hy, eqGuard, binOp, run_eq_nil hd]) (by simp [RepV])
      · rename_i hti; obtain ⟨el, rfl⟩ := hpt hti
        cases he
        exact OpWP.pure h (x := .bool false) (by simp [execOp, ho, hx, hy, eqGuard, binOp, run_eq_nil hd]) (by simp [RepV])
      · cases he
    | some z =>
      obtain ⟨ad, c, hx, _⟩ := hx
      have hx : a.eval x = .pointer (some ad) := by simpa using hx
      split at he
      · rename_i hti; obtain ⟨el, rfl⟩ := hpt hti
        cases he
        exact OpWP.pure h (x := .bool false) (by simp [execOp, ho, hx, hy, eqGuard, binOp, run_eq_nil hd]) (by simp [RepV])
      · rename_i hti; obtain ⟨el, rfl⟩ := hpt hti
        cases he
        exact OpWP.pure h (x := .bool true) (by simp [execOp, ho, hx, hy, eqGuard, binOp, run_eq_nil hd]) (by simp [RepV])
      · cases he
  · rename_i e1 xs hex hey
    rw [hex] at hx
    rw [hey] at hy
    simp only [RepV] at hx hy
    obtain ⟨ad, cap, hx, _, hne⟩ := hx
    have hx : a.eval x = .slice ad xs.length cap := by simpa using hx
    split at he
    · rename_i el hti
      have : ∃ el, d = .slice el := by rw [hti] at htd; cases d <;> simp [tdOf] at htd ⊢
      obtain ⟨el, rfl⟩ := this
      have hrun : (execOp a.eval o).run C.P w = .ok (.value (.bool ad.isNone)) w := by simp [execOp, ho, hx, hy, eqGuard, binOp, run_eq_nilsl hd]
      rcases he with ⟨hb, he⟩ | ⟨hb, he⟩
      · cases he
        exact OpWP.pure h hrun (by simp [RepV])
      · cases he
        obtain ⟨a1, rfl, _⟩ := hne (by intro q; rw [q] at hb; simp at hb)
        exact OpWP.pure h hrun (by simp [RepV])
    · cases he
  · rename_i id off hex hey
    rw [hex] at hx
    rw [hey] at hy
    simp only [RepV] at hx hy
    have hpt : ∀ {el}, ti.td = .ptr el → ∃ el, d = .pointer el := by
      intro el hti
      rw [hti] at htd
      cases d <;> simp [tdOf] at htd ⊢
    split at he
    · rename_i hti; obtain ⟨el, rfl⟩ := hpt hti
      cases he
      exact OpWP.pure h (x := .bool false) (by simp [execOp, ho, hx.2, hy, eqGuard, binOp, run_eq_nil hd]) (by simp [RepV])
    · rename_i hti; obtain ⟨el, rfl⟩ := hpt hti
      cases he
      exact OpWP.pure h (x := .bool true) (by simp [execOp, ho, hx.2, hy, eqGuard, binOp, run_eq_nil hd]) (by simp [RepV])
    · cases he
  · rename_i p q hex hey
    rw [hex] at hx
    rw [hey] at hy
    simp only [RepV] at hx hy
    obtain ⟨vs, hx, hx2⟩ := hx
    obtain ⟨us, hy, hy2⟩ := hy
    split at he
    · rename_i c heq hl hc
      cases he
      obtain ⟨g1, g2⟩ := ht.eqs heq
      have := g2 w vs us c (eqCells_ok hc hx2 hy2) (by rw [repL_length hx2]; exact Nat.eq_of_beq_eq_true hl)
      exact OpWP.pure h (x := .bool c) (by simp [execOp, ho, hx, hy, eqGuard, binOp, g1, this]) (by simp [RepV])
    · rename_i c heq hl hc
      cases he
      obtain ⟨g1, g2⟩ := ht.eqs heq
      have := g2 w vs us c (eqCells_ok hc hx2 hy2) (by rw [repL_length hx2]; exact Nat.eq_of_beq_eq_true hl)
      exact OpWP.pure h (x := .bool (!c)) (by simp [execOp, ho, hx, hy, eqGuard, binOp, g1, this]) (by simp [RepV])
    · cases he
  · cases he
theorem un_ok {op : UnOp} {t : TypeId} {x : Operand} {e : Eff} (h : RepE C S E a w) {o : Oper} (ho : o.op = .unOp op t x) (he : (evUn op (S.ev x)).sat (· = e)) : OpWP C S a w o e := by
  have hx := h.ev x
  unfold evUn at he
  split at he
  · rename_i b heq
    rw [heq] at hx
    simp only [RepV] at hx
    cases he
    exact OpWP.pure h (x := .bool (!b)) (by simp [execOp, ho, hx, Op.unary]) (by simp [RepV])
  · rename_i k n heq
    rw [heq] at hx
    simp only [RepV] at hx
    cases he
    exact OpWP.pure h (x := .int k (k.wrap (0 - n))) (by simp [execOp, ho, hx, Op.unary, Op.intArith]) (by simp [RepV])
  · rename_i k n heq
    rw [heq] at hx
    simp only [RepV] at hx
    cases he
    refine OpWP.pure h (x := .int k (bitsI .xor k (cond k.signed (-1) k.max) n)) ?_ (by simp [RepV])
    cases hs : k.signed <;> simp [execOp, ho, hx, Op.unary, Op.intBits, bitsI_eq, bitsD, hs]
  · cases he
theorem conv_ok {G : Gl} {s d : TypeId} {ts td : TI} {x : Operand} {e : Eff} (h : RepE C S E a w) (h1 : TIOK C.P G.ty s ts) (h2 : TIOK C.P G.ty d td) {o : Oper} (ho : o.op = .convert s d x)
    (he : (evConv ts td (S.ev x)).sat (· = e)) : OpWP C S a w o e := by
  have hx := h.ev x
  obtain ⟨d1, hd1, ht1⟩ := h1.desc
  obtain ⟨d2, hd2, ht2⟩ := h2.desc
  unfold evConv at he
  split at he
  · rename_i k n heq
    rw [heq] at hx
    simp only [RepV] at hx
    split at he
    · rename_i k' hk
      cases he
      have : d2 = .int k' := by rw [hk] at ht2; cases d2 <;> simp [tdOf] at ht2 ⊢; exact ht2
      subst this
      exact OpWP.pure h (x := .int k' (k'.wrap n)) (by simp [execOp, ho, hx, convert, run_underlying hd1, run_underlying hd2, Conv.intToInt]) (by simp [RepV])
    · cases he
  · cases he
end
end Go.Rx
