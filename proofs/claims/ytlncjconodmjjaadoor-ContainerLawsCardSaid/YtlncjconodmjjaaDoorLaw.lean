/- Rx, part 25: a law's fact, as a row's walk asks for it. -/
import Derived.Test.YtlncjconodmjjaaDoorEqs
import Derived.RowKit3
namespace Go.Rx
set_option linter.unusedVariables false
theorem keptBut_of {w w' : World} (h : Later w w') (hk : ∀ b, b < w.heap.size → w'.heap[b]? = w.heap[b]?) : w.keptBut w' (fun _ => False) := by
  refine ⟨h.os, h.out, fun i hi => ?_⟩
  rw [hk i hi]
  exact (World.keptBut_refl w (fun _ => False)).2.2 i hi
theorem law_calls {P : Program} {gl : Nat → Option Tab} {f : FuncId} {s : Sig} (ok : FnOK P gl f s) {args : List AV} {l : List Dat} {x : tupT s.ps.shs} {y : tupT s.rs.shs}
    (h1 : projArgs s.ps args [] = some l) (h2 : toTup s.ps.shs l = some x) (h3 : s.F x = some y) (h4 : resAV (head s.rs (ofTup s.rs.shs y)).t = .bool true)
    {w : World} {vs : List Value} {A0 : Nat → Prop} {E0 : Env} (hA0 : ∀ b, A0 b → b < w.heap.size)
    (hgl : ∀ g e xs, gl g = some ⟨e, xs⟩ → A0 g ∧ ∃ cells, RowsL (fun x c => PC A0 w e x c) xs cells ∧ At w ⟨g, 0, none⟩ cells)
    (hargs : RepL (fun _ => False) E0 A0 w args vs) : Calls P f vs.toArray w (fun e w' => e = .returned (.bool true) ∧ RowKit.Grown w w') := by
  have hD : Dom (stateOf (zipI 0 ([] : List Obj))) = fun _ => False := by
    funext id
    simp [Dom, stateOf, AS.obj, zipI, look]
  have h0 : ∀ id o, ¬ (stateOf (zipI 0 ([] : List Obj))).obj id = some o := by
    intro id o h
    simp [stateOf, AS.obj, zipI, look] at h
  refine ((ok args [] l x y h1 h2 h3).2 w A0 (fun _ => False) E0 vs ⟨fun b hb => ⟨hA0 b hb, fun h => h⟩, hgl, fun id o h => (h0 id o h).elim, fun id o h => (h0 id o h).elim, fun i j o o' h => (h0 i o h).elim, by rw [hD]; exact hargs, by simp⟩).mono fun e w' h => ?_
  obtain ⟨v, E', rfl, hR, hv⟩ := h
  rw [h4] at hv
  simp only [RepV] at hv
  subst hv
  exact ⟨rfl, keptBut_of hR.lat fun b hb => hR.keep b hb (fun h => h), fun a => hR.lat.fz a, hR.lat.sz⟩
end Go.Rx
