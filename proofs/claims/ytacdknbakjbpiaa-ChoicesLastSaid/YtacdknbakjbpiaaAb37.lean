/-
  Abstract values for walks without memory: calls that are handed two variables, which stay as they are.
-/
import Derived.Test.YtacdknbakjbpiaaAb32
namespace Go.Proofs.Ytacdknbakjbpiaa.Ab
open Go

section
variable {P : Program} {tab : Tab}
variable {n : Nat} {N : St → Prop} {X : Nat → St → Prop} {R : St → Prop} {S T : St} {r k : Nat} {ops : Array Oper} {K : St → Prop} {l : List Oper}
variable {d : Nat} {op : Op} {ty : TypeId} {pos : String} {after : Array Edge} {g : Option (Nat × Bool)}

/-- A call that is handed two variables and leaves them as they are, with a plain result. -/
theorem Wr.cH2 (p q : Id) {f : Nat} {args args' : List PV} {cs ds : List PV} {res : PV} (hC : Can P f args' (lookH [(.par 0, cs), (.par 1, ds)]) res (lookH [(.par 0, cs), (.par 1, ds)])) (h : Wr P tab n r ops (k + 1) l K (S.set d res))
    (hg : runs ops S g = some true := by rfl) (he : ev tab r k ⟨some d, op, ty, pos, after, g⟩ S = .call f args := by rfl) (ha : PV.roDs (PV.rens (toPar [p, q]) args) = args' := by rfl) (hH : S.H p = some cs := by rfl) (hH2 : S.H q = some ds := by rfl) (hp : (!p.isRow && !q.isRow && !decide (p = q)) = true := by rfl)
    (hids : ((PV.idss args).all fun i => decide (i = p) || decide (i = q)) = true := by rfl) (hi1 : PV.idss cs = [] := by rfl) (hi2 : PV.idss ds = [] := by rfl) (hr : res.ids = [] := by rfl) : Wr P tab n r ops k (⟨some d, op, ty, pos, after, g⟩ :: l) K S := by
  subst ha
  simp only [Bool.and_eq_true, Bool.not_eq_true', decide_eq_false_iff_not] at hp
  obtain ⟨⟨hp1, hp2⟩, hne⟩ := hp
  have hf : ∀ y, PV.sub (frzAll []) y = y := fun y => by rw [frzAll_nil, PV.sub_keep]
  have hfs : ∀ y, PV.subs (frzAll []) y = y := fun y => by rw [frzAll_nil, PV.subs_keep]
  have e1 : (args.map fun y => (y.sub (frzAll [])).ren (toPar [p, q])) = PV.rens (toPar [p, q]) args := by
    rw [PV.rens_map]
    exact List.map_congr_left fun y _ => by rw [hf]
  have hmem : ∀ y ∈ args, ∀ i ∈ y.ids, i = p ∨ i = q := by
    intro y hy i hi
    obtain ⟨j, hj⟩ := List.mem_iff_getElem?.1 hy
    have := List.all_eq_true.1 hids i (PV.idss_mem hj hi)
    simpa using this
  have hlook : ∀ (id : Id) (es : List PV), lookH [(Id.par 0, cs), (Id.par 1, ds)] id = some es → (id = .par 0 ∧ es = cs) ∨ (id = .par 1 ∧ es = ds) := by
    intro id es hes
    unfold lookH at hes
    split at hes
    · rename_i e; cases hes; exact .inl ⟨e, rfl⟩
    · unfold lookH at hes
      split at hes
      · rename_i e; cases hes; exact .inr ⟨e, rfl⟩
      · cases hes
  refine .call hg he (CallA.of_can [] [p, q] none none (Hp := lookH [(.par 0, cs), (.par 1, ds)]) (res := res) (Hq := lookH [(.par 0, cs), (.par 1, ds)]) (by rw [e1]; exact Can.roD hC) (by simp) ?_ (by simp [hne]) (by simp) (by simp) ?_ ?_ (fun i hi => by rw [hr] at hi; cases hi) ?_ ?_)
  · intro i hi
    simp only [List.mem_cons, List.not_mem_nil, or_false] at hi
    rcases hi with rfl | rfl <;> assumption
  · intro y hy i hi
    rw [hf] at hi
    rcases hmem y hy i hi with rfl | rfl <;> simp
  · intro id es hes
    rcases hlook id es hes with ⟨rfl, rfl⟩ | ⟨rfl, rfl⟩
    · exact ⟨0, p, _, rfl, rfl, hH, by rw [hfs, PV.rens_noids _ _ hi1], by rw [hfs, hi1]; simp⟩
    · exact ⟨1, q, _, rfl, rfl, hH2, by rw [hfs, PV.rens_noids _ _ hi2], by rw [hfs, hi2]; simp⟩
  · intro id es hes i hi
    rcases hlook id es hes with ⟨rfl, rfl⟩ | ⟨rfl, rfl⟩
    · rw [hi1] at hi; cases hi
    · rw [hi2] at hi; cases hi
  · unfold afterCall
    have e2 : callSub [] none none = fun _ => .keep := by funext i; simp [callSub]
    have e3 : afterH S [] [p, q] none none (lookH [(.par 0, cs), (.par 1, ds)]) = S.H := by
      funext i
      unfold afterH
      rw [if_neg (by simp), e2]
      by_cases hip : i = p
      · subst hip
        rw [if_pos (by simp), hH]
        have : lookH [(Id.par 0, cs), (Id.par 1, ds)] (.par ([i, q].idxOf i)) = some cs := by simp [lookH]
        rw [this, Option.map_some, PV.rens_noids _ _ hi1]
      · by_cases hiq : i = q
        · subst hiq
          rw [if_pos (by simp), hH2]
          have hx : [p, i].idxOf i = 1 := by
            have hb : (p == i) = false := by simpa using hne
            simp [List.idxOf_cons, hb]
          rw [hx]
          have : lookH [(Id.par 0, cs), (Id.par 1, ds)] (.par 1) = some ds := by simp [lookH]
          rw [this, Option.map_some, PV.rens_noids _ _ hi2]
        · rw [if_neg (by simp [hip, hiq])]
          cases S.H i <;> simp [PV.subs_keep]
    rw [e2, e3, PV.ren_noids _ _ hr]
    have e4 : (⟨fun t => (S.env t).sub fun _ => .keep, S.H⟩ : St) = S := by
      cases S
      simp [PV.sub_keep]
    rw [e4]
    exact h

end
end Go.Proofs.Ytacdknbakjbpiaa.Ab
