/-
  Abstract values for walks without memory: the operations are sound, fourth part: rows and variables that are made, written, shared.
-/
import Derived.Test.YtcahjpkmldmjdaaAb7
namespace Go.Proofs.Ytcahjpkmldmjdaa.Ab
open Go

/-- Names of blocks behind a step that makes the row 'rid' (none: none is made). -/
def omNext (om : Id → Option Nat) (σ : Id → Sub) (rid : Id) (g : Option Nat) : Id → Option Nat := fun i =>
  if i = rid then g else match σ i with
    | .keep => om i
    | _ => none

section
variable {P : Program} {tab : Tab} {F : Fr} {om : Id → Option Nat} {a : Act} {w : World} {S : St}

theorem omNext_some {σ : Id → Sub} {rid : Id} {g : Option Nat} {i : Id} {b : Nat} (h : omNext om σ rid g i = some b) : (i = rid ∧ g = some b) ∨ (i ≠ rid ∧ σ i = .keep ∧ om i = some b) := by
  unfold omNext at h
  split at h
  · exact .inl ⟨by assumption, h⟩
  · rename_i hne
    split at h
    · rename_i hk; exact .inr ⟨hne, hk, h⟩
    · cases h

theorem omNext_keep {σ : Id → Sub} {rid : Id} {g : Option Nat} {i : Id} (hne : i ≠ rid) (hk : σ i = .keep) : omNext om σ rid g i = om i := by
  simp [omNext, hne, hk]

theorem SRel.rowExt (h : SRel P F om a w S) {σ : Id → Sub} {rid : Id} {g : Nat} {w' : World} (hrid : rid.isRow = true) (hσb : ∀ i, i.isRow = false → σ i = .keep)
    (hσ : ∀ i, σ i = .keep ∨ σ i = .frz ∨ σ i = .kill) (hσr : σ rid ≠ .keep)
    (hg : g = w.heap.size ∨ ∃ id0, σ id0 = .kill ∧ om id0 = some g) (hsz : w.heap.size ≤ w'.heap.size)
    (hold : ∀ b, b < w.heap.size → b ≠ g → w'.heap[b]? = w.heap[b]?) : Ext P F.I0 F.base om w (omNext om σ rid (some g)) w' σ := by
  have hgi : ∀ id b, σ id ≠ .kill → om id = some b → b ≠ g := by
    intro id b hk hb hbg
    subst hbg
    rcases hg with rfl | ⟨id0, h0, h1⟩
    · have := h.lt id _ hb; omega
    · have := h.inj id id0 b hb h1
      subst this
      exact hk h0
  have him : ∀ b, Im F.I0 F.base om w b → b ≠ g := by
    intro b hb hbg
    subst hbg
    rcases hg with rfl | ⟨id0, h0, h1⟩
    · have := h.imLt hb; omega
    · exact hb.2 id0 h1
  refine ⟨?_, ?_, ?_, ?_, ?_⟩
  · intro b hb
    refine ⟨⟨?_, ?_⟩, hold b (h.imLt hb) (him b hb)⟩
    · rcases hb.1 with h1 | h1
      · exact .inl h1
      · exact .inr ⟨h1.1, Nat.lt_of_lt_of_le h1.2 hsz⟩
    · intro i hi
      rcases omNext_some hi with ⟨_, hi⟩ | ⟨_, _, hi⟩
      · exact him b hb (by simpa using hi.symm)
      · exact hb.2 i hi
  · intro id hr _ b hb
    have hne : id ≠ rid := fun e => by rw [e, hrid] at hr; cases hr
    rw [omNext_keep hne (hσb id hr)]
    exact hb
  · intro id _ hk b hb
    have hne : id ≠ rid := fun e => by subst e; exact hσr hk
    rw [omNext_keep hne hk]
    exact ⟨hb, hold b (h.lt id b hb) (hgi id b (by rw [hk]; simp) hb)⟩
  · intro id hr hf b hb
    have hbg := hgi id b (by rw [hf]; simp) hb
    refine ⟨⟨.inr ⟨?_, Nat.lt_of_lt_of_le (h.lt id b hb) hsz⟩, ?_⟩, hold b (h.lt id b hb) hbg⟩
    · rcases h.loc id b hb with h1 | ⟨k, rfl⟩
      · exact h1
      · cases hr
    · intro i hi
      rcases omNext_some hi with ⟨_, hi⟩ | ⟨_, hk, hi⟩
      · exact hbg (by simpa using hi.symm)
      · have := h.inj i id b hi hb
        subst this
        rw [hf] at hk
        cases hk
  · intro id i x _ hu
    rcases hσ id with h1 | h1 | h1 <;> rw [h1] at hu <;> cases hu

/-- A step that makes a row. -/
theorem SRel.row (h : SRel P F om a w S) {σ : Id → Sub} {rid : Id} {g : Nat} {w' : World} (hrid : rid.isRow = true) (hσb : ∀ i, i.isRow = false → σ i = .keep)
    (hσ : ∀ i, σ i = .keep ∨ σ i = .frz ∨ σ i = .kill) (hσr : σ rid ≠ .keep)
    (hg : g = w.heap.size ∨ ∃ id0, σ id0 = .kill ∧ om id0 = some g) (hgb : F.base g) (hgl : g < w'.heap.size) (hsz : w.heap.size ≤ w'.heap.size)
    (hold : ∀ b, b < w.heap.size → b ≠ g → w'.heap[b]? = w.heap[b]?) (hout : Outer w w') (d : Option Nat) (hd : ∀ t, d = some t → t < F.n) (p : PV) (v : Value)
    (hv : VR P F.I0 F.base (omNext om σ rid (some g)) w' p v) : SRel P F (omNext om σ rid (some g)) (a.put d v) w' (((S.sub σ).setH rid none).put d p) := by
  have E := h.rowExt hrid hσb hσ hσr hg hsz hold
  have hgi : ∀ id b, σ id ≠ .kill → om id = some b → b ≠ g := by
    intro id b hk hb hbg
    subst hbg
    rcases hg with rfl | ⟨id0, h0, h1⟩
    · have := h.lt id _ hb; omega
    · have := h.inj id id0 b hb h1
      subst this
      exact hk h0
  refine h.step E rid none ?_ ?_ ?_ ?_ hsz ?_ hout ?_ (fun cs hcs => by cases hcs) d hd p v hv
  · intro i j b hi hj
    rcases omNext_some hi with ⟨h1, h2⟩ | ⟨h1, h2, h3⟩ <;> rcases omNext_some hj with ⟨h4, h5⟩ | ⟨h4, h5, h6⟩
    · rw [h1, h4]
    · exact absurd (by simpa using h2.symm) (hgi j b (by rw [h5]; simp) h6)
    · exact absurd (by simpa using h5.symm) (hgi i b (by rw [h2]; simp) h3)
    · exact h.inj i j b h3 h6
  · intro i b hi
    rcases omNext_some hi with ⟨_, h2⟩ | ⟨_, _, h3⟩
    · cases h2; exact hgl
    · exact Nat.lt_of_lt_of_le (h.lt i b h3) hsz
  · intro i b hi
    rcases omNext_some hi with ⟨_, h2⟩ | ⟨_, _, h3⟩
    · cases h2; exact .inl hgb
    · exact h.loc i b h3
  · intro k
    exact omNext_keep (fun e => by rw [← e] at hrid; cases hrid) (hσb _ rfl)
  · intro b hb _
    exact hold b (h.baseLt hb) (by rintro rfl; exact hb hgb)
  · intro i hne hr b hb
    have hk := hσb i hr
    rw [omNext_keep hne hk]
    exact ⟨hb, hold b (h.lt i b hb) (hgi i b (by rw [hk]; simp) hb)⟩

/-- A step that shares rows, or lets go of them. -/
theorem SRel.release (h : SRel P F om a w S) {σ : Id → Sub} {rid : Id} (hrid : rid.isRow = true) (hσb : ∀ i, i.isRow = false → σ i = .keep)
    (hσ : ∀ i, σ i = .keep ∨ σ i = .frz ∨ σ i = .kill) (hσr : σ rid ≠ .keep) (d : Option Nat) (hd : ∀ t, d = some t → t < F.n) (p : PV) (v : Value)
    (hv : VR P F.I0 F.base (omNext om σ rid none) w p v) : SRel P F (omNext om σ rid none) (a.put d v) w (((S.sub σ).setH rid none).put d p) := by
  have E : Ext P F.I0 F.base om w (omNext om σ rid none) w σ := by
    refine ⟨?_, ?_, ?_, ?_, ?_⟩
    · intro b hb
      refine ⟨⟨hb.1, ?_⟩, rfl⟩
      intro i hi
      rcases omNext_some hi with ⟨_, hi⟩ | ⟨_, _, hi⟩
      · cases hi
      · exact hb.2 i hi
    · intro id hr _ b hb
      have hne : id ≠ rid := fun e => by rw [e, hrid] at hr; cases hr
      rw [omNext_keep hne (hσb id hr)]
      exact hb
    · intro id _ hk b hb
      have hne : id ≠ rid := fun e => by subst e; exact hσr hk
      rw [omNext_keep hne hk]
      exact ⟨hb, rfl⟩
    · intro id hr hf b hb
      refine ⟨⟨.inr ⟨?_, h.lt id b hb⟩, ?_⟩, rfl⟩
      · rcases h.loc id b hb with h1 | ⟨k, rfl⟩
        · exact h1
        · cases hr
      · intro i hi
        rcases omNext_some hi with ⟨_, hi⟩ | ⟨_, hk, hi⟩
        · cases hi
        · have := h.inj i id b hi hb
          subst this
          rw [hf] at hk
          cases hk
    · intro id i x _ hu
      rcases hσ id with h1 | h1 | h1 <;> rw [h1] at hu <;> cases hu
  refine h.step E rid none ?_ ?_ ?_ ?_ (Nat.le_refl _) (fun _ _ _ => rfl) (.refl w) ?_ (fun cs hcs => by cases hcs) d hd p v hv
  · intro i j b hi hj
    rcases omNext_some hi with ⟨_, h2⟩ | ⟨h1, h2, h3⟩
    · cases h2
    · rcases omNext_some hj with ⟨_, h5⟩ | ⟨h4, h5, h6⟩
      · cases h5
      · exact h.inj i j b h3 h6
  · intro i b hi
    rcases omNext_some hi with ⟨_, h2⟩ | ⟨_, _, h3⟩
    · cases h2
    · exact h.lt i b h3
  · intro i b hi
    rcases omNext_some hi with ⟨_, h2⟩ | ⟨_, _, h3⟩
    · cases h2
    · exact h.loc i b h3
  · intro k
    exact omNext_keep (fun e => by rw [← e] at hrid; cases hrid) (hσb _ rfl)
  · intro i hne hr b hb
    rw [omNext_keep hne (hσb i hr)]
    exact ⟨hb, rfl⟩

/-- What a slice that is no row of the call's own yields to an append. -/
theorem src_of_RR {Im : Nat → Prop} {e : TypeId} {tg : Tag} {ys : List PV} {v : Value} {tx e' : TypeId} (h : RR P Im w (.sl e tg ys) v) (hk : P.underlying tx = some (.slice e')) :
    ∃ news, Src P (P.cellsOf e) tx v ys.length news w ∧ Flat (RR P Im w) (P.cellsOf e) ys news := by
  obtain ⟨p, cap, g, o, fs, rfl, ht, hc, hm, hp, hz, hF, hl⟩ := h.sl_inv
  refine ⟨fs, ?_, hF⟩
  have hone : ∀ u ∈ fs, u.oneCell' = true := by
    intro u hu
    obtain ⟨k, hk⟩ := List.mem_iff_getElem?.1 hu
    obtain ⟨hklt, _⟩ := List.getElem?_eq_some_iff.1 hk
    have hlen := hF.len
    have hpos : 0 < P.cellsOf e := by
      rcases Nat.eq_zero_or_pos (P.cellsOf e) with h0 | h0
      · rw [h0] at hlen; omega
      · exact h0
    have hi : k / P.cellsOf e < ys.length := by rw [Nat.div_lt_iff_lt_mul hpos]; omega
    have hj : k % P.cellsOf e < P.cellsOf e := Nat.mod_lt _ hpos
    have hx : ys[k / P.cellsOf e]? = some ys[k / P.cellsOf e] := List.getElem?_eq_getElem hi
    have hs := hF.sizes _ _ hx
    have hy : (ys[k / P.cellsOf e]).cells[k % P.cellsOf e]? = some (ys[k / P.cellsOf e]).cells[k % P.cellsOf e] := List.getElem?_eq_getElem (by omega)
    have hkk : (k / P.cellsOf e) * P.cellsOf e + k % P.cellsOf e = k := by rw [Nat.mul_comm]; exact Nat.div_add_mod k _
    exact (hF.rel _ _ _ _ u hx hy (by rw [hkk]; exact hk)).oneCell P (hF.cell _ _ _ _ hx hy)
  by_cases hne : ys = []
  · subst hne
    have hfs : fs = [] := List.eq_nil_of_length_eq_zero (by simpa using hF.len)
    subst hfs
    cases p with
    | none => exact Src.ofNil w hk cap
    | some ad => exact Src.ofSlice w hk ad 0 cap [] (by simp) (fun j u h => by simp at h) (fun u h => by simp at h)
  · rw [(hp hne).1]
    exact Src.ofSlice w hk _ ys.length cap fs hF.len (fun j u hj => by rw [add_mk]; exact hl j u hj) hone

theorem flat_bytes {R : PV → Value → Prop} (hR : ∀ n, R (.int .u8 n) (.int .u8 n)) (ns : List Int) : Flat R 1 (ns.map (PV.int .u8)) (ns.map (Value.int .u8)) := by
  refine ⟨by simp, ?_, ?_, ?_⟩
  · intro i x hx
    rw [List.getElem?_map] at hx
    cases hn : ns[i]? with
    | none => simp [hn] at hx
    | some n => simp [hn] at hx; subst hx; simp [PV.cells]
  · intro i x j y hx hy
    rw [List.getElem?_map] at hx
    cases hn : ns[i]? with
    | none => simp [hn] at hx
    | some n =>
      simp [hn] at hx; subst hx
      cases j <;> simp [PV.cells] at hy
      subst hy; rfl
  · intro i x j y c hx hy hc
    rw [List.getElem?_map] at hx
    cases hn : ns[i]? with
    | none => simp [hn] at hx
    | some n =>
      simp [hn] at hx; subst hx
      cases j <;> simp [PV.cells] at hy
      subst hy
      rw [Nat.mul_one, Nat.add_zero, List.getElem?_map, hn] at hc
      simp at hc; subst hc
      exact hR _

theorem src_of_str {tx : TypeId} (hk : P.underlying tx = some .string) (s : ByteArray) {R : PV → Value → Prop} (hR : ∀ n, R (.int .u8 n) (.int .u8 n)) :
    ∃ news, Src P 1 tx (.string s) ((strNums s).map (PV.int .u8)).length news w ∧ Flat R 1 ((strNums s).map (PV.int .u8)) news := by
  refine ⟨byteCells s, ?_, ?_⟩
  · have := Src.ofString w (P := P) hk s
    rw [show ((strNums s).map (PV.int .u8)).length = s.size by simp [strNums]]
    exact this
  · have := flat_bytes hR (strNums s)
    rw [show byteCells s = (strNums s).map (Value.int .u8) by simp [byteCells, strNums]]
    exact this

/-- Nothing is appended, and there is room. -/
theorem run_append_nothing' (t tx ty e : TypeId) (i : TypeInfo) (ht : P.underlying t = some (.slice e)) (hi : P.info? e = some i) (p : Option Addr) (sLen sCap : Nat) (x : Value) (news : List Value)
    (hs : Src P i.size tx x 0 news w) (hroom : sLen ≤ sCap) : (Builtin.append_ #[t, tx] ty #[.slice p sLen sCap, x]).run P w = .ok (.slice p sLen sCap) w := by
  have hn : news = [] := List.eq_nil_of_length_eq_zero (by simpa using hs.newsLen)
  subst hn
  have hc := hs.cells
  rcases hs.kind with ⟨e', hk⟩ | hk <;> cases p <;> simp [Builtin.append_, run_underlying ht, run_underlying hk, sizeOf, typeInfo, hi, hs.len, hroom, hc, storeCells]

theorem run_append_room_row (t tx ty e : TypeId) (i : TypeInfo) (ht : P.underlying t = some (.slice e)) (hi : P.info? e = some i) (g sLen sCap : Nat) (cur : Array Value) (hg : w.heap[g]? = some (.cells cur e (0, 0)))
    (x : Value) (n : Nat) (news : List Value) (hs : Src P i.size tx x n news w) (hroom : sLen + n ≤ sCap) (hfit : sLen * i.size + news.length ≤ cur.size) :
    (Builtin.append_ #[t, tx] ty #[.slice (some ⟨g, 0, none⟩) sLen sCap, x]).run P w =
      .ok (.slice (some ⟨g, 0, none⟩) (sLen + n) sCap) (w.setRow g (cur.toList.take (sLen * i.size) ++ news ++ cur.toList.drop (sLen * i.size + news.length)).toArray) := by
  have hst := run_storeCells_at P g (sLen * i.size) e news 0 cur w hg (by simpa using hfit) hs.one
  simp only [Nat.add_zero] at hst
  rcases hs.kind with ⟨e', hk⟩ | hk <;> simp [Builtin.append_, run_underlying ht, run_underlying hk, sizeOf, typeInfo, hi, hs.len, hroom, hs.cells, Addr.add_lit, hst]

end
end Go.Proofs.Ytcahjpkmldmjdaa.Ab
