/-
  Abstract values for walks without memory: bytes of strings.
-/
import Derived.Test.YtcahjpkmldmjdaaAb22
namespace Go.Proofs.Ytcahjpkmldmjdaa.Ab
open Go

theorem toList_data (b : ByteArray) : b.toList = b.data.toList := by
  have loop : ∀ (n i : Nat) (r : List UInt8), b.size - i = n → ByteArray.toList.loop b i r = r.reverse ++ b.data.toList.drop i := by
    intro n
    induction n with
    | zero =>
      intro i r hn
      unfold ByteArray.toList.loop
      have hi : ¬ i < b.size := by omega
      rw [if_neg hi, List.drop_eq_nil_of_le (by simpa using Nat.le_of_not_lt hi), List.append_nil]
    | succ n ih =>
      intro i r hn
      unfold ByteArray.toList.loop
      have hi : i < b.size := by omega
      rw [if_pos hi, ih (i + 1) _ (by omega)]
      have hd : i < b.data.toList.length := by simpa using hi
      rw [List.drop_eq_getElem_cons hd]
      simp only [List.reverse_cons, List.append_assoc, List.singleton_append]
      congr 2
      have : b.get! i = b.data[i]! := by cases b; rfl
      rw [this]
      simp [getElem!_pos, hi]
  have := loop b.size 0 [] rfl
  simpa [ByteArray.toList] using this

theorem mkStr_data (ns : List Int) : (mkStr ns).data.toList = ns.map fun n => UInt8.ofNat n.toNat := by
  have : ∀ (ns : List Int) (r : ByteArray), (ns.foldl (fun r n => r.push (UInt8.ofNat n.toNat)) r).data.toList = r.data.toList ++ ns.map fun n => UInt8.ofNat n.toNat := by
    intro ns
    induction ns with
    | nil => intro r; simp
    | cons n ns ih => intro r; simp only [List.foldl_cons, ih, List.map_cons]; simp [ByteArray.push]
  have := this ns .empty
  rw [show ByteArray.empty.data.toList = [] from rfl, List.nil_append] at this
  exact this

theorem bytes_eq {a b : ByteArray} (h : a.data.toList = b.data.toList) : a = b := by
  cases a; cases b
  simp at h
  subst h
  rfl

theorem str_beq (a b : ByteArray) : (a.toList == b.toList) = decide (a = b) := by
  rw [toList_data, toList_data, Bool.eq_iff_iff]
  simp only [beq_iff_eq, decide_eq_true_eq]
  exact ⟨bytes_eq, fun h => by rw [h]⟩

theorem str_beq_self (a : ByteArray) : (a.toList == a.toList) = true := by simp

/-- Numbers that are bytes. -/
def AreBytes (ns : List Int) : Prop := ∀ n ∈ ns, 0 ≤ n ∧ n ≤ 255

theorem strNums_mkStr {ns : List Int} (h : AreBytes ns) : strNums (mkStr ns) = ns := by
  unfold strNums
  rw [mkStr_data, List.map_map]
  conv => rhs; rw [← List.map_id ns]
  apply List.map_congr_left
  intro n hn
  have := h n hn
  simp only [Function.comp, id, UInt8.toNat_ofNat']
  omega

theorem mkStr_strNums (s : ByteArray) : mkStr (strNums s) = s := by
  apply bytes_eq
  rw [mkStr_data, strNums, List.map_map]
  conv => rhs; rw [← List.map_id s.data.toList]
  apply List.map_congr_left
  intro b _
  simp

theorem strNums_bytes (s : ByteArray) : AreBytes (strNums s) := by
  intro n hn
  unfold strNums at hn
  obtain ⟨b, _, rfl⟩ := List.mem_map.1 hn
  have := b.toNat_lt
  omega

theorem strNums_length (s : ByteArray) : (strNums s).length = s.size := by simp [strNums]

theorem mkStr_inj {a b : List Int} (ha : AreBytes a) (hb : AreBytes b) (h : mkStr a = mkStr b) : a = b := by
  rw [← strNums_mkStr ha, h, strNums_mkStr hb]

theorem strNums_append (a b : ByteArray) : strNums (a ++ b) = strNums a ++ strNums b := by
  simp [strNums]

theorem map_num (bs : List Int) (k : IntKind) : (bs.map (PV.int k)).map PV.num = bs := by
  rw [List.map_map]
  conv => rhs; rw [← List.map_id bs]
  apply List.map_congr_left
  intro b _
  rfl

theorem all_isU8 (bs : List Int) : (bs.map (PV.int .u8)).all PV.isU8 = true := by
  simp [PV.isU8]

section
variable {P : Program} {tab : Tab}
variable {n : Nat} {N : St → Prop} {X : Nat → St → Prop} {R : St → Prop} {S T : St} {r k : Nat} {ops : Array Oper} {K : St → Prop} {l : List Oper}
variable {d : Nat} {op : Op} {ty : TypeId} {pos : String} {after : Array Edge} {g : Option (Nat × Bool)}

/-- string(bytes). -/
theorem Wr.toStr {s t : Nat} {x : Operand} {e : Nat} {tg : Tag} {bs : List Int} {s1 b1 s2 b2 s3 b3 : Nat} {z1 z2 z3 : PV} (h : Wr P tab n r ops (k + 1) l K (S.set d (.str (mkStr bs))))
    (hg : runs ops S g = some true := by rfl) (ht : tab t = some ⟨.str, s1, b1, z1⟩ := by rfl) (hs : tab s = some ⟨.slice e, s2, b2, z2⟩ := by rfl) (he : tab e = some ⟨.int .u8, s3, b3, z3⟩ := by rfl) (hx : opnd S x = .sl e tg (bs.map (PV.int .u8)) := by rfl) (hst : decide (s = t) = false := by rfl) :
    Wr P tab n r ops k (⟨some d, .convert s t x, ty, pos, after, g⟩ :: l) K S := by
  refine .val (c := e = e ∧ (bs.map (PV.int .u8)).all PV.isU8 = true) h hg ?_ ⟨rfl, all_isU8 bs⟩
  have hst' : s ≠ t := by simpa using hst
  simp only [ev, if_neg hst', evConv, ht, hx, hs, he]
  rw [map_num]

end
end Go.Proofs.Ytcahjpkmldmjdaa.Ab
