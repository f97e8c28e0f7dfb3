/-
  Abstract values for walks without memory: from arguments that read as data to values; from a contract to a law.
-/
import Derived.Test.YtcahjpkmldmjdaaAb20
import Derived.ProofKit
import Derived.OpenShut
import Derived.ChangeOld
import Derived.Below
import Derived.SizedLaws
namespace Go.Proofs.Ytcahjpkmldmjdaa.Ab
open Go Go.ChangeShapes Go.WideShapes Go.ChangeAt Go.RowKit

/-! ### values of a type -/

mutual
inductive Ty (tab : Tab) : Nat → List PV → Prop
  | int {t : Nat} {i : TI} {k : IntKind} {n : Int} (h : tab t = some i) (hd : i.desc = .int k) (hw : (Lit.int k n).wf = true) : Ty tab t [.int k n]
  | bool {t : Nat} {i : TI} {b : Bool} (h : tab t = some i) (hd : i.desc = .bool) : Ty tab t [.bool b]
  | str {t : Nat} {i : TI} {s : ByteArray} (h : tab t = some i) (hd : i.desc = .str) (hs : s.size ≤ maxLen) : Ty tab t [.str s]
  | sl {t : Nat} {i j : TI} {e : Nat} {xs : List PV} (h : tab t = some i) (hd : i.desc = .slice e) (he : tab e = some j) (hx : ∀ (q : Nat) (x : PV), xs[q]? = some x → Ty tab e x.cells) (hs : ∀ (q : Nat) (x : PV), xs[q]? = some x → x.isCell = !j.desc.agg) (hl : xs.length ≤ maxLen) : Ty tab t [.sl e .ro xs]
  | struct {t : Nat} {i : TI} {fs : List (Nat × Nat)} {cs : List PV} (h : tab t = some i) (hd : i.desc = .struct fs) (hf : TyL tab (fs.map (·.2)) cs) : Ty tab t cs
  | array {t : Nat} {i : TI} {n e : Nat} {cs : List PV} (h : tab t = some i) (hd : i.desc = .array n e) (hf : TyL tab (List.replicate n e) cs) : Ty tab t cs
inductive TyL (tab : Tab) : List Nat → List PV → Prop
  | nil : TyL tab [] []
  | cons {t : Nat} {ts : List Nat} {cs ds : List PV} (h : Ty tab t cs) (hl : TyL tab ts ds) : TyL tab (t :: ts) (cs ++ ds)
end

/-- A value of a type. -/
structure TyV (tab : Tab) (t : Nat) (y : PV) : Prop where
  ty : Ty tab t y.cells
  shape : ∃ i, tab t = some i ∧ y.isCell = !i.desc.agg

def TyAll (tab : Tab) : List Nat → List PV → Prop
  | [], [] => True
  | t :: ts, y :: ys => TyV tab t y ∧ TyAll tab ts ys
  | _, _ => False

def tilesB (tab : Tab) (D : Nat → Bool) : Nat → List (Nat × Nat) → Option Nat
  | off, [] => some off
  | off, (o, ft) :: r => match tab ft with
    | some i => if o = off ∧ D ft = true then tilesB tab D (off + i.size) r else none
    | none => none

def okD (tab : Tab) (D : Nat → Bool) (i : TI) : Bool := match i.desc with
  | .int _ => true
  | .bool => true
  | .str => true
  | .slice e => D e && (match tab e with
    | some j => decide (0 < j.size)
    | none => false)
  | .array n e => D e && (match tab e with
    | some j => decide (n * j.size = i.size)
    | none => false)
  | .struct fs => decide (tilesB tab D 0 fs = some i.size)
  | _ => false

/-- A set of types, each told by the table, made of types of the set. -/
def SetOK (tab : Tab) (D : Nat → Bool) : Prop := ∀ t, D t = true → ∃ i, tab t = some i ∧ okD tab D i = true

section
variable {P : Program} {tab : Tab}

/-- Cells read as values. -/
def CR (P : Program) (Im : Nat → Prop) (w : World) (ps : List PV) (cs : List Value) : Prop :=
  ps.length = cs.length ∧ ∀ (j : Nat) (y : PV) (c : Value), ps[j]? = some y → cs[j]? = some c → y.isCell = true ∧ RR P Im w y c

theorem CR.nil {Im : Nat → Prop} {w : World} : CR P Im w [] [] := ⟨rfl, fun j y c h => by simp at h⟩

theorem CR.one {Im : Nat → Prop} {w : World} {y : PV} {c : Value} (hy : y.isCell = true) (h : RR P Im w y c) : CR P Im w [y] [c] := by
  refine ⟨rfl, fun j y' c' h1 h2 => ?_⟩
  cases j with
  | zero => simp at h1 h2; subst h1; subst h2; exact ⟨hy, h⟩
  | succ j => simp at h1

theorem CR.append {Im : Nat → Prop} {w : World} {ps qs : List PV} {cs ds : List Value} (h : CR P Im w ps cs) (k : CR P Im w qs ds) : CR P Im w (ps ++ qs) (cs ++ ds) := by
  refine ⟨by simp [h.1, k.1], fun j y c h1 h2 => ?_⟩
  by_cases hj : j < ps.length
  · rw [List.getElem?_append_left hj] at h1
    rw [List.getElem?_append_left (by rw [← h.1]; exact hj)] at h2
    exact h.2 j y c h1 h2
  · rw [List.getElem?_append_right (by omega)] at h1
    rw [List.getElem?_append_right (by rw [← h.1]; omega), ← h.1] at h2
    exact k.2 _ y c h1 h2

/-- A value, out of its cells. -/
def mkV (agg : Bool) (ps : List PV) : PV := match agg, ps with
  | false, [p] => p
  | _, ps => .agg ps

theorem TIOk.cells {t : Nat} {i : TI} (h : TIOk P t i) : P.cellsOf t = i.size := h.cellsOf

theorem und_arr {t : Nat} {i : TI} {n e : Nat} (h : TIOk P t i) (hd : i.desc = .array n e) : P.underlying t = some (.array n e) := by
  obtain ⟨d, hu, hk⟩ := h.und
  rw [hd] at hk
  cases d <;> simp [TDOk] at hk
  rw [hu, hk.1, hk.2]

theorem und_of {t : Nat} {i : TI} (h : TIOk P t i) {d : TD} (hd : i.desc = d) : ∃ u, P.underlying t = some u ∧ TDOk d u := by
  subst hd; exact h.und

/-- Pieces in a row. -/
theorem pieces (hT : TabOK P tab) {D : Nat → Bool} {Im : Nat → Prop} {w : World} {cs : List Value} : ∀ (fs : List (Nat × Nat)) (off fin : Nat), tilesB tab D off fs = some fin → fin = cs.length →
    (∀ p ∈ fs, D p.2 = true → ∃ ps, Ty tab p.2 ps ∧ CR P Im w ps ((cs.drop p.1).take (P.cellsOf p.2))) → ∃ ps, TyL tab (fs.map (·.2)) ps ∧ CR P Im w ps (cs.drop off)
  | [], off, fin, h, hfin, _ => by
    simp [tilesB] at h
    subst h
    subst hfin
    exact ⟨[], .nil, by simpa using CR.nil⟩
  | (o, ft) :: r, off, fin, h, hfin, hp => by
    unfold tilesB at h
    split at h
    case h_2 => cases h
    rename_i i hi
    split at h
    case isFalse => cases h
    rename_i ho
    obtain ⟨rfl, hD⟩ := ho
    obtain ⟨ps, h1, h2⟩ := hp (o, ft) (.head _) hD
    obtain ⟨qs, k1, k2⟩ := pieces hT r _ fin h hfin fun p hpr => hp p (.tail _ hpr)
    refine ⟨ps ++ qs, .cons h1 k1, ?_⟩
    have e : cs.drop o = (cs.drop o).take (P.cellsOf ft) ++ cs.drop (o + i.size) := by
      rw [← (hT ft i hi).cells, ← List.drop_drop, List.take_append_drop]
    rw [e]
    exact h2.append k2

theorem pieces_arr {Im : Nat → Prop} {w : World} {e sz : Nat} {cs : List Value} : ∀ (n k : Nat), cs.length = (k + n) * sz →
    (∀ i, k ≤ i → i < k + n → ∃ ps, Ty tab e ps ∧ CR P Im w ps ((cs.drop (i * sz)).take sz)) → ∃ ps, TyL tab (List.replicate n e) ps ∧ CR P Im w ps (cs.drop (k * sz))
  | 0, k, hl, _ => by
    refine ⟨[], .nil, ?_⟩
    rw [List.drop_eq_nil_of_le (by rw [hl]; simp)]
    exact CR.nil
  | n + 1, k, hl, hp => by
    obtain ⟨ps, h1, h2⟩ := hp k (Nat.le_refl _) (by omega)
    obtain ⟨qs, k1, k2⟩ := pieces_arr n (k + 1) (by rw [hl]; congr 1; omega) fun i h1 h2 => hp i (by omega) (by omega)
    refine ⟨ps ++ qs, .cons h1 k1, ?_⟩
    have e : cs.drop (k * sz) = (cs.drop (k * sz)).take sz ++ cs.drop ((k + 1) * sz) := by
      rw [Nat.add_mul, Nat.one_mul, ← List.drop_drop, List.take_append_drop]
    rw [e]
    exact h2.append k2

theorem spot_none {w : World} {a : Addr} {c : Value} (h : w.cell? a = some c) : a.spot = none := by
  cases hs : a.spot with
  | none => rfl
  | some k =>
    unfold World.cell? at h
    split at h
    · simp [hs] at h
    · cases h

/-- ARGUMENTS THAT READ AS DATA READ AS VALUES. -/
theorem trod_ty {H : Type} {enc : TypeId × Value → H} {w : World} {base : Nat} {spare : Nat → Bool} {held : Bool} (hT : TabOK P tab) {D : Nat → Bool} (hD : SetOK tab D) (Im : Nat → Prop) (hIm : ∀ b, b < w.heap.size → Im b) :
    ∀ (fuel t : Nat) (cs : List Value) (x : DataW H × List MemPlace), D t = true → DataW.trod enc P w base spare held fuel t cs = some x → ∃ ps, Ty tab t ps ∧ CR P Im w ps cs := by
  intro fuel
  induction fuel with
  | zero => intro t cs x _ h; simp [DataW.trod] at h
  | succ fuel ih =>
    intro t cs x hDt h
    obtain ⟨i, hti, hok⟩ := hD t hDt
    have hTi := hT t i hti
    unfold okD at hok
    split at hok
    · rename_i k hd
      obtain ⟨n, rfl, _, hw⟩ := DataW.trod_int (und_int (hT t ⟨.int k, i.size, i.bytes, i.zero⟩ (by rw [hti, ← hd]))) h
      exact ⟨_, .int hti hd hw, .one rfl (.int _ _)⟩
    · rename_i hd
      obtain ⟨u, hu, hk⟩ := und_of hTi hd
      cases u <;> simp [TDOk] at hk
      obtain ⟨b, rfl, _⟩ := DataW.trod_bool hu h
      exact ⟨_, .bool hti hd, .one rfl (.bool _)⟩
    · rename_i hd
      obtain ⟨u, hu, hk⟩ := und_of hTi hd
      cases u <;> simp [TDOk] at hk
      obtain ⟨s, rfl, _, hs⟩ := DataW.trod_string hu h
      exact ⟨_, .str hti hd hs, .one rfl (.str _)⟩
    · rename_i e hd
      rw [Bool.and_eq_true] at hok
      obtain ⟨hok, hpos⟩ := hok
      obtain ⟨j, hej, hokj⟩ := hD e hok
      rw [hej] at hpos
      simp only [decide_eq_true_eq] at hpos
      have hsz := (hT e j hej).cells
      obtain ⟨u, hu, hk⟩ := und_of hTi hd
      cases u <;> simp [TDOk] at hk
      subst hk
      rcases DataW.trod_slice hu h with ⟨rfl, _⟩ | ⟨a, len, cap, elems, rest, n, hfu, rfl, rfl, hb, hl, hm, hlen, hel, _, _⟩
      · refine ⟨_, .sl (xs := []) hti hd hej (fun q x hx => by simp at hx) (fun q x hx => by simp at hx) (Nat.zero_le _), .one rfl ?_⟩
        exact RR.sl_mk P (p := none) (cap := 0) (g := 0) (o := 0) (fs := []) (.inl rfl) (Nat.le_refl _) (Nat.zero_le _) (fun h => absurd rfl h) (fun _ => rfl) Flat.nil (fun k c h => by simp at h)
      · cases hfu
        have each : ∀ q, q < len → ∃ ps ce, Ty tab e ps ∧ CR P Im w ps ce ∧ w.cells? base (a.add (q * P.cellsOf e)) (P.cellsOf e) = some ce := by
          intro q hq
          have h1 := hel q hq
          rw [List.getElem?_eq_getElem (by omega)] at h1
          obtain ⟨ce, h2, h3⟩ := Option.bind_eq_some_iff.1 h1
          obtain ⟨ps, h4, h5⟩ := ih e ce _ hok h3
          exact ⟨ps, ce, h4, h5, h2⟩
        have each' : ∀ q, ∃ y : PV, q < len → Ty tab e y.cells ∧ y.isCell = (!j.desc.agg) ∧ ∃ ce, CR P Im w y.cells ce ∧ w.cells? base (a.add (q * P.cellsOf e)) (P.cellsOf e) = some ce := by
          intro q
          by_cases hq : q < len
          · obtain ⟨ps, ce, h1, h2, h3⟩ := each q hq
            cases hag : j.desc.agg with
            | true => exact ⟨.agg ps, fun _ => ⟨h1, rfl, ce, h2, h3⟩⟩
            | false =>
              have h1' := h1
              have one : ∀ y : PV, ps = [y] → y.isCell = true → ∃ y : PV, q < len → Ty tab e y.cells ∧ y.isCell = (!false) ∧ ∃ ce, CR P Im w y.cells ce ∧ w.cells? base (a.add (q * P.cellsOf e)) (P.cellsOf e) = some ce := by
                intro y hy hyc
                have hcy : y.cells = ps := by rw [hy]; cases y <;> first | rfl | (simp [PV.isCell] at hyc)
                exact ⟨y, fun _ => ⟨by rw [hcy]; exact h1, by rw [hyc]; rfl, ce, by rw [hcy]; exact h2, h3⟩⟩
              cases h1' with
              | int h hd' hw => exact one _ rfl rfl
              | bool h hd' => exact one _ rfl rfl
              | str h hd' hs => exact one _ rfl rfl
              | sl h hd' he hx hs hl => exact one _ rfl rfl
              | struct h hd' hf => rw [hej] at h; cases h; rw [hd'] at hag; cases hag
              | array h hd' hf => rw [hej] at h; cases h; rw [hd'] at hag; cases hag
          · exact ⟨.dead, fun h => absurd h hq⟩
        have hch := fun q => Classical.choose_spec (each' q)
        generalize hys : (fun q => Classical.choose (each' q)) = ys at hch
        have hch' : ∀ q, q < len → Ty tab e (ys q).cells ∧ (ys q).isCell = (!j.desc.agg) ∧ ∃ ce, CR P Im w (ys q).cells ce ∧ w.cells? base (a.add (q * P.cellsOf e)) (P.cellsOf e) = some ce := by
          intro q hq
          rw [← hys]
          exact Classical.choose_spec (each' q) hq
        have hget : ∀ (q : Nat) (x : PV), ((List.range len).map ys)[q]? = some x → q < len ∧ x = ys q := by
          intro q x hx
          rw [List.getElem?_map] at hx
          by_cases hq : q < len
          · rw [List.getElem?_range hq] at hx; simp at hx; exact ⟨hq, hx.symm⟩
          · rw [List.getElem?_eq_none (by simp; omega)] at hx; simp at hx
        have hxl : ((List.range len).map ys).length = len := by simp
        refine ⟨_, .sl (xs := (List.range len).map ys) hti hd hej (fun q x hx => ?_) (fun q x hx => ?_) (by rw [hxl]; omega), .one rfl ?_⟩
        · obtain ⟨hq, rfl⟩ := hget q x hx; exact (hch' q hq).1
        · obtain ⟨hq, rfl⟩ := hget q x hx; exact (hch' q hq).2.1
        · have cellAt : ∀ q, q < len → ∀ k (y : PV), (ys q).cells[k]? = some y → ∃ c, w.cell? ⟨a.block, a.off + (q * P.cellsOf e + k), none⟩ = some c ∧ y.isCell = true ∧ RR P Im w y c ∧ a.spot = none ∧ Im a.block := by
            intro q hq k y hy
            obtain ⟨_, _, ce, hcr, hce⟩ := hch' q hq
            obtain ⟨_, hl1, hc1⟩ := World.cells?_some hce
            have hk := (List.getElem?_eq_some_iff.1 hy).1
            have hk' : k < ce.length := by rw [← hcr.1]; exact hk
            have h2 := hc1 k (by omega)
            rw [List.getElem?_eq_getElem hk'] at h2
            have h3 := hcr.2 k y _ hy (List.getElem?_eq_getElem hk')
            have hlt : a.block < w.heap.size := by
              have := World.cells?_block hce (by omega)
              have e1 : (a.add (q * P.cellsOf e)).block = a.block := by unfold Addr.add; split <;> rfl
              rwa [e1] at this
            have hsp : a.spot = none := by
              obtain ⟨_, _, ce0, hcr0, hce0⟩ := hch' 0 (by omega)
              obtain ⟨_, hl0, hc0⟩ := World.cells?_some hce0
              have h5 := hc0 0 (by omega)
              rw [List.getElem?_eq_getElem (by omega)] at h5
              have := spot_none h5
              simpa [Addr.add] using this
            refine ⟨ce[k], ?_, h3.1, h3.2, hsp, hIm _ hlt⟩
            rw [← h2]
            congr 1
            unfold Addr.add
            obtain ⟨ab, ao, asp⟩ := a
            simp only at hsp ⊢
            subst hsp
            by_cases hq0 : q * P.cellsOf e = 0
            · by_cases hk0 : k = 0
              · subst hk0; simp [hq0]
              · simp [hq0, hk0]
            · by_cases hk0 : k = 0
              · subst hk0; simp [hq0]
              · simp [hq0, hk0, Nat.add_assoc]
          have hsz0 : ∀ q, q < len → (ys q).cells.length = P.cellsOf e := by
            intro q hq
            obtain ⟨_, _, ce, hcr, hce⟩ := hch' q hq
            rw [hcr.1]
            exact (World.cells?_some hce).2.1
          have hre := RR.sl_mk P (Im := Im) (w := w) (e := e) (t := .ro) (xs := (List.range len).map ys) (p := some a) (cap := cap) (g := a.block) (o := a.off)
            (fs := (List.range (len * P.cellsOf e)).map fun k => (w.cell? ⟨a.block, a.off + k, none⟩).getD undef) (.inl rfl) (by rw [hxl]; exact hl) hm ?_ (fun h => by cases h) ?_ ?_
          · rw [hxl] at hre; exact hre
          · intro hne
            have hlen0 : 0 < len := by
              rcases Nat.eq_zero_or_pos len with h0 | h0
              · subst h0; exact absurd rfl hne
              · exact h0
            have hc0 : 0 < (ys 0).cells.length := by rw [hsz0 0 hlen0, hsz]; exact hpos
            obtain ⟨c, _, _, _, hsp, hI⟩ := cellAt 0 hlen0 0 _ (List.getElem?_eq_getElem hc0)
            refine ⟨?_, hI⟩
            obtain ⟨ab, ao, asp⟩ := a
            simp only at hsp
            subst hsp
            rfl
          · refine ⟨by simp, fun q x hx => ?_, fun q x k y hx hy => ?_, fun q x k y c hx hy hc => ?_⟩
            · obtain ⟨hq, rfl⟩ := hget q x hx; exact hsz0 q hq
            · obtain ⟨hq, rfl⟩ := hget q x hx
              obtain ⟨c, _, h2, _⟩ := cellAt q hq k y hy
              exact h2
            · obtain ⟨hq, rfl⟩ := hget q x hx
              obtain ⟨c', h1, _, h3, _⟩ := cellAt q hq k y hy
              have hk := (List.getElem?_eq_some_iff.1 hy).1
              rw [hsz0 q hq] at hk
              have hlt : q * P.cellsOf e + k < len * P.cellsOf e := by
                have := Nat.mul_le_mul_right (P.cellsOf e) (show q + 1 ≤ len by omega)
                rw [Nat.add_mul, Nat.one_mul] at this
                omega
              rw [List.getElem?_map, List.getElem?_range hlt] at hc
              simp only [Option.map_some, Option.some.injEq, h1, Option.getD_some] at hc
              rw [← hc]
              exact h3
          · intro k c hk
            rw [List.getElem?_map] at hk
            by_cases hkl : k < len * P.cellsOf e
            · rw [List.getElem?_range hkl] at hk
              simp only [Option.map_some, Option.some.injEq] at hk
              have hpos' : 0 < P.cellsOf e := by rw [hsz]; exact hpos
              have hq : k / P.cellsOf e < len := Nat.div_lt_of_lt_mul (by rw [Nat.mul_comm]; exact hkl)
              have hr : k % P.cellsOf e < (ys (k / P.cellsOf e)).cells.length := by rw [hsz0 _ hq]; exact Nat.mod_lt _ hpos'
              obtain ⟨c', h1, _⟩ := cellAt _ hq _ _ (List.getElem?_eq_getElem hr)
              have e1 : k / P.cellsOf e * P.cellsOf e + k % P.cellsOf e = k := by rw [Nat.mul_comm]; exact Nat.div_add_mod k _
              rw [e1] at h1
              rw [h1] at hk ⊢
              simp only [Option.getD_some] at hk
              rw [hk]
            · rw [List.getElem?_eq_none (by simp; omega)] at hk
              simp at hk
    · rename_i n e hd
      rw [Bool.and_eq_true] at hok
      obtain ⟨hok, hsz⟩ := hok
      have hu := und_arr hTi hd
      obtain ⟨xs, m, hfu, rfl, hl, hlen, hel⟩ := DataW.trod_array hu h
      cases hfu
      split at hsz
      case h_2 => cases hsz
      rename_i j hej
      simp only [decide_eq_true_eq] at hsz
      have hce := (hT e j hej).cells
      obtain ⟨ps, h1, h2⟩ := pieces_arr (P := P) (tab := tab) (Im := Im) (w := w) (e := e) (sz := P.cellsOf e) (cs := cs) n 0 (by rw [hl, hTi.cells, ← hsz, hce, Nat.zero_add]) fun q _ hq => by
        have h3 := hel q (by omega)
        rw [List.getElem?_eq_getElem (by omega)] at h3
        exact ih e _ _ hok h3
      rw [Nat.zero_mul, List.drop_zero] at h2
      exact ⟨ps, .array hti hd h1, h2⟩
    · rename_i fs hd
      simp only [decide_eq_true_eq] at hok
      obtain ⟨u, hu, hk⟩ := und_of hTi hd
      cases u <;> simp [TDOk] at hk
      rename_i gs
      obtain ⟨xs, m, hfu, rfl, hl, hlen, hel⟩ := DataW.trod_struct hu h
      cases hfu
      obtain ⟨ps, h1, h2⟩ := pieces hT (Im := Im) (w := w) (cs := cs) fs 0 _ hok (by rw [hl, hTi.cells]) fun p hp hDp => by
        rw [hk] at hp
        obtain ⟨g, hg, rfl⟩ := List.mem_map.1 hp
        obtain ⟨q, hq⟩ := List.mem_iff_getElem?.1 hg
        have hq' : gs[q]? = some g := by rw [← Array.getElem?_toList]; exact hq
        have h3 := hel q g hq'
        have hql := (Array.getElem?_eq_some_iff.1 hq').1
        rw [List.getElem?_eq_getElem (by omega)] at h3
        exact ih _ _ _ hDp h3
      rw [List.drop_zero] at h2
      exact ⟨ps, .struct hti hd h1, h2⟩
    · cases hok

theorem okWide_shape {W : World} {base t : Nat} {v : Value} {i : TI} (hT : TabOK P tab) (hi : tab t = some i) {D : Nat → Bool} (hok : okD tab D i = true) (h : Value.okWide P W .any base t v) :
    (i.desc.agg = true ∧ ∃ cs, v = .agg cs) ∨ (i.desc.agg = false ∧ v.cells.toList = [v]) := by
  obtain ⟨u, hu, hk⟩ := (hT t i hi).und
  unfold okD at hok
  split at hok
  · rename_i k hd
    rw [hd] at hk; cases u <;> simp [TDOk] at hk
    obtain ⟨n, rfl⟩ := okWide_int hu h
    exact .inr ⟨by rw [hd]; rfl, rfl⟩
  · rename_i hd
    rw [hd] at hk; cases u <;> simp [TDOk] at hk
    obtain ⟨n, rfl⟩ := okWide_bool hu h
    exact .inr ⟨by rw [hd]; rfl, rfl⟩
  · rename_i hd
    rw [hd] at hk; cases u <;> simp [TDOk] at hk
    obtain ⟨n, rfl⟩ := okWide_string hu h
    exact .inr ⟨by rw [hd]; rfl, rfl⟩
  · rename_i e hd
    rw [hd] at hk; cases u <;> simp [TDOk] at hk
    obtain ⟨_, _, _, rfl⟩ := okWide_slice hu h
    exact .inr ⟨by rw [hd]; rfl, rfl⟩
  · rename_i n e hd
    rw [hd] at hk; cases u <;> simp [TDOk] at hk
    simp only [Value.okWide, hu] at h
    obtain ⟨cs, rfl, _⟩ := h
    exact .inl ⟨by rw [hd]; rfl, _, rfl⟩
  · rename_i fs hd
    rw [hd] at hk; cases u <;> simp [TDOk] at hk
    simp only [Value.okWide, hu] at h
    obtain ⟨cs, rfl, _⟩ := h
    exact .inl ⟨by rw [hd]; rfl, _, rfl⟩
  · cases hok

/-- One argument. -/
theorem arg_val {H : Type} {enc : TypeId × Value → H} {W : World} {base b0 t : Nat} {spare : Nat → Bool} {held : Bool} {v : Value} {d : DataW H} {ps : List MemPlace} (hT : TabOK P tab) {D : Nat → Bool} (hD : SetOK tab D) (Im : Nat → Prop) (hIm : ∀ b, b < W.heap.size → Im b)
    (ht : D t = true) (hok : Value.okWide P W .any base t v) (h : DataW.Trod enc P W b0 spare held t v d ps) : ∃ y, TyV tab t y ∧ RR P Im W y v := by
  obtain ⟨fuel, hf⟩ := h
  obtain ⟨i, hi, ho⟩ := hD t ht
  obtain ⟨qs, h1, h2⟩ := trod_ty hT hD Im hIm fuel t _ _ ht hf
  rcases okWide_shape hT hi ho hok with ⟨hag, cs, rfl⟩ | ⟨hag, hv⟩
  · refine ⟨.agg qs, ⟨h1, i, hi, by rw [hag]; rfl⟩, .agg qs cs ?_ (fun j y hy => ?_) fun j y c hy hc => ?_⟩
    · have := h2.1; simpa [Value.cells] using this
    · have hl : j < cs.toList.length := by have := (List.getElem?_eq_some_iff.1 hy).1; rw [h2.1] at this; exact this
      exact (h2.2 j y _ hy (List.getElem?_eq_getElem hl)).1
    · exact (h2.2 j y c hy (by rw [← hc]; exact Array.getElem?_toList)).2
  · rw [hv] at h2
    obtain ⟨hl, hr⟩ := h2
    match qs, hl with
    | [y], _ =>
      obtain ⟨hc, hR⟩ := hr 0 y v rfl rfl
      have hcy : y.cells = [y] := by cases y <;> first | rfl | (simp [PV.isCell] at hc)
      exact ⟨y, ⟨by rw [hcy]; exact h1, i, hi, by rw [hag, hc]; rfl⟩, hR⟩

/-- All arguments. -/
theorem args_val {H : Type} {enc : TypeId × Value → H} {W : World} {base b0 : Nat} {spare : Nat → Bool} {held : Bool} (hT : TabOK P tab) {D : Nat → Bool} (hD : SetOK tab D) (Im : Nat → Prop) (hIm : ∀ b, b < W.heap.size → Im b) :
    ∀ (ts : List TypeId) (vs : List Value) (ds : List (DataW H)) (ps : List MemPlace), ts.all D = true → (∀ (j : Nat) (t : TypeId) (v : Value), ts[j]? = some t → vs[j]? = some v → Value.okWide P W .any base t v) →
      DataW.TrodAll enc P W b0 spare held ts vs ds ps → ∃ ys, TyAll tab ts ys ∧ ys.length = vs.length ∧ ∀ (j : Nat) (y : PV) (v : Value), ys[j]? = some y → vs[j]? = some v → RR P Im W y v
  | [], vs, ds, ps, _, _, h => by
    cases vs <;> cases ds <;> simp [DataW.TrodAll] at h
    exact ⟨[], trivial, rfl, fun j y v h => by simp at h⟩
  | t :: ts, vs, ds, ps, hd, hok, h => by
    obtain ⟨v, vs', d, ds', p, q, rfl, rfl, rfl, h1, h2⟩ := trodAll_cons h
    simp only [List.all_cons, Bool.and_eq_true] at hd
    obtain ⟨y, hy1, hy2⟩ := arg_val hT hD Im hIm hd.1 (hok 0 t v rfl rfl) h1
    obtain ⟨ys, hys, hl, hr⟩ := args_val hT hD Im hIm ts vs' ds' q hd.2 (fun j t v h1 h2 => hok (j + 1) t v h1 h2) h2
    refine ⟨y :: ys, ⟨hy1, hys⟩, by simp [hl], fun j y' v' h1 h2 => ?_⟩
    cases j with
    | zero => simp at h1 h2; subst h1; subst h2; exact hy2
    | succ j => exact hr j y' v' (by simpa using h1) (by simpa using h2)

/-- The arguments read behind the call as before. -/
theorem args_stay {H : Type} {enc : TypeId × Value → H} {W W' : World} (hlaid : laidOutB P = true) (hb : Below W.heap.size W W') :
    ∀ (ts : List TypeId) (vs : List Value) (ds : List (DataW H)) (ps : List MemPlace), (ts.all fun t => P.readableRec t && decide (t < P.types.size)) = true → DataW.TrodAll enc P W 0 (fun _ => true) true ts vs ds ps →
      DataW.TrodAll enc P W' 0 (fun b => decide (b < W.heap.size)) true ts vs ds ps
  | [], vs, ds, ps, _, h => by
    cases vs <;> cases ds <;> simp [DataW.TrodAll] at h
    exact h
  | t :: ts, vs, ds, ps, hd, h => by
    obtain ⟨v, vs', d, ds', p, q, rfl, rfl, rfl, h1, h2⟩ := trodAll_cons h
    simp only [List.all_cons, Bool.and_eq_true, decide_eq_true_eq] at hd
    refine trodAll_cons_mk (Below.trod hlaid hd.1.1 hd.1.2 h1 hb fun x hx => ?_) (args_stay hlaid hb ts vs' ds' q hd.2 h2)
    obtain ⟨m, hm⟩ := h1
    exact DataW.trod_lt m _ _ _ hm x hx

/-- A CALL THAT RETURNS true. -/
theorem can_true {f : Nat} {W : World} {ys : List PV} {vs : List Value} (hC : Ab.Can P f ys H0 (.bool true) H0) (hl : ys.length = vs.length) (hr : ∀ (j : Nat) (y : PV) (v : Value), ys[j]? = some y → vs[j]? = some v → RR P (fun b => b < W.heap.size) W y v) :
    Calls P f vs.toArray W fun e W' => e = .returned (.bool true) ∧ Below W.heap.size W W' := by
  have hW : WRel P ⟨fun b => b < W.heap.size, fun b => W.heap.size ≤ b, fun _ => none, W, 0⟩ (fun _ => none) W H0 :=
    ⟨nofun, nofun, nofun, nofun, fun _ => rfl, fun b hb => Nat.not_le.2 hb, fun b hb => hb, fun _ _ _ => rfl, ⟨rfl, rfl, rfl⟩⟩
  refine (hC.2 _ _ W vs rfl rfl hW (fun i b h => by cases h) hl fun j y v h1 h2 => .pure _ _ (RR.mono P (fun b hb => ⟨⟨.inl hb, fun _ h => by cases h⟩, rfl⟩) (hr j y v h1 h2))).mono ?_
  rintro e W' ⟨v, om', rfl, hW', hv⟩
  rw [hv.bool_inv]
  exact ⟨rfl, ⟨hW'.outer.os, hW'.outer.tape, hW'.outer.output, hW'.base_le _ (Nat.le_refl _), fun k hk => hW'.frame k (Nat.not_le.2 hk) fun _ h => by cases h⟩⟩

/-- FROM A CONTRACT TO A LAW. -/
theorem law_lifted {C : Checked} {os : Os} {f : FuncId} {fn : Func} {s : ChangeSpec} {H : Type} {enc : TypeId × Value → H} {D : Nat → Bool} {rt : TypeId}
    (own : ownKnob C.prog.godebug = none) (started : os.Started) (noInit : C.prog.inits.idxOf? f = none) (hfn : C.prog.funcs[f]? = some fn)
    (witness : ∃ (w : World) (tape : Tape) (i : Input), w.os = os ∧ (w.forCall tape i).Shaped C.prog ∧ i.vars = [] ∧ Input.okWide C.prog (w.forCall tape i) .any w.heap.size f i ∧
      s.pre6 enc C.prog fn [] false (w.forCall tape i).memory i.args ∧ Assume.holds {} C.prog (lone (Frame.enter C.prog f i.args .normal) [] (w.forCall tape i)))
    (hT : TabOK C.prog tab) (hD : SetOK tab D) (hlaid : laidOutB C.prog = true) (hts : (fn.params.toList.all fun t => C.prog.readableRec t && decide (t < C.prog.types.size)) = true) (htd : fn.params.toList.all D = true)
    (hrt : fn.resultTypes.toList = [rt]) (hrn : fn.resultTypes.size = 1) (hrb : C.prog.underlying rt = some .bool) (hvars : s.vars = [])
    (hspec : ∀ ds : List (DataW H), ds.length = fn.params.size → s.fn H ds = { results := [.lit (.bool true)], args := ds, vars := [] })
    (hcan : ∀ ys, TyAll tab fn.params.toList ys → Ab.Can C.prog f ys H0 (.bool true) H0) :
    ReturnsInHanded {} C os f .any (s.pre6 enc C.prog fn [] false) (s.post enc C.prog fn false true false false) := by
  refine returnsInHanded_of_change_sized own started noInit hfn witness ?_
  intro W base args ds gs before hval hW _ _ _
  have hW' := hW
  obtain ⟨p, q, hA, hV, rfl, hfz, hnd⟩ := hW
  rw [hvars] at hV
  obtain ⟨rfl, rfl⟩ := trodVars_none hV
  obtain ⟨ys, hys, hyl, hyr⟩ := args_val hT hD (fun b => b < W.heap.size) (fun b hb => hb) fn.params.toList args.toList ds p htd (fun j t v h1 h2 => hval j t v (by rw [← h1]; exact Array.getElem?_toList.symm) (by rw [← h2]; exact Array.getElem?_toList.symm)) hA
  have hdl : ds.length = fn.params.size := by
    have : ∀ (ts : List TypeId) (vs : List Value) (ds : List (DataW H)) (p : List MemPlace), DataW.TrodAll enc C.prog W 0 (fun _ => true) true ts vs ds p → ds.length = ts.length := by
      intro ts
      induction ts with
      | nil => intro vs ds p h; cases vs <;> cases ds <;> simp [DataW.TrodAll] at h; rfl
      | cons t ts ih =>
        intro vs ds p h
        obtain ⟨v, vs', d, ds', p, q, rfl, rfl, rfl, h1, h2⟩ := trodAll_cons h
        simp [ih _ _ _ h2]
    rw [this _ _ _ _ hA, Array.length_toList]
  have hrun := can_true (hcan ys hys) hyl hyr
  rw [show args.toList.toArray = args from Array.toArray_toList] at hrun
  refine hrun.mono ?_
  rintro e W' ⟨rfl, bel⟩
  refine ⟨_, rfl, ds, [], _, [], p, [], hW', ?_, ?_, ?_, bel.frame _, fun h => by cases h⟩
  · rw [List.append_nil, hspec ds hdl, hrt, hrn]
    exact trodAll_mk1 (shut_bool hrb _)
  · rw [List.append_nil, hspec ds hdl]
    exact args_stay hlaid bel _ _ _ _ hts hA
  · rw [List.append_nil, hspec ds hdl, hvars]
    rfl

end
end Go.Proofs.Ytcahjpkmldmjdaa.Ab
