/- What a reading of an argument says: the argument is a piece of data. -/
import Derived.Test.YtggeifnbllfmbaaDoorVmX
import Derived.ProofKit
import Derived.OpenShut
set_option linter.unusedSimpArgs false
namespace Go.Vm
variable {P : Program} {base : Nat} {F : Frz} {w : World} {tab : Tab} {sz : TypeId → Nat} {H : Type} {enc : TypeId × Value → H} {spare : Nat → Bool} {held : Bool}

/-- The kinds of types whose values are plain data here: bools, ints, strings, slices, structs and arrays of such. -/
def contig (tab : Tab) : Nat → List (Nat × TypeId) → Option Nat
  | at_, [] => some at_
  | at_, (o, t) :: r => match tab.get t with
    | some ti => if o = at_ then contig tab (at_ + ti.size) r else none
    | none => none

def okT (tab : Tab) : Nat → TypeId → Bool
  | 0, _ => false
  | n + 1, t => match tab.get t with
    | some ti => match ti.k with
      | .int _ => true
      | .bool => true
      | .str => true
      | .sl e => okT tab n e && (tab.get e).any (fun te => 0 < te.size)
      | .struct _ fs => contig tab 0 fs == some ti.size && fs.all fun f => okT tab n f.2
      | .arr _ m e => (tab.get e).any (fun te => ti.size == m * te.size) && okT tab n e
      | _ => false
    | none => false

/-- An element out of its cells. -/
def packD (agg : Bool) (ds : List D) : D := if agg then .agg ds else ds.headD .nilptr

/-- A measure of readings. -/
structure Bulk {H : Type} (bk : DataW H → Nat) : Prop where
  str : ∀ s, s.length ≤ bk (.lit (.string s))
  len : ∀ es sp, es.length ≤ bk (.slice es sp)
  elem : ∀ es sp, ∀ e ∈ es, bk e ≤ bk (.slice es sp)
  part : ∀ ps, ∀ p ∈ ps, bk p ≤ bk (.agg ps)

/-- What the cells of a value of a type are; no text and no slice is longer than B. -/
def ShpC (tab : Tab) (B : Nat) : Nat → TypeId → List D → Prop
  | 0, _, _ => False
  | n + 1, t, ds => match tab.get t with
    | some ti => match ti.k with
      | .int k => ∃ i, ds = [.int k i] ∧ (Lit.int k i).wf = true
      | .bool => ∃ b, ds = [.bool b]
      | .str => ∃ s, ds = [.str s] ∧ s.length ≤ B
      | .sl e => ∃ (te : TI) (xs : List (List D)), tab.get e = some te ∧ ds = [.sl e (xs.map (packD te.agg))] ∧ xs.length ≤ B ∧ ∀ x ∈ xs, ShpC tab B n e x
      | .struct _ fs => ∃ parts : List (List D), ds = parts.flatten ∧ parts.length = fs.length ∧ ∀ (j : Nat) (o : Nat) (ft : TypeId), fs[j]? = some (o, ft) → ∃ p, parts[j]? = some p ∧ ShpC tab B n ft p
      | .arr _ m e => ∃ parts : List (List D), ds = parts.flatten ∧ parts.length = m ∧ ∀ p ∈ parts, ShpC tab B n e p
      | _ => False
    | none => False

theorem shp_int {B n : Nat} {t : TypeId} {k : IntKind} {s b : Nat} {z ds : List D} (ht : tab.get t = some ⟨.int k, s, b, z⟩) (h : ShpC tab B (n + 1) t ds) : ∃ i, ds = [.int k i] ∧ (Lit.int k i).wf = true := by
  unfold ShpC at h; rw [ht] at h; exact h
theorem shp_bool {B n : Nat} {t : TypeId} {s b : Nat} {z ds : List D} (ht : tab.get t = some ⟨.bool, s, b, z⟩) (h : ShpC tab B (n + 1) t ds) : ∃ i, ds = [.bool i] := by
  unfold ShpC at h; rw [ht] at h; exact h
theorem shp_str {B n : Nat} {t : TypeId} {s b : Nat} {z ds : List D} (ht : tab.get t = some ⟨.str, s, b, z⟩) (h : ShpC tab B (n + 1) t ds) : ∃ s, ds = [.str s] ∧ s.length ≤ B := by
  unfold ShpC at h; rw [ht] at h; exact h
theorem shp_sl {B n : Nat} {t e : TypeId} {s b : Nat} {z ds : List D} {te : TI} (ht : tab.get t = some ⟨.sl e, s, b, z⟩) (he : tab.get e = some te) (h : ShpC tab B (n + 1) t ds) :
    ∃ xs : List (List D), ds = [.sl e (xs.map (packD te.agg))] ∧ xs.length ≤ B ∧ ∀ x ∈ xs, ShpC tab B n e x := by
  unfold ShpC at h; rw [ht] at h
  obtain ⟨te', xs, h1, h2, h3, h4⟩ := h
  rw [he] at h1
  cases h1
  exact ⟨xs, h2, h3, h4⟩
theorem shp_struct {B n : Nat} {t : TypeId} {fl : Bool} {fs : List (Nat × TypeId)} {s b : Nat} {z ds : List D} (ht : tab.get t = some ⟨.struct fl fs, s, b, z⟩) (h : ShpC tab B (n + 1) t ds) :
    ∃ parts : List (List D), ds = parts.flatten ∧ parts.length = fs.length ∧ ∀ (j : Nat) (o : Nat) (ft : TypeId), fs[j]? = some (o, ft) → ∃ p, parts[j]? = some p ∧ ShpC tab B n ft p := by
  unfold ShpC at h; rw [ht] at h; exact h
theorem shp_arr {B n m : Nat} {t e : TypeId} {fl : Bool} {s b : Nat} {z ds : List D} (ht : tab.get t = some ⟨.arr fl m e, s, b, z⟩) (h : ShpC tab B (n + 1) t ds) :
    ∃ parts : List (List D), ds = parts.flatten ∧ parts.length = m ∧ ∀ p ∈ parts, ShpC tab B n e p := by
  unfold ShpC at h; rw [ht] at h; exact h

/-- Slices whose elements are typed. -/
theorem shp_list {α : Type} {B n : Nat} {e : TypeId} {agg : Bool} {enc : α → D} {ok : α → Prop} (hel : ∀ x, ShpC tab B n e x → ∃ a, packD agg x = enc a ∧ ok a) : ∀ {xs : List (List D)}, (∀ x ∈ xs, ShpC tab B n e x) →
    ∃ l : List α, xs.map (packD agg) = l.map enc ∧ l.length = xs.length ∧ ∀ a ∈ l, ok a
  | [], _ => ⟨[], rfl, rfl, by simp⟩
  | x :: xs, hx => by
    obtain ⟨l, h1, h2, h3⟩ := shp_list hel (fun y hy => hx y (List.mem_cons_of_mem _ hy))
    obtain ⟨a, h4, h5⟩ := hel x (hx x (List.mem_cons_self ..))
    refine ⟨a :: l, by simp [h1, h4], by simp [h2], fun b hb => ?_⟩
    rcases List.mem_cons.mp hb with rfl | hb
    · exact h5
    · exact h3 b hb

theorem cellsOf_eq (hT : tab.checks P = true) {t : TypeId} {ti : TI} (h : tab.get t = some ti) : P.cellsOf t = ti.size := by
  have := good_size hT h
  exact this

theorem add_spot0 {a : Addr} {i : Nat} {v : Value} (h : w.cell? (a.add i) = some v) : w.cell? ⟨a.block, a.off + i, none⟩ = some v ∧ (a.add i).spot = none := by
  have hs : (a.add i).spot = none := by
    unfold World.cell? at h
    split at h
    · split at h
      · cases h
      · rename_i hn; simpa using hn
    · cases h
  refine ⟨?_, hs⟩
  have : a.add i = ⟨a.block, a.off + i, none⟩ := by
    unfold Addr.add at hs ⊢
    split
    · rename_i h0
      subst h0
      rw [if_pos rfl] at hs
      cases a
      simp at hs
      simp [hs]
    · rfl
  rw [← this]; exact h

theorem row_of_nil : RowRep sz F [] [] := ⟨rfl, fun j c h => by simp at h⟩

theorem row_single {x : D} {v : Value} (h : FRep sz F x v) (ho : v.oneCell' = true) : RowRep sz F [x] [v] := by
  refine ⟨rfl, fun j c hj => ?_⟩
  cases j with
  | zero => simp at hj; subst hj; exact ⟨v, rfl, h, ho⟩
  | succ j => simp at hj

theorem mapM_get {α β : Type} {f : α → Option β} : ∀ {l : List α} {r : List β}, l.mapM f = some r → r.length = l.length ∧ ∀ (i : Nat) (x : α), l[i]? = some x → f x = r[i]?
  | [], r, h => by simp at h; subst h; exact ⟨rfl, by simp⟩
  | a :: l, r, h => by
    simp only [List.mapM_cons, Option.pure_def, Option.bind_eq_bind, Option.bind_eq_some_iff, Option.some.injEq] at h
    obtain ⟨b, hb, bs, hbs, rfl⟩ := h
    obtain ⟨h1, h2⟩ := mapM_get hbs
    refine ⟨by simp [h1], fun i x hi => ?_⟩
    cases i with
    | zero => simp at hi; subst hi; simpa using hb
    | succ i => simpa using h2 i x (by simpa using hi)

/-- Parts that lie one behind the other. -/
theorem parts_row {α : Type} {F : Frz} {cs : List Value} (q : α → List D → Prop) (off size : α → Nat) : ∀ (l : List α) (at_ : Nat),
    (∀ x ∈ l, ∃ ds, RowRep sz F ds ((cs.drop (off x)).take (size x)) ∧ ds.length = size x ∧ q x ds) → (∀ (j : Nat) (x : α), l[j]? = some x → off x = at_ + ((l.take j).map size).sum) → at_ + (l.map size).sum = cs.length →
    ∃ parts : List (List D), parts.length = l.length ∧ RowRep sz F parts.flatten (cs.drop at_) ∧ ∀ (j : Nat) (x : α), l[j]? = some x → ∃ p, parts[j]? = some p ∧ q x p
  | [], at_, _, _, hs => by
    refine ⟨[], rfl, ?_, by simp⟩
    rw [List.drop_eq_nil_of_le (by simp at hs; omega)]
    exact row_of_nil
  | x :: l, at_, hl, ho, hs => by
    obtain ⟨ds, h1, h2, h3⟩ := hl x (by simp)
    have h0 : off x = at_ := by simpa using ho 0 x rfl
    obtain ⟨parts, h4, h5, h6⟩ := parts_row q off size l (at_ + size x) (fun y hy => hl y (by simp [hy])) (fun j y hj => by
      have := ho (j + 1) y (by simpa using hj)
      simp only [List.take_succ_cons, List.map_cons, List.sum_cons] at this
      omega) (by simp only [List.map_cons, List.sum_cons] at hs; omega)
    refine ⟨ds :: parts, by simp [h4], ?_, fun j y hj => ?_⟩
    · have hsplit : cs.drop at_ = (cs.drop at_).take (size x) ++ cs.drop (at_ + size x) := by
        rw [← List.drop_drop, List.take_append_drop]
      rw [hsplit, List.flatten_cons]
      rw [h0] at h1
      exact h1.append h5
    · cases j with
      | zero => simp at hj; subst hj; exact ⟨ds, rfl, h3⟩
      | succ j => simpa using h6 j y (by simpa using hj)

theorem contig_sound : ∀ {fs : List (Nat × TypeId)} {at_ e : Nat}, contig tab at_ fs = some e →
    (∀ f ∈ fs, ∃ ti, tab.get f.2 = some ti) ∧ (∀ (j : Nat) (f : Nat × TypeId), fs[j]? = some f → f.1 = at_ + ((fs.take j).map fun f => ((tab.get f.2).map TI.size).getD 0).sum) ∧ at_ + (fs.map fun f => ((tab.get f.2).map TI.size).getD 0).sum = e
  | [], at_, e, h => by simp [contig] at h; subst h; simp
  | (o, t) :: r, at_, e, h => by
    simp only [contig] at h
    split at h
    · rename_i ti hti
      split at h
      · rename_i ho
        obtain ⟨h1, h2, h3⟩ := contig_sound h
        refine ⟨fun f hf => ?_, fun j f hj => ?_, ?_⟩
        · rcases List.mem_cons.mp hf with rfl | hf
          · exact ⟨ti, hti⟩
          · exact h1 f hf
        · cases j with
          | zero => simp at hj; subst hj; simpa using ho
          | succ j =>
            have := h2 j f (by simpa using hj)
            simp only [List.take_succ_cons, List.map_cons, List.sum_cons, hti, Option.map_some, Option.getD_some]
            omega
        · simp only [List.map_cons, List.sum_cons, hti, Option.map_some, Option.getD_some]
          omega
      · cases h
    · cases h

theorem packD_cells {te : TI} {ds : List D} (hlen : ds.length = te.size) (hone : te.agg = false → te.size = 1) (hlf : ∀ d ∈ ds, ∀ cs, d ≠ .agg cs) : (packD te.agg ds).cells = ds := by
  unfold packD
  cases hagg : te.agg with
  | true => rfl
  | false =>
    have h1 := hone hagg
    match ds, hlen with
    | [d], _ =>
      have := hlf d (by simp)
      simp only [Bool.false_eq_true, if_false, List.headD_cons]
      cases d <;> first | rfl | exact absurd rfl (this _)
    | [], h => simp at h; omega
    | _ :: _ :: _, h => simp at h; omega

theorem row_leaf {ds : List D} {vs : List Value} (h : RowRep sz F ds vs) : ∀ d ∈ ds, ∀ cs, d ≠ .agg cs := by
  intro d hd cs e
  subst e
  obtain ⟨j, hj⟩ := List.getElem?_of_mem hd
  obtain ⟨v, _, h2, h3⟩ := h.2 j _ hj
  cases h2
  simp [Value.oneCell'] at h3

theorem trod_rep (hT : tab.checks P = true) {bk : DataW H → Nat} (hbk : Bulk bk) {B : Nat} : ∀ (n fuel : Nat) (t : TypeId) (cs : List Value) (x : DataW H × List MemPlace), okT tab n t = true → DataW.trod enc P w base spare held fuel t cs = some x → bk x.1 ≤ B →
    ∃ ds, RowRep (psz P) w.cell? ds cs ∧ (∀ ti, tab.get t = some ti → ds.length = ti.size) ∧ ShpC tab B n t ds
  | 0, _, _, _, _, h, _, _ => by simp [okT] at h
  | n + 1, 0, t, cs, x, _, h, _ => by simp [DataW.trod] at h
  | n + 1, fuel + 1, t, cs, x, hok, h, hB => by
    unfold okT at hok
    split at hok
    · rename_i ti hti
      have hg := Tab.good hT hti
      obtain ⟨d, hu, hf⟩ := hg.desc
      have hsz : ∀ {ds : List D}, ds.length = ti.size → ∀ ti', some ti = some ti' → ds.length = ti'.size := fun h1 ti' h2 => by cases h2; exact h1
      have hone : ti.k.eqFlag = false → (∀ b fs, ti.k ≠ .struct b fs) → (∀ b m e, ti.k ≠ .arr b m e) → ti.size = 1 := fun _ h1 h2 => hg.one (by
        unfold TI.agg
        cases hk : ti.k <;> first | rfl | exact absurd hk (h1 _ _) | exact absurd hk (h2 _ _ _))
      unfold ShpC
      simp only [hti]
      split at hok
      · rename_i k hk
        rw [hk] at hf
        have := tk_int hf
        subst this
        have hs1 : ti.size = 1 := hone (by rw [hk]; rfl) (by simp [hk]) (by simp [hk])
        obtain ⟨i, rfl, _, hw⟩ := DataW.trod_int hu h
        exact ⟨[.int k i], row_single (.int k i) rfl, hsz (by simp [hs1]), i, rfl, hw⟩
      · rename_i hk
        rw [hk] at hf
        have hd : d = .bool := by cases d <;> simp only [TK.fits, Bool.false_eq_true] at hf; rfl
        subst hd
        have hs1 : ti.size = 1 := hone (by rw [hk]; rfl) (by simp [hk]) (by simp [hk])
        obtain ⟨b, rfl, _⟩ := DataW.trod_bool hu h
        exact ⟨[.bool b], row_single (.bool b) rfl, hsz (by simp [hs1]), b, rfl⟩
      · rename_i hk
        rw [hk] at hf
        have := tk_str hf
        subst this
        have hs1 : ti.size = 1 := hone (by rw [hk]; rfl) (by simp [hk]) (by simp [hk])
        obtain ⟨s, rfl, rfl, hlen⟩ := DataW.trod_string hu h
        exact ⟨[.str s.data.toList], row_single (.str s.data.toList) rfl, hsz (by simp [hs1]), s.data.toList, rfl, Nat.le_trans (hbk.str _) hB⟩
      · rename_i e hk
        rw [hk] at hf
        have hs1 : ti.size = 1 := hone (by rw [hk]; rfl) (by simp [hk]) (by simp [hk])
        cases d <;> simp only [TK.fits, Bool.false_eq_true, beq_iff_eq] at hf
        have hf' := hf.symm
        clear hf
        subst hf'
        simp only [Bool.and_eq_true, Option.any_eq_true, decide_eq_true_eq] at hok
        obtain ⟨hoke, te, hte, hpos⟩ := hok
        have hce := cellsOf_eq hT hte
        have hge := Tab.good hT hte
        rcases DataW.trod_slice hu h with ⟨rfl, _⟩ | ⟨a, len, cap, elems, rest, m, hm, rfl, rfl, _, hlc, hcap, hlen, hel, _⟩
        · exact ⟨[.sl _ []], row_single (sl_empty' _ none 0) rfl, hsz (by simp [hs1]), te, [], hte, rfl, by simp, by simp⟩
        · have key : ∀ i, i < len → ∃ ds, (∀ k c, ds[k]? = some c → ∃ v, w.cell? ⟨a.block, a.off + (i * te.size + k), none⟩ = some v ∧ FRep (psz P) w.cell? c v ∧ v.oneCell' = true) ∧ (a.add (i * te.size)).spot = none ∧ ds.length = te.size ∧ (∀ d ∈ ds, ∀ cs, d ≠ .agg cs) ∧ ShpC tab B n e ds := by
            intro i hi
            have h1 := hel i hi
            have hel1 : elems[i]? = some (elems[i]'(by omega)) := List.getElem?_eq_getElem (by omega)
            rw [hel1] at h1
            simp only [Option.bind_eq_some_iff] at h1
            obtain ⟨cs', h2, h3⟩ := h1
            obtain ⟨_, h4, h5⟩ := World.cells?_some h2
            obtain ⟨ds, h6, h7, h8⟩ := trod_rep hT hbk n m _ cs' _ hoke h3 (Nat.le_trans (hbk.elem _ _ _ (by simp only [List.mem_map]; exact ⟨_, List.getElem_mem _, rfl⟩)) hB)
            rw [hce] at h4 h5
            have hdl := h7 te hte
            have hsp : ∀ k, k < te.size → w.cell? ⟨a.block, a.off + (i * te.size + k), none⟩ = cs'[k]? ∧ (a.add (i * te.size)).spot = none := by
              intro k hk
              have h9 := h5 k hk
              have hks : cs'[k]? = some (cs'[k]'(by omega)) := List.getElem?_eq_getElem (by omega)
              rw [hks] at h9
              obtain ⟨h10, h11⟩ := add_spot0 h9
              have hb : (a.add (i * te.size)).block = a.block := by unfold Addr.add; split <;> rfl
              have ho : (a.add (i * te.size)).off = a.off + i * te.size := by
                unfold Addr.add
                split
                · rename_i h0; rw [h0]; rfl
                · rfl
              rw [hb, ho] at h10
              refine ⟨by rw [hks, ← h10]; congr 2; omega, ?_⟩
              unfold World.cell? at h9
              unfold Addr.add at h9 h11 ⊢
              by_cases e0 : i * te.size = 0
              · rw [if_pos e0] at h11 ⊢
                by_cases ek : k = 0
                · rw [if_pos ek] at h11; exact h11
                · have h12 := h5 0 hpos
                  have hks0 : cs'[0]? = some (cs'[0]'(by omega)) := List.getElem?_eq_getElem (by omega)
                  rw [hks0] at h12
                  have := (add_spot0 h12).2
                  unfold Addr.add at this
                  rw [if_pos rfl, if_pos e0] at this
                  exact this
              · rw [if_neg e0]
            refine ⟨ds, fun k c hk => ?_, (hsp 0 hpos).2, hdl, row_leaf h6, h8⟩
            obtain ⟨v, h9, h10, h11⟩ := h6.2 k c hk
            have hkl : k < te.size := by rw [← hdl]; exact (List.getElem?_eq_some_iff.mp hk).1
            exact ⟨v, by rw [(hsp k hkl).1]; exact h9, h10, h11⟩
          let g : Nat → List D := fun i => if hi : i < len then Classical.choose (key i hi) else []
          have hg' : ∀ i, (hi : i < len) → g i = Classical.choose (key i hi) := fun i hi => dif_pos hi
          have hget : ∀ (i : Nat) (x : D), (((List.range len).map g).map (packD te.agg))[i]? = some x → i < len ∧ x = packD te.agg (g i) := by
            intro i x hx
            simp only [List.getElem?_map, Option.map_eq_some_iff] at hx
            obtain ⟨y, ⟨j, hj, rfl⟩, rfl⟩ := hx
            have hjl := (List.getElem?_eq_some_iff.mp hj)
            obtain ⟨h1, h2⟩ := hjl
            simp only [List.length_range] at h1
            simp only [List.getElem_range] at h2
            subst h2
            exact ⟨h1, rfl⟩
          have hcells : ∀ i, i < len → (packD te.agg (g i)).cells = g i := by
            intro i hi
            rw [hg' i hi]
            have := Classical.choose_spec (key i hi)
            exact packD_cells this.2.2.1 hge.one this.2.2.2.1
          refine ⟨[.sl _ (((List.range len).map g).map (packD te.agg))], row_single ?_ rfl, hsz (by simp [hs1]), te, (List.range len).map g, hte, rfl, by have := Nat.le_trans (hbk.len _ _) hB; simp at this; simp; omega, fun y hy => ?_⟩
          · have hll : (((List.range len).map g).map (packD te.agg)).length = len := by simp
            conv => arg 4; rw [← hll]
            refine .sl _ _ (some a) a cap (fun i k => (w.cell? ⟨a.block, a.off + (i * psz P e + k), none⟩).getD .nilIface) (fun hne => ⟨rfl, ?_⟩) (by rw [hll]; exact hlc) (fun i x hi => ?_) (fun i x k c hi hk => ?_) (fun i x k c hi hk => ?_) (fun i x k c hi hk => ?_)
            · have h0 : 0 < len := by
                rcases Nat.eq_zero_or_pos len with h0 | h0
                · subst h0; simp at hne
                · exact h0
              have := (Classical.choose_spec (key 0 h0)).2.1
              unfold Addr.add at this
              rw [if_pos (by omega)] at this
              exact this
            · obtain ⟨h1, rfl⟩ := hget i x hi
              rw [hcells i h1, hg' i h1, hge.psz]
              exact (Classical.choose_spec (key i h1)).2.2.1
            all_goals
              obtain ⟨h1, rfl⟩ := hget i x hi
              rw [hcells i h1, hg' i h1] at hk
              obtain ⟨v, h2, h3, h4⟩ := (Classical.choose_spec (key i h1)).1 k c hk
              rw [hge.psz, h2]
            · rfl
            · exact h3
            · exact h4
          · simp only [List.mem_map, List.mem_range] at hy
            obtain ⟨i, hi, rfl⟩ := hy
            rw [hg' i hi]
            exact (Classical.choose_spec (key i hi)).2.2.2.2
      · rename_i b fs hk
        rw [hk] at hf
        cases d <;> simp only [TK.fits, Bool.false_eq_true, beq_iff_eq] at hf
        rename_i fds
        subst hf
        simp only [Bool.and_eq_true, beq_iff_eq, List.all_eq_true] at hok
        obtain ⟨hct, hall⟩ := hok
        obtain ⟨hc1, hc2, hc3⟩ := contig_sound hct
        obtain ⟨xs, m, hm, rfl, hlen, hxs, hel⟩ := DataW.trod_struct hu h
        rw [cellsOf_eq hT hti] at hlen
        obtain ⟨parts, h1, h2, h3⟩ := parts_row (sz := psz P) (F := w.cell?) (cs := cs) (fun (f : Nat × TypeId) ds => ShpC tab B n f.2 ds) (fun f => f.1) (fun f => ((tab.get f.2).map TI.size).getD 0) (fds.toList.map fun f => (f.offset, f.type)) 0
          (fun f hf => by
            simp only [List.mem_map] at hf
            obtain ⟨fd, hfd, rfl⟩ := hf
            obtain ⟨j, hj⟩ := List.getElem?_of_mem hfd
            obtain ⟨fti, hfti⟩ := hc1 (fd.offset, fd.type) (by simp only [List.mem_map]; exact ⟨fd, hfd, rfl⟩)
            have h4 := hel j fd (by simpa using hj)
            have hjl : j < xs.length := by rw [hxs]; have := (List.getElem?_eq_some_iff.mp hj).1; simpa using this
            rw [List.getElem?_eq_getElem hjl, cellsOf_eq hT hfti] at h4
            obtain ⟨ds, h5, h6, h7⟩ := trod_rep hT hbk n m fd.type _ _ (hall (fd.offset, fd.type) (by simp only [List.mem_map]; exact ⟨fd, hfd, rfl⟩)) h4 (Nat.le_trans (hbk.part _ _ (by simp only [List.mem_map]; exact ⟨_, List.getElem_mem _, rfl⟩)) hB)
            refine ⟨ds, ?_, ?_, h7⟩
            · simp only [hfti, Option.map_some, Option.getD_some]; exact h5
            · simp only [hfti, Option.map_some, Option.getD_some]; exact h6 fti hfti)
          hc2 (by rw [hc3, hlen])
        rw [List.drop_zero] at h2
        refine ⟨parts.flatten, h2, fun ti' h4 => ?_, parts, rfl, h1, fun j o ft hj => h3 j (o, ft) hj⟩
        cases h4
        rw [← hlen, ← h2.1]
      · rename_i b m e hk
        rw [hk] at hf
        cases d <;> simp only [TK.fits, Bool.false_eq_true, Bool.and_eq_true, beq_iff_eq] at hf
        have hf1 := hf.1.symm
        have hf2 := hf.2.symm
        clear hf
        subst hf1
        subst hf2
        simp only [Bool.and_eq_true, Option.any_eq_true, beq_iff_eq] at hok
        obtain ⟨⟨te, hte, hsize⟩, hoke⟩ := hok
        obtain ⟨xs, m', hm, rfl, hlen, hxs, hel⟩ := DataW.trod_array hu h
        rw [cellsOf_eq hT hti] at hlen
        have hsum : ∀ (l : List Nat), (l.map fun _ => te.size).sum = l.length * te.size := by
          intro l
          induction l with
          | nil => simp
          | cons a l ih => simp only [List.map_cons, List.sum_cons, ih, List.length_cons, Nat.add_mul]; omega
        obtain ⟨parts, h1, h2, h3⟩ := parts_row (sz := psz P) (F := w.cell?) (cs := cs) (fun (_ : Nat) ds => ShpC tab B n e ds) (fun i => i * te.size) (fun _ => te.size) (List.range m) 0
          (fun i hi => by
            have hil := List.mem_range.mp hi
            have h4 := hel i hil
            rw [List.getElem?_eq_getElem (by rw [hxs]; exact hil), cellsOf_eq hT hte] at h4
            obtain ⟨ds, h5, h6, h7⟩ := trod_rep hT hbk n m' _ _ _ hoke h4 (Nat.le_trans (hbk.part _ _ (by simp only [List.mem_map]; exact ⟨_, List.getElem_mem _, rfl⟩)) hB)
            exact ⟨ds, h5, h6 te hte, h7⟩)
          (fun j i hj => by
            rw [hsum]
            obtain ⟨h4, h5⟩ := List.getElem?_eq_some_iff.mp hj
            simp only [List.getElem_range] at h5
            subst h5
            simp only [List.length_range] at h4
            simp only [List.length_take, List.length_range]
            rw [Nat.min_eq_left (by omega)]; omega)
          (by rw [hsum, hlen, hsize]; simp)
        rw [List.drop_zero] at h2
        refine ⟨parts.flatten, h2, hsz (by rw [← hlen, ← h2.1]), parts, rfl, by simpa using h1, fun p hp => ?_⟩
        obtain ⟨j, hj⟩ := List.getElem?_of_mem hp
        have hjl := (List.getElem?_eq_some_iff.mp hj).1
        rw [h1, List.length_range] at hjl
        obtain ⟨p', h4, h5⟩ := h3 j j (by simp [hjl])
        rw [hj] at h4
        cases h4
        exact h5
      · cases hok
    · cases hok

/-- An argument is a piece of data. -/
theorem trod_val (hT : tab.checks P = true) {bk : DataW H → Nat} (hbk : Bulk bk) {B n b0 : Nat} {t : TypeId} {ti : TI} {r : Reach} {v : Value} {d : DataW H} {ps : List MemPlace} (hti : tab.get t = some ti) (hok : okT tab n t = true)
    (hval : Value.okWide P w r b0 t v) (h : DataW.Trod enc P w base spare held t v d ps) (hB : bk d ≤ B) : ∃ ds, FRep (psz P) w.cell? (packD ti.agg ds) v ∧ ShpC tab B n t ds := by
  obtain ⟨fuel, hf⟩ := h
  obtain ⟨ds, h1, h2, h3⟩ := trod_rep hT hbk n fuel t _ _ hok hf hB
  refine ⟨ds, ?_, h3⟩
  have hg := Tab.good hT hti
  obtain ⟨dd, hu, hfit⟩ := hg.desc
  have agg : ∀ cs : Array Value, v = .agg cs → ti.agg = true → FRep (psz P) w.cell? (packD ti.agg ds) v := by
    rintro cs rfl ha
    rw [ha]
    simp only [Value.cells] at h1
    refine .agg ds cs (by rw [← Array.length_toList]; exact h1.1) (fun k => (cs[k]?).getD .nilIface) (fun k c hk => ?_) (fun k c hk => ?_)
    · obtain ⟨u, h4, _⟩ := h1.2 k c hk
      have h5 : cs[k]? = some u := by simpa using h4
      rw [h5]; rfl
    · obtain ⟨u, h4, h5, _⟩ := h1.2 k c hk
      have h6 : cs[k]? = some u := by simpa using h4
      rw [h6]; exact h5
  have one : v.cells = #[v] → ti.agg = false → FRep (psz P) w.cell? (packD ti.agg ds) v := by
    intro hc ha
    rw [ha]
    rw [hc] at h1
    have hl : ds.length = 1 := by have := h1.1; simpa using this.symm
    match ds, hl with
    | [x], _ =>
      obtain ⟨u, h4, h5, _⟩ := h1.2 0 x rfl
      simp at h4
      subst h4
      exact h5
  have hok' := hok
  cases n with
  | zero => simp [okT] at hok'
  | succ n =>
    unfold okT at hok'
    rw [hti] at hok'
    simp only at hok'
    unfold Value.okWide at hval
    rw [hu] at hval
    split at hok'
    · rename_i k hk
      rw [hk] at hfit
      have := tk_int hfit
      subst this
      simp only [Cell.okWide, Cell.ok, hu] at hval
      cases v <;> simp only at hval
      exact one rfl (by unfold TI.agg; rw [hk])
    · rename_i hk
      rw [hk] at hfit
      have hd : dd = .bool := by cases dd <;> simp only [TK.fits, Bool.false_eq_true] at hfit; rfl
      subst hd
      simp only [Cell.okWide, Cell.ok, hu] at hval
      cases v <;> simp only at hval
      exact one rfl (by unfold TI.agg; rw [hk])
    · rename_i hk
      rw [hk] at hfit
      have := tk_str hfit
      subst this
      simp only [Cell.okWide, Cell.ok, hu] at hval
      cases v <;> simp only at hval
      exact one rfl (by unfold TI.agg; rw [hk])
    · rename_i e hk
      rw [hk] at hfit
      cases dd <;> simp only [TK.fits, Bool.false_eq_true, beq_iff_eq] at hfit
      simp only [Cell.okWide, Cell.ok, hu] at hval
      cases v <;> (try simp only at hval) <;> exact one rfl (by unfold TI.agg; rw [hk])
    · rename_i b fs hk
      rw [hk] at hfit
      cases dd <;> simp only [TK.fits, Bool.false_eq_true, beq_iff_eq] at hfit
      obtain ⟨cs, rfl, _⟩ := hval
      exact agg cs rfl (by unfold TI.agg; rw [hk])
    · rename_i b m e hk
      rw [hk] at hfit
      cases dd <;> simp only [TK.fits, Bool.false_eq_true, Bool.and_eq_true, beq_iff_eq] at hfit
      obtain ⟨cs, rfl, _⟩ := hval
      exact agg cs rfl (by unfold TI.agg; rw [hk])
    · cases hok'

theorem trodAll_below (hl : laidOutB P = true) {W W' : World} (hb : RowKit.Below W.heap.size W W') : ∀ {ts : List TypeId} {vs : List Value} {ds : List (DataW H)} {ps : List MemPlace},
    (∀ t ∈ ts, P.readableRec t = true ∧ t < P.types.size) → DataW.TrodAll enc P W 0 (fun _ => true) true ts vs ds ps → (∀ x ∈ ps, x.block < W.heap.size) →
    DataW.TrodAll enc P W' 0 (fun b => decide (b < W.heap.size)) true ts vs ds ps
  | [], vs, ds, ps, _, h, _ => by
    obtain ⟨rfl, rfl, rfl⟩ := ChangeShapes.trodAll_nil h
    exact ChangeShapes.trodAll_mk0
  | t :: ts, vs, ds, ps, hr, h, hlt => by
    obtain ⟨v, vs', d, ds', p, q, rfl, rfl, rfl, h1, h2⟩ := ChangeShapes.trodAll_cons h
    have h3 := RowKit.Below.trod hl (hr t (by simp)).1 (hr t (by simp)).2 h1 hb (fun x hx => hlt x (by simp [hx]))
    have h4 := trodAll_below hl hb (fun t ht => hr t (by simp [ht])) h2 (fun x hx => hlt x (by simp [hx]))
    exact ⟨p, q, h3, h4, rfl⟩

/-- A law's row: the answer is true, and below the call's own blocks nothing has turned. -/
theorem post_of_below (hl : laidOutB P = true) {f : Func} {s : ChangeSpec} {apart fresh handsOn : Bool} {W W' : World} {args : Array Value} {ds gs : List (DataW H)} {before : List MemPlace} {t : TypeId}
    (hW : DataW.Whole enc P f.params.toList s.vars apart W args.toList ds gs before) (hnv : s.vars = []) (hrt : f.resultTypes = #[t]) (hu : P.underlying t = some .bool)
    (hres : (s.fn H (ds ++ gs)).results = [.lit (.bool true)])
    (hargs : (s.fn H (ds ++ gs)).args = ds) (hvars : (s.fn H (ds ++ gs)).vars = []) (hr : ∀ t ∈ f.params.toList, P.readableRec t = true ∧ t < P.types.size) (hb : RowKit.Below W.heap.size W W') :
    s.post enc P f apart fresh handsOn false W args (.bool true) W' := by
  have hlt := hW.lt
  have hW0 := hW
  obtain ⟨p, q, hA, hV, rfl, hz, hn⟩ := hW
  rw [hnv] at hV
  obtain ⟨rfl, rfl⟩ := ChangeShapes.trodVars_none hV
  refine ⟨ds, [], _, [], p, [], hW0, ?_, ?_, ?_, World.keptBut_mono (fun x hx => ⟨hx, Or.inr (by simpa using hx)⟩) (hb.frame _), fun h => by cases h⟩
  · rw [hres, hrt]
    exact ⟨[], [], RowKit.shut_bool hu _, ChangeShapes.trodAll_mk0, rfl⟩
  · rw [hargs]
    exact trodAll_below hl hb hr hA (fun x hx => by have := hlt x (by simpa using hx); simpa using this)
  · rw [hvars, hnv]
    rfl

/-- A law's call: out of its contract. -/
theorem law_calls {f : FuncId} {args : List AV} {vs : Array Value} {b : Bool} (hc : CallP P f args [] (.d (.bool b))) (hgl : GlobOk w.heap.size w) (ha : args.length = vs.size ∧ ∀ (i : Nat) (x : AV), args[i]? = some x → ∃ d v, x = .d d ∧ vs[i]? = some v ∧ FRep (psz P) w.cell? d v) :
    Calls P f vs w fun e w' => e = .returned (.bool b) ∧ RowKit.Below w.heap.size w w' := by
  have hst : St (psz P) w.heap.size w w.cell? (fun _ => .dead) [] w :=
    ⟨fun a v h => h, fun b x h => by simp at h, fun b b' B h => by simp at h, ⟨⟨⟨rfl, rfl, rfl⟩, hgl⟩, fun _ _ => rfl⟩, Nat.le_refl _, fun b B h => by simp at h⟩
  refine (hc.2 w.heap.size w w.cell? (fun _ => .dead) w vs hst ⟨ha.1, fun i x hi => ?_⟩).mono ?_
  · obtain ⟨d, v, rfl, h1, h2⟩ := ha.2 i x hi
    exact ⟨v, h1, .d h2⟩
  · rintro e w' ⟨v, x, h', F', ρ', rfl, hx, hst', hv, hl, rfl, rfl⟩
    have := hv.bool_inv
    subst this
    exact ⟨rfl, hst'.old.1.1.1, hst'.old.1.1.2.1, hst'.old.1.1.2.2, hst'.hb, hst'.old.2⟩

end Go.Vm
