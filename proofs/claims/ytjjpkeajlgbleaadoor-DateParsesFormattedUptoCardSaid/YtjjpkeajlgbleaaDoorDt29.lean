/- date: the text of a moment is read as the moment. -/
import Derived.Test.YtjjpkeajlgbleaaDoorDt27
namespace Go.Vm
open Proofs
set_option maxRecDepth 20000
set_option maxHeartbeats 1000000
set_option linter.unusedSimpArgs false
set_option linter.unusedVariables false

def digs : Nat → Nat → List UInt8
  | 0, _ => []
  | w + 1, n => digs w (n / 10) ++ [UInt8.ofNat (48 + n % 10)]

theorem digs_zero : ∀ w, digs w 0 = Lib.repeatL [48] w
  | 0 => rfl
  | w + 1 => by rw [digs, Nat.zero_div, digs_zero w, Lib.repeatL_add, Lib.repeatL_one]; rfl

theorem digs_dec : ∀ (w n : Nat), n < 10 ^ (w + 1) → Lib.repeatL [48] (w + 1 - (Lib.decDigits n).length) ++ Lib.decDigits n = digs (w + 1) n := by
  intro w
  induction w with
  | zero =>
    intro n h
    have h10 : n < 10 := by simpa using h
    rw [Lib.decDigits_one h10, digs, Nat.div_eq_of_lt h10, digs_zero, Nat.mod_eq_of_lt h10]; simp
  | succ w ih =>
    intro n h
    by_cases h10 : n < 10
    · rw [Lib.decDigits_one h10, digs, Nat.div_eq_of_lt h10, digs_zero, Nat.mod_eq_of_lt h10]; simp
    · have ih := ih (n / 10) (by rw [Nat.pow_succ] at h; omega)
      have e : Lib.decDigits n = Lib.decDigits (n / 10) ++ [UInt8.ofNat (48 + n % 10)] := by
        conv => lhs; rw [Lib.decDigits, dif_neg h10]
      rw [e, digs, ← ih]
      simp only [List.length_append, List.length_cons, List.length_nil, ← List.append_assoc]
      rw [show w + 1 + 1 - ((Lib.decDigits (n / 10)).length + (0 + 1)) = w + 1 - (Lib.decDigits (n / 10)).length from by omega]

theorem numS_digs : ∀ (a b n : Nat) (acc : Int) (rest : List UInt8), n < 10 ^ a → numS (a + b) acc (digs a n ++ rest) = numS b (acc * 10 ^ a + n) rest
  | 0, b, n, acc, rest, h => by
    have : n = 0 := by simpa using h
    subst this
    simp [digs]
  | a + 1, b, n, acc, rest, h => by
    rw [digs, List.append_assoc, show a + 1 + b = a + (b + 1) from by omega, numS_digs a (b + 1) (n / 10) acc _ (by rw [Nat.pow_succ] at h; omega)]
    have hd : (UInt8.ofNat (48 + n % 10)).toNat = 48 + n % 10 := by
      rw [UInt8.toNat_ofNat']; omega
    simp only [List.cons_append, List.nil_append, numS, hd]
    rw [if_pos (by omega)]
    have e1 : acc * 10 ^ (a + 1) = 10 * (acc * 10 ^ a) := by rw [Int.pow_succ, Int.mul_comm 10, Int.mul_assoc]
    rw [e1]
    generalize acc * 10 ^ a = z
    rw [show 10 * (z + ((n / 10 : Nat) : Int)) + (((48 + n % 10 : Nat) : Int) - 48) = 10 * z + (n : Int) from by omega]

theorem padS_digs {w : Nat} {v : Int} (hw : 1 ≤ w) (h0 : 0 ≤ v) (h1 : v.toNat < 10 ^ w) : padS w v = digs w v.toNat := by
  obtain ⟨u, rfl⟩ : ∃ u, w = u + 1 := ⟨w - 1, by omega⟩
  unfold padS Lib.itoa
  rw [if_neg (by omega)]
  exact digs_dec u v.toNat h1
theorem numS_pad {w : Nat} {v : Int} (hw : 1 ≤ w) (h0 : 0 ≤ v) (h1 : v.toNat < 10 ^ w) (rest : List UInt8) : numS w 0 (padS w v ++ rest) = ((v, true), rest) := by
  rw [padS_digs hw h0 h1]
  have := numS_digs w 0 v.toNat 0 rest h1
  rw [Nat.add_zero] at this
  rw [this]
  simp [numS, Int.toNat_of_nonneg h0]

/-- What a letter finds in the text of a moment. -/
def valF (m : Mo) (e : UInt8) : Int := valS m (if e = 98 then 109 else e)

theorem dir_num {m : Mo} {e : UInt8} {w : Nat} {v : Int} (h37 : e ≠ 37) (hns : nsP e = none) (hw : widP e = w) (hw1 : 1 ≤ w) (hf : fmtDir m e = padS w v) (hv : valF m e = v) (h0 : 0 ≤ v) (h1 : v.toNat < 10 ^ w) (rest : List UInt8) (fd : Fd) (cf : Bool) :
    dirS e (widP e) (nsP e) (fmtDir m e ++ rest) fd cf = (true, rest, noteS fd cf e (valF m e)) := by
  rw [hf, hv]
  unfold dirS
  rw [if_neg h37, hns, hw]
  simp only [numS_pad hw1 h0 h1, if_true]

theorem nameS_at (names : List (List UInt8)) (rest : List UInt8) (i : Nat) (hi : i < names.length) (h3 : ∀ x ∈ names, x.length = 3) (hd : names.Nodup) (k : Int) : nameS names k (names.getD i [] ++ rest) = ((k + i + 1, true), rest) := by
  induction names generalizing i k with
  | nil => simp at hi
  | cons s ns ih =>
    have hs : s.length = 3 := h3 s (List.mem_cons_self ..)
    cases i with
    | zero =>
      unfold nameS
      rw [if_pos (by rw [List.isPrefixOf_iff_prefix]; simp)]
      simp
    | succ i =>
      simp only [List.length_cons] at hi
      have hi' : i < ns.length := by omega
      have hx : ns.getD i [] ∈ ns := by
        rw [List.getD_eq_getElem?_getD, List.getElem?_eq_getElem hi']; exact List.getElem_mem hi'
      unfold nameS
      rw [List.getD_cons_succ, if_neg]
      · rw [ih i hi' (fun x hx => h3 x (List.mem_cons_of_mem _ hx)) (List.nodup_cons.mp hd).2 (k + 1)]
        rw [show k + 1 + (i : Int) + 1 = k + ((i + 1 : Nat) : Int) + 1 from by omega]
      · rw [List.isPrefixOf_iff_prefix]
        intro hp
        have hl := h3 _ (List.mem_cons_of_mem _ hx)
        have : s = ns.getD i [] := by
          have e := List.prefix_iff_eq_take.mp hp
          rw [hs, List.take_append_of_le_length (by omega), List.take_of_length_le (by omega)] at e
          exact e
        exact (List.nodup_cons.mp hd).1 (this ▸ hx)

theorem dir_name {m : Mo} {e : UInt8} {names : List (List UInt8)} {i : Nat} (h37 : e ≠ 37) (hns : nsP e = some names) (hi : i < names.length) (h3 : ∀ x ∈ names, x.length = 3) (hd : names.Nodup) (hf : fmtDir m e = names.getD i []) (hv : valF m e = (i : Int) + 1) (rest : List UInt8) (fd : Fd) (cf : Bool) :
    dirS e (widP e) (nsP e) (fmtDir m e ++ rest) fd cf = (true, rest, noteS fd cf e (valF m e)) := by
  rw [hf, hv]
  unfold dirS
  rw [if_neg h37, hns]
  simp only [nameS_at names rest i hi h3 hd 0, if_true, Int.zero_add]

theorem dir_fmt {m : Mo} (hm : m.ok) {e : UInt8} (he : letL.contains e = true) (h37 : e ≠ 37) (rest : List UInt8) (fd : Fd) (cf : Bool) :
    dirS e (widP e) (nsP e) (fmtDir m e ++ rest) fd cf = (true, rest, noteS fd cf e (valF m e)) := by
  have hw := weekS_bnd hm
  have hdo := doy_bnd2 hm
  have hg : (weekS m.y m.day).1 ≤ 9999 := by
    have hr := Mo.day_range hm
    obtain ⟨⟨h1, h2, h3, h4, h5, h6⟩, _⟩ := hm
    unfold weekS
    by_cases a1 : m.day < fm m.y
    · simp only [if_pos a1]; omega
    · simp only [if_neg a1]
      by_cases a2 : fm (m.y + 1) ≤ m.day
      · simp only [if_pos a2]
        by_cases e9 : m.y = 9999
        · rw [e9] at a2
          have : fm (9999 + 1) = 3652062 := by decide
          omega
        · omega
      · simp only [if_neg a2]; omega
  obtain ⟨⟨h1, h2, h3, h4, h5, h6⟩, ⟨h7, h8⟩, ⟨h9, h10⟩, ⟨h11, h12⟩⟩ := id hm
  have hdm := dim_le m.y m.m
  simp only [letL, List.contains_eq_mem, List.mem_cons, List.not_mem_nil, or_false, decide_eq_true_eq] at he
  rcases he with rfl | rfl | rfl | rfl | rfl | rfl | rfl | rfl | rfl | rfl | rfl | rfl | rfl
  · exact dir_num (w := 4) (v := m.y) h37 rfl rfl (by omega) rfl rfl (by omega) (by omega) rest fd cf
  · exact dir_num (w := 2) (v := m.m) h37 rfl rfl (by omega) rfl rfl (by omega) (by omega) rest fd cf
  · exact dir_num (w := 2) (v := m.d) h37 rfl rfl (by omega) rfl rfl (by omega) (by omega) rest fd cf
  · exact dir_num (w := 2) (v := m.h) h37 rfl rfl (by omega) rfl rfl (by omega) (by omega) rest fd cf
  · exact dir_num (w := 2) (v := m.mi) h37 rfl rfl (by omega) rfl rfl (by omega) (by omega) rest fd cf
  · exact dir_num (w := 2) (v := m.s) h37 rfl rfl (by omega) rfl rfl (by omega) (by omega) rest fd cf
  · exact dir_num (w := 3) (v := m.doy) h37 rfl rfl (by omega) rfl rfl (by omega) (by omega) rest fd cf
  · exact dir_num (w := 4) (v := (weekS m.y m.day).1) h37 rfl rfl (by omega) rfl rfl (by omega) (by omega) rest fd cf
  · exact dir_num (w := 2) (v := (weekS m.y m.day).2) h37 rfl rfl (by omega) rfl rfl (by omega) (by omega) rest fd cf
  · exact dir_num (w := 1) (v := (m.day - 1) % 7 + 1) h37 rfl rfl (by omega) rfl rfl (by omega) (by omega) rest fd cf
  · exact dir_name (names := dayNames) (i := ((m.day - 1) % 7).toNat) h37 rfl (by show _ < 7; omega) names_len.1 (by decide) rfl (by show (m.day - 1) % 7 + 1 = _; omega) rest fd cf
  · exact dir_name (names := monthNames) (i := (m.m - 1).toNat) h37 rfl (by show _ < 12; omega) names_len.2 (by decide) rfl (by show m.m = _; omega) rest fd cf
  · exact absurd rfl h37

def Vals (m : Mo) (fd : Fd) : Prop := ∀ x ∈ fd, x.2 = valS m x.1

theorem mem_put : ∀ {fd : Fd} {c : UInt8} {n : Int} {x : UInt8 × Int}, x ∈ fdPut fd c n → x = (c, n) ∨ x ∈ fd
  | [], c, n, x, h => by simp only [fdPut, List.mem_singleton] at h; exact .inl h
  | p :: r, c, n, x, h => by
    unfold fdPut at h
    split at h
    · rcases List.mem_cons.mp h with h | h
      · exact .inl h
      · exact .inr (List.mem_cons_of_mem _ h)
    · rcases List.mem_cons.mp h with h | h
      · exact .inr (h ▸ List.mem_cons_self ..)
      · rcases mem_put h with h | h
        · exact .inl h
        · exact .inr (List.mem_cons_of_mem _ h)

theorem note_vals {m : Mo} {fd : Fd} (e : UInt8) (h : Vals m fd) : Vals m (noteS fd false e (valF m e)).1 ∧ (noteS fd false e (valF m e)).2 = false ∧
    ∀ c, (fdGet fd c).isSome = true → (fdGet (noteS fd false e (valF m e)).1 c).isSome = true := by
  unfold noteS valF
  generalize (if e = 98 then (109 : UInt8) else e) = c
  refine ⟨fun x hx => ?_, ?_, fun d hd => ?_⟩
  · rcases mem_put hx with rfl | hx
    · rfl
    · exact h x hx
  · cases hq : fdGet fd c with
    | none => simp [hq]
    | some o =>
      have := h _ (mem_of_get hq)
      simp only at this
      simp [hq, this]
  · simp only [fdGet_put]
    split
    · rfl
    · exact hd

theorem fmtS_byte (m : Mo) {c : UInt8} (h : c ≠ 37) (l : List UInt8) : fmtS m (c :: l) = c :: fmtS m l := by
  cases l with
  | nil => rfl
  | cons e l => rw [fmtS, if_pos h]

theorem fmtS_dir (m : Mo) (e : UInt8) (l : List UInt8) : fmtS m (37 :: e :: l) = if e = 37 then 37 :: fmtS m l else fmtDir m e ++ fmtS m l := by rw [fmtS, if_neg (by simp)]

theorem readS_fmt {m : Mo} (hm : m.ok) : ∀ (p : List UInt8) (i : Nat) (f : Int) (l : List UInt8) (fd : Fd), (patFrom f i p).1 = 0 → Vals m fd →
    ∃ fd', readS p (fmtS m p ++ l) fd false = (true, l, fd', false) ∧ Vals m fd' ∧ ∀ c, (fdGet fd c).isSome = true → (fdGet fd' c).isSome = true
  | [], i, f, l, fd, hz, h => ⟨fd, rfl, h, fun _ hc => hc⟩
  | [c], i, f, l, fd, hz, h => ⟨fd, by simp [fmtS, readS, byteS], h, fun _ hc => hc⟩
  | c :: e :: p, i, f, l, fd, hz, h => by
    by_cases hc : c = 37
    · subst hc
      rw [patFrom, if_neg (by simp)] at hz
      have hlet : letL.contains e = true := by
        cases hl : letL.contains e with
        | true => rfl
        | false => rw [hl] at hz; simp at hz
      rw [if_pos hlet] at hz
      rw [readS_dir, fmtS_dir]
      by_cases he : e = 37
      · subst he
        have hd : dirS 37 (widP 37) (nsP 37) (37 :: (fmtS m p ++ l)) fd false = (true, fmtS m p ++ l, fd, false) := by simp [dirS, byteS]
        rw [if_pos rfl, List.cons_append, hd]
        simp only [if_true]
        exact readS_fmt hm p (i + 2) f l fd hz h
      · rw [if_neg he, List.append_assoc, dir_fmt hm hlet he]
        obtain ⟨h1, h2, h3⟩ := note_vals e h
        obtain ⟨fd', h4, h5, h6⟩ := readS_fmt hm p (i + 2) f l _ hz h1
        simp only [if_true, h2]
        exact ⟨fd', h4, h5, fun c hc => h6 c (h3 c hc)⟩
    · rw [readS_byte hc, fmtS_byte m hc]
      have hz' : (patFrom f (i + 1) (e :: p)).1 = 0 := by rw [patFrom, if_pos hc] at hz; exact hz
      obtain ⟨fd', h4, h5, h6⟩ := readS_fmt hm (e :: p) (i + 1) f l fd hz' h
      exact ⟨fd', by simpa [byteS] using h4, h5, h6⟩

/-- "%d.%m.%Y " -/
def preD : List UInt8 := [37, 100, 46, 37, 109, 46, 37, 89, 32]

theorem patFrom_free : ∀ (p : List UInt8) (f g : Int) (i j : Nat), (patFrom f i p).1 = 0 → (patFrom g j p).1 = 0
  | [], _, _, _, _, _ => rfl
  | [c], f, g, i, j, h => by
    unfold patFrom at h ⊢
    split at h
    · rw [if_pos (by assumption)]
    · simp at h
  | c :: e :: l, f, g, i, j, h => by
    unfold patFrom at h ⊢
    by_cases hc : c ≠ 37
    · rw [if_pos hc] at h ⊢
      exact patFrom_free (e :: l) f g _ _ h
    · rw [if_neg hc] at h ⊢
      by_cases hl : letL.contains e = true
      · rw [if_pos hl] at h ⊢
        exact patFrom_free l f g _ _ h
      · rw [if_neg hl] at h
        simp at h

theorem patFrom_pre {f : Int} {p : List UInt8} (h : (patFrom f 0 p).1 = 0) (g : Int) : (patFrom g 0 (preD ++ p)).1 = 0 := by
  have h1 : (patFrom g 9 p).1 = 0 := patFrom_free p f g 0 9 h
  have h2 : (patFrom g 8 (32 :: p)).1 = 0 := by
    cases p with
    | nil => rfl
    | cons e l => rw [patFrom, if_pos (by decide)]; exact h1
  show (patFrom g 0 (37 :: 100 :: 46 :: 37 :: 109 :: 46 :: 37 :: 89 :: 32 :: p)).1 = 0
  simpa [patFrom, letL] using h2

theorem read_pre {m : Mo} (hm : m.ok) {p : List UInt8} {f : Int} (hz : (patFrom f 0 p).1 = 0) :
    ∃ fd, readS (preD ++ p) (fmtS m (preD ++ p)) [] false = (true, [], fd, false) ∧ Vals m fd ∧ ∀ c, c ∈ [89, 109, 100] → (fdGet fd c).isSome = true := by
  have hv0 : Vals m [] := fun _ hx => (List.not_mem_nil hx).elim
  have hv1 := note_vals (m := m) 100 hv0
  have hv2 := note_vals (m := m) 109 hv1.1
  have hv3 := note_vals (m := m) 89 hv2.1
  obtain ⟨fd, h1, h2, h3⟩ := readS_fmt hm p 0 f [] _ hz hv3.1
  refine ⟨fd, ?_, h2, ?_⟩
  · show readS (37 :: 100 :: 46 :: 37 :: 109 :: 46 :: 37 :: 89 :: 32 :: p) (fmtS m (37 :: 100 :: 46 :: 37 :: 109 :: 46 :: 37 :: 89 :: 32 :: p)) [] false = _
    have e1 : ∀ (e : UInt8) (l : List UInt8), e ≠ 37 → fmtS m (37 :: e :: l) = fmtDir m e ++ fmtS m l := fun e l he => by rw [fmtS, if_neg (by simp), if_neg he]
    rw [e1 _ _ (by decide), fmtS_byte m (by decide), e1 _ _ (by decide), fmtS_byte m (by decide), e1 _ _ (by decide), fmtS_byte m (by decide)]
    rw [readS_dir, dir_fmt hm (by decide) (by decide)]
    simp only [if_true, hv1.2.1]
    rw [readS_byte (by decide)]
    simp only [byteS, if_true]
    rw [readS_dir, dir_fmt hm (by decide) (by decide)]
    simp only [if_true, hv2.2.1]
    rw [readS_byte (by decide)]
    simp only [byteS, if_true]
    rw [readS_dir, dir_fmt hm (by decide) (by decide)]
    simp only [if_true, hv3.2.1]
    rw [readS_byte (by decide)]
    simp only [byteS, if_true]
    rw [List.append_nil] at h1
    exact h1
  · intro c hc
    refine h3 c ?_
    simp only [List.mem_cons, List.not_mem_nil, or_false] at hc
    have i1 : (fdGet (noteS [] false 100 (valF m 100)).1 100).isSome = true := rfl
    have i2 : (fdGet (noteS (noteS [] false 100 (valF m 100)).1 false 109 (valF m 109)).1 109).isSome = true := by simp [noteS, fdGet_put]
    rcases hc with rfl | rfl | rfl
    · simp [noteS, fdGet_put]
    · exact hv3.2.2 _ i2
    · exact hv3.2.2 _ (hv2.2.2 _ i1)

/-- What is parsed of the text of a moment. -/
theorem parse_fmt {m : Mo} (hm : m.ok) {p : List UInt8} {f : Int} (hz : (patFrom f 0 p).1 = 0) (hl : p.length ≤ 191) :
    ∃ x : Mo, parseS (fmtS m (preD ++ p)) (preD ++ p) = (x, (0, 0)) ∧ x.y = m.y ∧ x.m = m.m ∧ x.d = m.d ∧ (x.h = m.h ∨ x.h = 0) ∧ (x.mi = m.mi ∨ x.mi = 0) ∧ (x.s = m.s ∨ x.s = 0) := by
  obtain ⟨fd, h1, h2, h3⟩ := read_pre hm hz
  have some_v : ∀ c d, (fdGet fd c).isSome = true → (fdGet fd c).getD d = valS m c := by
    intro c d hc
    cases hq : fdGet fd c with
    | none => rw [hq] at hc; cases hc
    | some n => exact h2 _ (mem_of_get hq)
  have or_v : ∀ c d, (fdGet fd c).getD d = valS m c ∨ (fdGet fd c).getD d = d := by
    intro c d
    cases hq : fdGet fd c with
    | none => exact .inr rfl
    | some n => exact .inl (h2 _ (mem_of_get hq))
  have ey : (momA fd).y = m.y := some_v 89 1 (h3 89 (by simp))
  have em : (momA fd).m = m.m := some_v 109 1 (h3 109 (by simp))
  have ed : (momA fd).d = m.d := some_v 100 1 (h3 100 (by simp))
  have eh : (momA fd).h = m.h ∨ (momA fd).h = 0 := or_v 72 0
  have ei : (momA fd).mi = m.mi ∨ (momA fd).mi = 0 := or_v 77 0
  have es : (momA fd).s = m.s ∨ (momA fd).s = 0 := or_v 83 0
  have eday : (momA fd).day = m.day := by unfold Mo.day; rw [ey, em, ed]
  have edoy : (momA fd).doy = m.doy := by unfold Mo.doy; rw [ey, em, ed]
  have hok : (momA fd).ok := by
    obtain ⟨hv, ⟨h7, h8⟩, ⟨h9, h10⟩, ⟨h11, h12⟩⟩ := hm
    refine ⟨by rw [ey, em, ed]; exact hv, ?_, ?_, ?_⟩
    · rcases eh with e | e <;> rw [e] <;> omega
    · rcases ei with e | e <;> rw [e] <;> omega
    · rcases es with e | e <;> rw [e] <;> omega
  have hall : fd.all (fun x => decide (valS (momA fd) x.1 = x.2)) = true := by
    rw [List.all_eq_true]
    intro x hx
    rw [decide_eq_true_eq, h2 x hx]
    have hs : (fdGet fd x.1).isSome = true := by
      clear some_v or_v ey em ed eh ei es eday edoy hok h1 h2 h3
      induction fd with
      | nil => exact (List.not_mem_nil hx).elim
      | cons p r ih =>
        simp only [fdGet]
        split
        · rfl
        · rename_i hne
          rcases List.mem_cons.mp hx with rfl | hx
          · exact absurd rfl hne
          · exact ih hx
    have hv := fun d => some_v x.1 d hs
    by_cases c1 : x.1 = 89
    · rw [c1]; exact ey
    by_cases c2 : x.1 = 109
    · rw [c2]; exact em
    by_cases c3 : x.1 = 100
    · rw [c3]; exact ed
    by_cases c4 : x.1 = 72
    · have := hv 0; rw [c4] at this ⊢; exact this
    by_cases c5 : x.1 = 77
    · have := hv 0; rw [c5] at this ⊢; exact this
    by_cases c6 : x.1 = 83
    · have := hv 0; rw [c6] at this ⊢; exact this
    unfold valS
    rw [if_neg c1, if_neg c1, if_neg c2, if_neg c2, if_neg c3, if_neg c3, if_neg c4, if_neg c4, if_neg c5, if_neg c5, if_neg c6, if_neg c6, eday, edoy, ey]
  have hz2 := patFrom_pre hz 1000
  have hp2 : ¬ (patF 1000 (preD ++ p)).1 ≠ 0 := by
    unfold patF
    rw [if_neg (by simp [preD]; omega)]
    simpa using hz2
  refine ⟨momA fd, ?_, ey, em, ed, eh, ei, es⟩
  unfold parseS
  rw [if_neg hp2, h1]
  simp only
  rw [if_neg (by simp), if_neg (by simp), momF_zero hok, if_neg (by simp), if_pos hall]

theorem fmtDir_len {m : Mo} (hm : m.ok) (e : UInt8) : (fmtDir m e).length ≤ 5 := by
  have hw := weekS_bnd hm
  have hdo := doy_bnd2 hm
  obtain ⟨⟨h1, h2, h3, h4, h5, h6⟩, ⟨h7, h8⟩, ⟨h9, h10⟩, ⟨h11, h12⟩⟩ := id hm
  have hdm := dim_le m.y m.m
  unfold fmtDir
  repeat' split
  all_goals first
    | exact padS_len _ (by omega) (by omega) (by omega)
    | exact Nat.le_trans (names_le _).1 (by omega)
    | exact Nat.le_trans (names_le _).2 (by omega)
theorem fmtS_len {m : Mo} (hm : m.ok) : ∀ p : List UInt8, (fmtS m p).length ≤ 5 * p.length
  | [] => by simp [fmtS]
  | [c] => by simp [fmtS]
  | c :: e :: l => by
    have h1 := fmtS_len hm (e :: l)
    have h2 := fmtS_len hm l
    have h3 := fmtDir_len hm e
    simp only [List.length_cons] at h1 ⊢
    unfold fmtS
    split
    · simp only [List.length_cons]; omega
    · split
      · simp only [List.length_cons]; omega
      · simp only [List.length_append]; omega

end Go.Vm
