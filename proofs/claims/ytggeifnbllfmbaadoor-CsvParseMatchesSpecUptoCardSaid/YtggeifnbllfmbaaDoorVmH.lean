/- The operations that write memory, each with one outcome: what they leave, and that it is so. -/
import Derived.Test.YtggeifnbllfmbaaDoorVmG
set_option linter.unusedSimpArgs false
namespace Go.Vm
variable {P : Program} {sz : TypeId → Nat} {base : Nat} {w0 : World} {m nt : Nat} {F : Frz} {ρ : Env0} {env : Env} {a : Act} {w : World} {n : Nat} {tab : Tab} {h : List Blk}

/-- The elements that a slice (or a text) hands to append. -/
def srcOf (e : TypeId) (size : Nat) (h : List Blk) : AV → Option (Prop × List D)
  | .d (.sl e' xs) => some (e' = e, xs)
  | .d .nilsl => some (True, [])
  | .z0 _ => some (True, [])
  | .bl _ e' xs => some (e' = e, xs)
  | .ref b e' off len => match h[b]? with
    | some (.cells e'' xs) => match AV.allD ((xs.drop off).take len) with
      | some ds => some (e' = e ∧ e'' = e ∧ ds.length = len, ds)
      | none => none
    | _ => none
  | .d (.str s) => some (size = 1, s.map fun c => .int .u8 c.toNat)
  | _ => none

theorem loadCells_vs {ad : Addr} (hs : ad.spot = none) {vs : List Value} (h : ∀ (j : Nat) (v : Value), vs[j]? = some v → w.cell? ⟨ad.block, ad.off + j, none⟩ = some v) :
    (loadCells ad vs.length).run P w = .ok vs.toArray w := by
  rw [loadCells_run hs (fun j => vs.getD j .nilIface) vs.length (fun j hj => by
    have : vs[j]? = some vs[j] := List.getElem?_eq_getElem hj
    rw [h j _ this, List.getD, this]; rfl)]
  congr 2
  apply List.ext_getElem?
  intro j
  by_cases hj : j < vs.length
  · simp [hj]
  · simp [hj]

theorem row_nil : RowRep sz F (flatD []) [] := ⟨rfl, fun j c hc => by simp [flatD] at hc⟩

theorem src_str {s : List UInt8} : RowRep sz F (flatD (s.map fun c => .int .u8 (c.toNat : Int))) (s.map fun c => .int .u8 (c.toNat : Int)) := by
  have : flatD (s.map fun c : UInt8 => D.int .u8 (c.toNat : Int)) = s.map fun c : UInt8 => D.int .u8 (c.toNat : Int) := by
    induction s with
    | nil => rfl
    | cons c s ih => simp only [flatD, List.map_cons, List.flatMap_cons, D.cells, List.singleton_append] at ih ⊢; rw [ih]
  rw [this]
  refine ⟨by simp, fun j c hc => ?_⟩
  simp only [List.getElem?_map, Option.map_eq_some_iff] at hc ⊢
  obtain ⟨b, hb, rfl⟩ := hc
  exact ⟨_, ⟨b, hb, rfl⟩, .int _ _, rfl⟩

theorem frozen_src (hF : ∀ y v, F y = some v → w.cell? y = some v) {e : TypeId} {ys : List D} {A : Option Addr} {cap : Nat} (hrep : FRep sz F (.sl e ys) (.slice A ys.length cap)) :
    (Builtin.lenOf (.slice A ys.length cap)).run P w = .ok ys.length w ∧ (∀ y ∈ ys, y.cells.length = sz e) ∧ ∃ vs, RowRep sz F (flatD ys) vs ∧
      ∀ w2 : World, (∀ y, w2.cell? y = w.cell? y) → (Builtin.firstCells (sz e) ys.length (.slice A ys.length cap)).run P w2 = .ok vs.toArray w2 := by
  obtain ⟨hl, vs, hr, hA⟩ := hrep.row
  have hlen : vs.length = ys.length * sz e := by rw [hr.1, flatD_length hl]
  refine ⟨rfl, hl, vs, hr, fun w2 hw2 => ?_⟩
  by_cases hne : ys = []
  · subst hne
    have : vs = [] := List.eq_nil_of_length_eq_zero (by simpa using hlen)
    subst this
    cases A with
    | none => rfl
    | some ad => simp [Builtin.firstCells, loadCells, loadCellsFrom]
  · obtain ⟨ad, rfl, hs, hc⟩ := hA hne
    simp only [Builtin.firstCells, ← hlen]
    exact loadCells_vs hs (fun j v hj => by rw [hw2]; exact hF _ _ (hc j v hj))

theorem allD_get {cs : List AV} {ds : List D} (h : AV.allD cs = some ds) (i : Nat) : cs[i]? = (ds[i]?).map AV.d := by
  rw [AV.allD_some h, List.getElem?_map]

theorem src_sound (hst : St sz base w0 F ρ h w) {e : TypeId} {x : AV} {ob : Prop} {ys : List D} {cv : Value} (hx : srcOf e (sz e) h x = some (ob, ys)) (hob : ob) (hv : VRel sz F ρ h.length x cv) :
    (Builtin.lenOf cv).run P w = .ok ys.length w ∧ (∀ y ∈ ys, y.cells.length = sz e) ∧ ∃ vs, RowRep sz F (flatD ys) vs ∧
      ∀ w2 : World, (∀ y, w2.cell? y = w.cell? y) → (Builtin.firstCells (sz e) ys.length cv).run P w2 = .ok vs.toArray w2 := by
  have empty : ∀ A c, (Builtin.lenOf (.slice A 0 c)).run P w = .ok 0 w ∧ (∀ y ∈ ([] : List D), y.cells.length = sz e) ∧ ∃ vs, RowRep sz F (flatD []) vs ∧
      ∀ w2 : World, (∀ y, w2.cell? y = w.cell? y) → (Builtin.firstCells (sz e) 0 (.slice A 0 c)).run P w2 = .ok vs.toArray w2 := by
    intro A c
    refine ⟨rfl, by simp, [], row_nil, fun w2 _ => ?_⟩
    cases A with
    | none => rfl
    | some ad => simp [Builtin.firstCells, loadCells, loadCellsFrom]
  unfold srcOf at hx
  split at hx
  · rename_i e' xs
    simp only [Option.some.injEq, Prod.mk.injEq] at hx
    obtain ⟨h1, rfl⟩ := hx
    subst h1
    subst hob
    obtain ⟨A, cap, rfl, _, _⟩ := hv.d_inv.sl_inv
    exact frozen_src hst.frz hv.d_inv
  · simp only [Option.some.injEq, Prod.mk.injEq] at hx
    obtain ⟨_, rfl⟩ := hx
    cases hv with | d hv => cases hv with
    | nilsl => exact empty _ _
  · simp only [Option.some.injEq, Prod.mk.injEq] at hx
    obtain ⟨_, rfl⟩ := hx
    cases hv with
    | z0 => exact empty _ _
  · rename_i b e' xs
    simp only [Option.some.injEq, Prod.mk.injEq] at hx
    obtain ⟨h1, rfl⟩ := hx
    subst h1
    subst hob
    cases hv with
    | bl hb hrep hl hw hc =>
      obtain ⟨A, cap, rfl, _, _⟩ := hrep.sl_inv
      exact frozen_src hst.frz hrep
  · rename_i b e' off len
    split at hx
    · rename_i e'' xs hb
      split at hx
      · rename_i ds hds
        simp only [Option.some.injEq, Prod.mk.injEq] at hx
        obtain ⟨h1, rfl⟩ := hx
        subst h1
        obtain ⟨rfl, rfl, hlen⟩ := hob
        obtain ⟨B, N, c, e0, h1, h2, h3, h4, h5, h6⟩ := hst.blk b _ hb
        cases hv with
        | @ref _ _ _ _ cap A hbn hA0 hl hc =>
          have hA : len ≠ 0 → A = some ⟨B, off * sz e'', none⟩ := fun hne => (hl B N h1).1 (by omega)
          have hel : ∀ (i : Nat) (x : D), ds[i]? = some x → x.cells.length = sz e'' ∧ ∀ (k : Nat) (y : D), x.cells[k]? = some y → ∃ v, c[(off + i) * sz e'' + k]? = some v ∧ FRep sz F y v ∧ v.oneCell' = true := by
            intro i x hi
            have hlt := (List.getElem?_eq_some_iff.mp hi).1
            have := allD_get hds i
            rw [hi, List.getElem?_take_of_lt (by omega), List.getElem?_drop] at this
            obtain ⟨h7, h8⟩ := h6 _ _ this
            simp only [AV.cells, List.length_map] at h7
            refine ⟨h7, fun k y hk => ?_⟩
            obtain ⟨v, h9, h10, h11⟩ := h8 k (.d y) (by simp [AV.cells, hk])
            exact ⟨v, h9, h10.d_inv, h11⟩
          have hl' : ∀ y ∈ ds, y.cells.length = sz e'' := fun y hy => by obtain ⟨i, hi⟩ := List.getElem?_of_mem hy; exact (hel i y hi).1
          have hfl := flatD_length hl'
          have hget : ∀ (j : Nat) (y : D), (flatD ds)[j]? = some y → ∃ v, c[off * sz e'' + j]? = some v ∧ FRep sz F y v ∧ v.oneCell' = true := by
            intro j y hj
            obtain ⟨i, k, x, h7, h8, rfl⟩ := flatD_back hl' j y hj
            obtain ⟨v, h9, h10⟩ := (hel i x h7).2 k y h8
            exact ⟨v, by rw [← h9]; congr 1; rw [Nat.add_mul]; omega, h10⟩
          refine ⟨by rw [hlen]; rfl, hl', (List.range (flatD ds).length).map (fun j => (c[off * sz e'' + j]?).getD .nilIface), ⟨by simp, fun j y hj => ?_⟩, fun w2 hw2 => ?_⟩
          · have hlt := (List.getElem?_eq_some_iff.mp hj).1
            obtain ⟨v, h7, h8⟩ := hget j y hj
            exact ⟨v, by simp [hlt, h7], h8⟩
          · by_cases h0 : len = 0
            · subst h0
              have : ds = [] := List.eq_nil_of_length_eq_zero hlen
              subst this
              cases A with
              | none => rfl
              | some ad => simp [Builtin.firstCells, loadCells, loadCellsFrom, flatD]
            · rw [hA h0]
              have hn : ds.length * sz e'' = ((List.range (flatD ds).length).map (fun j => (c[off * sz e'' + j]?).getD Value.nilIface)).length := by simp [hfl]
              simp only [Builtin.firstCells]
              rw [hn]
              refine loadCells_vs rfl (fun j v hj => ?_)
              have hlt := (List.getElem?_eq_some_iff.mp hj).1
              simp only [List.length_map, List.length_range] at hlt
              obtain ⟨v', h7, _⟩ := hget j _ (List.getElem?_eq_getElem hlt)
              have : v = v' := by simpa [hlt, h7] using hj.symm
              rw [hw2, this]
              simp only [World.cell?, h3]
              simpa using h7
      · simp at hx
    · simp at hx
  · rename_i s
    simp only [Option.some.injEq, Prod.mk.injEq] at hx
    obtain ⟨h0, rfl⟩ := hx
    have h1 : sz e = 1 := by rw [← h0] at hob; exact hob
    have := hv.str_inv
    subst this
    refine ⟨?_, fun y hy => ?_, _, src_str, fun w2 _ => ?_⟩
    · simp only [Builtin.lenOf, Sem.run_pure, List.length_map]
      congr 1
    · simp only [List.mem_map] at hy
      obtain ⟨c, _, rfl⟩ := hy
      rw [h1]; rfl
    · simp only [Builtin.firstCells, Sem.run_pure, List.length_map]
      congr 1
      rw [ByteArray.data_extract]
      apply Array.toList_inj.mp
      simp
  · simp at hx

theorem zeroCells_size (z : Array Value) (k : Nat) : (Builtin.zeroCells z k).size = k * z.size := by simp [Builtin.zeroCells]

/-- append that needs a new array. -/
theorem append_new {t t2 ty e : TypeId} {te : TI} (hg : te.Good P e) (ht : P.underlying t = some (.slice e)) {d2 : TypeDesc} (ht2 : P.underlying t2 = some d2) (hd2 : ∀ k, d2 ≠ .int k)
    {base' : Option Addr} {sLen sCap k : Nat} {cv : Value} {olds news : List Value} (hlen : (Builtin.lenOf cv).run P w = .ok k w) (hgt : sCap < sLen + k)
    (hold : ∀ w2 : World, (∀ y, w2.cell? y = w.cell? y) → (Builtin.firstCells te.size sLen (.slice base' sLen sCap)).run P w2 = .ok olds.toArray w2)
    (hnew : ∀ w2 : World, (∀ y, w2.cell? y = w.cell? y) → (Builtin.firstCells te.size k cv).run P w2 = .ok news.toArray w2) (hlo : olds.length = sLen * te.size) (hln : news.length = k * te.size)
    (hfit : (sLen + k) * te.bytes ≤ 140737488355328) (h63 : ((sLen + k : Nat) : Int) ≤ 9223372036854775807) :
    ∃ cap cs, sLen + k ≤ cap ∧ cap * te.size = cs.size ∧ (∀ (j : Nat) (v : Value), (olds ++ news)[j]? = some v → cs[j]? = some v) ∧
      (Builtin.append_ #[t, t2] ty #[.slice base' sLen sCap, cv]).run P w = .ok (.slice (some ⟨w.heap.size, 0, none⟩) (sLen + k) cap) (w.drew.alloc (.cells cs e)) := by
  obtain ⟨info, hi1, hi2, hi3, z, hz, hzc, _, _⟩ := hg.info
  have hzs : z.cells.size = te.size := by rw [← Array.length_toList, hzc]; simp [hg.zlen]
  have hcap : sLen + k ≤ grownCap w (sLen + k) sCap e := by simp only [grownCap, Question.cut]; omega
  refine ⟨grownCap w (sLen + k) sCap e, olds.toArray ++ news.toArray ++ Builtin.zeroCells z.cells (grownCap w (sLen + k) sCap e - (sLen + k)), hcap, ?_, fun j v hj => ?_, ?_⟩
  · simp only [Array.size_append, zeroCells_size, hzs, List.size_toArray, hlo, hln]
    rw [← Nat.add_mul, ← Nat.add_mul]
    congr 1
    omega
  · have hlt := (List.getElem?_eq_some_iff.mp hj).1
    rw [Array.getElem?_append_left (by simpa using hlt)]
    simpa using hj
  · have hn : ¬ (sLen + k ≤ sCap) := by omega
    have h63' : ¬ (9223372036854775807 < ((sLen : Int) + (k : Int))) := by omega
    have h48' : ¬ (Builtin.nextslicecap (sLen + k) sCap * info.bytes > 2 ^ 48) := by
      have := growslice_fits (bytes := te.bytes) hgt hfit
      rw [hi3]; omega
    have hz2 : (match d2 with | .int _ => true | _ => false) = false := by cases d2 <;> first | rfl | exact absurd rfl (hd2 _)
    have ho := hold w.drew (fun y => rfl)
    have hn' := hnew w.drew (fun y => rfl)
    have hl1 : ((Builtin.lenOf cv).run P w) = .ok k w := hlen
    simp only [Builtin.append_, List.getElem?_toArray, List.getElem?_cons_zero, List.getElem?_cons_succ, Sem.run_bind, run_underlying' ht, Result.andThen_ok, hg.run_sizeOf, run_underlying' ht2, Sem.run_pure]
    have hcut : ∀ q : Question, q = .appendCap (sLen + k) sCap e → (choose q).run P w = .ok (grownCap w (sLen + k) sCap e) w.drew := by
      rintro q rfl
      simp only [run_choose, Question.forced, Bool.false_eq_true, if_false, grownCap]
      rfl
    have h63'' : ¬ (((sLen + k : Nat) : Int) > IntKind.i64.max ∧ (false = true ∨ info.bytes = 0)) := by
      intro h
      have : ((sLen + k : Nat) : Int) > 9223372036854775807 := h.1
      omega
    simp only [Bool.false_eq_true, if_false, Sem.run_bind, hl1, Result.andThen_ok, if_neg hn, typeInfo, run_program, hi1, Sem.run_pure, false_or, Sem.run_ite]
    rw [if_neg (by simpa using h63''), if_neg h48']
    simp only [Sem.run_bind, hcut _ rfl, Result.andThen_ok, run_askRoom, ho, hn', Bool.not_false, if_true, zeroValue, typeInfo, run_program, hi1, hz, Sem.run_pure, newRow, run_newObj, World.alloc_eq, World.size_drew]

theorem wrap64 {n : Int} (h1 : 0 ≤ n) (h2 : n ≤ 140737488355328) : IntKind.i64.wrap n = n := by
  simp only [IntKind.wrap, IntKind.bits, IntKind.signed, Bool.true_and, decide_eq_true_eq, show (2 : Int) ^ 64 = 18446744073709551616 from rfl, show (2 : Int) ^ (64 - 1) = 9223372036854775808 from rfl]
  split <;> omega

/-- append of zeros to nil. -/
theorem append_zeros {t t2 ty e : TypeId} {te : TI} (hg : te.Good P e) (ht : P.underlying t = some (.slice e)) {kd kx : IntKind} (ht2 : P.underlying t2 = some (.int kd)) {k : Nat} (hk : 1 ≤ k) (hb1 : 1 ≤ te.bytes) (hs1 : 1 ≤ te.size)
    (hfit : k * te.bytes ≤ 140737488355328) :
    ∃ cap cs, k ≤ cap ∧ cap * te.size = cs.size ∧ (Builtin.append_ #[t, t2] ty #[.slice none 0 0, .int kx (k : Int)]).run P w = .ok (.slice (some ⟨w.heap.size, 0, none⟩) k cap) (w.drew.alloc (.cells cs e)) := by
  obtain ⟨info, hi1, hi2, hi3, z, hz, hzc, _, _⟩ := hg.info
  have hzs : z.cells.size = te.size := by rw [← Array.length_toList, hzc]; simp [hg.zlen]
  have hcap : k ≤ grownCap w k 0 e := by simp only [grownCap, Question.cut]; omega
  have hkb : k ≤ k * te.bytes := Nat.le_mul_of_pos_right _ hb1
  have hw := wrap64 (n := (k : Int)) (by omega) (by omega)
  have hn : ¬ (0 + k ≤ 0) := by omega
  have h48' : ¬ (Builtin.nextslicecap (0 + k) 0 * info.bytes > 2 ^ 48) := by
    have := growslice_fits (need := 0 + k) (old := 0) (bytes := te.bytes) (by omega) (by simpa using hfit)
    rw [hi3]; omega
  have hcut : ∀ q : Question, q = .appendCap (0 + k) 0 e → (choose q).run P w = .ok (grownCap w (0 + k) 0 e) w.drew := by
    rintro q rfl
    simp only [run_choose, Question.forced, Bool.false_eq_true, if_false, grownCap]
    rfl
  have hcap' : 0 + k ≤ grownCap w (0 + k) 0 e := by rw [Nat.zero_add]; exact hcap
  have hks : ¬ (k * te.size = 0) := by
    have : 1 ≤ k * te.size := Nat.le_trans (by omega : 1 ≤ 1 * 1) (Nat.mul_le_mul hk hs1)
    omega
  have hl0 : ¬ ((k : Int) < 0) := by omega
  have h48 : ¬ ((k : Int) * (info.bytes : Int) > 2 ^ 48) := by
    rw [hi3]
    have : (k : Int) * (te.bytes : Int) = ((k * te.bytes : Nat) : Int) := by simp
    rw [this]; omega
  have h63 : ¬ (((0 + k : Nat) : Int) > IntKind.i64.max ∧ (true = true ∨ info.bytes = 0)) := by
    rintro ⟨h, _⟩
    have : ((0 + k : Nat) : Int) > 9223372036854775807 := h
    omega
  refine ⟨grownCap w (0 + k) 0 e, (#[] : Array Value) ++ Builtin.zeroCells z.cells k ++ Builtin.zeroCells z.cells (grownCap w (0 + k) 0 e - (0 + k)), by omega, ?_, ?_⟩
  · simp only [Array.size_append, zeroCells_size, hzs, Nat.zero_add, List.size_toArray, List.length_nil]
    rw [← Nat.add_mul]
    congr 1; omega
  · have hai : (asInt (.int kx (k : Int))).run P w = .ok (k : Int) w := rfl
    simp only [Builtin.append_, List.getElem?_toArray, List.getElem?_cons_zero, List.getElem?_cons_succ, Sem.run_bind, run_underlying' ht, Result.andThen_ok, hg.run_sizeOf, run_underlying' ht2, Sem.run_pure, if_true, hai, hw,
      Sem.run_ite, typeInfo, run_program, hi1, Int.toNat_natCast]
    rw [if_neg hl0, if_neg (by simpa using h48), if_neg hn, if_neg (by simpa using h63), if_neg h48']
    have hfc : ∀ w2 : World, (Builtin.firstCells te.size 0 (Value.slice none 0 0)).run P w2 = .ok #[] w2 := fun _ => rfl
    simp only [hcut _ rfl, Result.andThen_ok, run_askRoom, hfc, Bool.not_true, Bool.false_eq_true, if_false, if_neg hks, zeroValue, typeInfo, Sem.run_bind, run_program, hi1, hz, Sem.run_pure, newRow, run_newObj, World.alloc_eq, Nat.zero_add]
    have hcut' := hcut (.appendCap k 0 e) (by rw [Nat.zero_add])
    rw [Nat.zero_add] at hcut'
    simp only [hcut', Result.andThen_ok, World.size_drew]

/-- append that fits. -/
theorem append_in {t t2 ty e : TypeId} {te : TI} (hg : te.Good P e) (ht : P.underlying t = some (.slice e)) {d2 : TypeDesc} (ht2 : P.underlying t2 = some d2) (hd2 : ∀ k, d2 ≠ .int k)
    {base' : Option Addr} {sLen sCap k : Nat} {cv : Value} {news : List Value} (hlen : (Builtin.lenOf cv).run P w = .ok k w) (hle : sLen + k ≤ sCap)
    (hnew : (Builtin.firstCells te.size k cv).run P w = .ok news.toArray w) {w' : World} (hst : ∀ ad, base' = some ad → (storeCells (ad.add (sLen * te.size)) news).run P w = .ok () w') (hno : base' = none → w' = w) :
    (Builtin.append_ #[t, t2] ty #[.slice base' sLen sCap, cv]).run P w = .ok (.slice base' (sLen + k) sCap) w' := by
  have hz2 : (match d2 with | .int _ => true | _ => false) = false := by cases d2 <;> first | rfl | exact absurd rfl (hd2 _)
  simp only [Builtin.append_, List.getElem?_toArray, List.getElem?_cons_zero, List.getElem?_cons_succ, Sem.run_bind, run_underlying' ht, Result.andThen_ok, hg.run_sizeOf, run_underlying' ht2, Sem.run_pure]
  simp only [Bool.false_eq_true, if_false, Sem.run_bind, hlen, Result.andThen_ok, if_pos hle, Bool.not_false, if_true, hnew]
  cases base' with
  | none => simp only [Sem.run_pure]; rw [hno rfl]
  | some ad =>
    simp only [Sem.run_bind, hst ad rfl, Result.andThen_ok, Sem.run_pure]

/-- A variable's value with some cells written. -/
def putAV (whole : Bool) (x : AV) (off : Nat) (v : AV) : AV := if whole then v else AV.pack (setCells x.cells off v.cells)

/-- The elements of a new row of elements, some of which are given. -/
def fillAV (xs : List AV) : List (Nat × AV) → List AV
  | [] => xs
  | (i, v) :: r => fillAV (xs.set i v) r

def partsAV (env : Env) : List (Nat × Operand) → Option (List (Nat × AV))
  | [] => some []
  | (i, x) :: r => match ev env x, partsAV env r with
    | some v, some vs => some ((i, v) :: vs)
    | _, _ => none

/-- The type of append's second operand. -/
def isSrc (tab : Tab) (t : TypeId) : Bool := isStr tab t || (slOf tab t).isSome

def freshRow (mu : Bool) (h : List Blk) (e : TypeId) (n : Nat) (xs : List AV) (ob : Prop) : Option (Prop × List Blk × AV) :=
  if mu then some (ob, h ++ [.cells e xs], .ref h.length e 0 n)
  else match AV.allD xs with
    | some ds => some (ob, h ++ [.tail e n], .bl h.length e ds)
    | none => none

/-- append, by what is appended to. -/
def appAV (mu : Bool) (h : List Blk) (e : TypeId) (bytes : Nat) (sv : AV) (ob : Prop) (ys : List D) : Option (Prop × List Blk × AV) :=
  match sv with
  | .bl b e' xs => some (h[b]? = some (.tail e xs.length) ∧ e' = e ∧ ob ∧ (xs.length + ys.length) * bytes ≤ 140737488355328 ∧ 1 ≤ bytes,
      h.set b (.tail e (xs.length + ys.length)), .bl b e (xs ++ ys))
  | .d .nilsl => if mu then (match ys with
      | [] => some (ob, h, .d .nilsl)
      | y :: ys => some (ob ∧ (ys.length + 1) * bytes ≤ 140737488355328 ∧ 1 ≤ bytes, h ++ [.cells e ((y :: ys).map AV.d)], .ref h.length e 0 (ys.length + 1)))
      else some (ob ∧ ys.length * bytes ≤ 140737488355328 ∧ 1 ≤ bytes, h ++ [.tail e ys.length], .bl h.length e ys)
  | .z0 e' => if mu then (match ys with
      | [] => some (ob, h, .z0 e')
      | y :: ys => some (ob ∧ e' = e ∧ (ys.length + 1) * bytes ≤ 140737488355328 ∧ 1 ≤ bytes, h ++ [.cells e ((y :: ys).map AV.d)], .ref h.length e 0 (ys.length + 1)))
      else some (ob ∧ e' = e ∧ ys.length * bytes ≤ 140737488355328 ∧ 1 ≤ bytes, h ++ [.tail e ys.length], .bl h.length e ys)
  | .ref b e' off len => match h[b]? with
    | some (.cells e'' xs) => some (e' = e ∧ e'' = e ∧ off = 0 ∧ len ≤ xs.length ∧ ob ∧ (len + ys.length) * bytes ≤ 140737488355328 ∧ 1 ≤ bytes,
        h.set b .gone ++ [.cells e (xs.take len ++ ys.map AV.d)], .ref h.length e 0 (len + ys.length))
    | _ => none
  | _ => none

/-- A row that was built, seen as data. -/
def AV.asData : AV → AV
  | .bl _ e xs => .d (.sl e xs)
  | v => v

/-- What an operation that writes memory (and calls nothing) does: what must hold, the blocks behind it, its value. -/
def evH (tab : Tab) (mu : Bool) (env : Env) : Op → Option (Prop × List Blk × AV)
  | .alloc t => (tab.get t).map fun ti => (True, env.h ++ [.cells t [zeroAV ti]], .ptr env.h.length t 0 0)
  | .box t x => match tab.get t, ev env x with
    | some ti, some v => some (okCells v ti.size, env.h ++ [.cells t [v]], .ptr env.h.length t 0 0)
    | _, _ => none
  | .store t p x => match ev env p, ev env x, tab.get t with
    | some (.ptr b e i off), some v, some ti => match env.h[b]?, tab.get e with
      | some (.cells e' xs), some te => some (e' = e ∧ i < xs.length ∧ off + ti.size ≤ te.size ∧ okCells v ti.size,
          env.h.set b (.cells e (xs.set i (putAV (ti.size == te.size) (xs.getD i .unk) off v))), .tup [])
      | _, _ => none
    | _, _, _ => none
  | .call { callee := .builtin .append, args := args, argTypes := ts } => match args.toList, ts.toList with
    | [s, x], [t, t2] => match slOf tab t, isSrc tab t2, ev env s, ev env x with
      | some e, true, some sv, some xv => match tab.get e with
        | some te => match srcOf e te.size env.h xv with
         | some (ob, ys) => appAV mu env.h e te.bytes sv ob ys
         | none => none
        | none => none
      | some e, false, some (.d .nilsl), some (.d (.int _ k)) => match tab.get e, tab.get t2 with
        | some te, some ⟨.int _, _, _, _⟩ => some (1 ≤ k ∧ k.toNat * te.bytes ≤ 140737488355328 ∧ 1 ≤ te.bytes ∧ 1 ≤ te.size, env.h ++ [.tail e 0], .gr env.h.length e k.toNat)
        | _, _ => none
      | _, _, _, _ => none
    | _, _ => none
  | .buildSlice t len parts => match slOf tab t with
    | some e => match tab.get e, partsAV env parts.toList with
      | some te, some ps => freshRow mu env.h e len (fillAV (List.replicate len (zeroAV te)) ps) (len * te.size ≤ 16777216 ∧ okParts len te.size ps)
      | _, _ => none
    | none => none
  | .makeMap _ none => some (True, env.h ++ [.map []], .map env.h.length)
  | .mapUpdate t m k x | .insert t m k x => match mapOf tab t, ev env m, ev env k, ev env x with
    | some (kt, _), some (.map b), some (.d kd), some v => match env.h[b]? with
      | some (.map es) => if keyOk tab kt kd then (mapPut kd v es).map fun es' => (True, env.h.set b (.map es'), .tup []) else none
      | _ => none
    | _, _, _, _ => none
  | .makeSlice t l c => match slOf tab t, (ev env l).bind asI, (ev env c).bind asI with
    | some e, some n, some k => match tab.get e with
      | some te => freshRow mu env.h e n.toNat (List.replicate n.toNat (zeroAV te)) (0 ≤ n ∧ n ≤ k ∧ te.bytes * k ≤ 281474976710656 ∧ k ≤ 9223372036854775807)
      | none => none
    | _, _, _ => none
  | .move x => (ev env x).map fun v => (True, env.h, v.asData)
  | .convert s d x => match tab.get s, ev env x with
    | some ⟨.sl e, _, _, _⟩, some (.ref b e' off len) => match tab.get e, env.h[b]? with
      | some ⟨.int .u8, _, _, _⟩, some (.cells e'' xs) => match AV.allD xs with
        | some ds => some (s = d ∧ e' = e ∧ e'' = e ∧ off = 0 ∧ len = ds.length ∧ 0 < len, env.h.set b .gone, .d (.sl e ds))
        | none => none
      | _, _ => none
    | _, _ => none
  | _ => none

/-! ### Soundness -/

/-- The values of the cells of a row of elements. -/
def ARow (sz : TypeId → Nat) (F : Frz) (ρ : Env0) (n : Nat) (e : TypeId) (xs : List AV) (vs : List Value) : Prop :=
  vs.length = xs.length * sz e ∧ ∀ (i : Nat) (x : AV), xs[i]? = some x → x.cells.length = sz e ∧ ∀ (k : Nat) (y : AV), x.cells[k]? = some y → ∃ v, vs[i * sz e + k]? = some v ∧ VRel sz F ρ n y v ∧ v.oneCell' = true

theorem ARow.rows {e : TypeId} {ds : List D} {vs : List Value} (h : ARow sz F ρ n e (ds.map AV.d) vs) : (∀ x ∈ ds, x.cells.length = sz e) ∧ RowRep sz F (flatD ds) vs := by
  have hl : ∀ x ∈ ds, x.cells.length = sz e := fun x hx => by
    obtain ⟨i, hi⟩ := List.getElem?_of_mem hx
    have := (h.2 i (.d x) (by simp [hi])).1
    simpa [AV.cells] using this
  refine ⟨hl, by rw [h.1, flatD_length hl]; simp, fun j c hj => ?_⟩
  obtain ⟨i, k, x, h1, h2, rfl⟩ := flatD_back hl j c hj
  obtain ⟨v, h3, h4, h5⟩ := (h.2 i (.d x) (by simp [h1])).2 k (.d c) (by simp [AV.cells, h2])
  exact ⟨v, h3, h4.d_inv, h5⟩

theorem ARow.of_rows {e : TypeId} {ds : List D} {vs : List Value} (hl : ∀ x ∈ ds, x.cells.length = sz e) (h : RowRep sz F (flatD ds) vs) : ARow sz F ρ n e (ds.map AV.d) vs := by
  refine ⟨by rw [h.1, flatD_length hl]; simp, fun i x hi => ?_⟩
  simp only [List.getElem?_map, Option.map_eq_some_iff] at hi
  obtain ⟨d, hd, rfl⟩ := hi
  refine ⟨by simpa [AV.cells] using hl d (List.mem_of_getElem? hd), fun k y hk => ?_⟩
  simp only [AV.cells, List.getElem?_map, Option.map_eq_some_iff] at hk
  obtain ⟨c, hc, rfl⟩ := hk
  obtain ⟨v, h1, h2, h3⟩ := h.2 _ c (flatD_get hl i k d c hd hc)
  exact ⟨v, h1, .d h2, h3⟩

theorem St.drew (hst : St sz base w0 F ρ h w) : St sz base w0 F ρ h w.drew :=
  ⟨hst.frz, fun b x hx => (hst.blk b x hx).mono (Ext.refl _ _ _) rfl (Nat.le_refl _) (fun _ _ _ h => h) (fun _ _ _ _ => rfl), hst.dist, hst.old, hst.hb, hst.lt⟩

/-- A new block of elements that may be written. -/
theorem St.new_mut (hst : St sz base w0 F ρ h w) {e e0 : TypeId} {xs : List AV} {vs : List Value} {cs : Array Value} (hr : ARow sz F ρ h.length e xs vs) (hcs : ∀ (j : Nat) (v : Value), vs[j]? = some v → cs[j]? = some v) {N : Nat} (hN : xs.length ≤ N) (hsz : N * sz e = cs.size) (he : e0 = e) :
    St sz base w0 F (upd ρ h.length (.mt w.heap.size N)) (h ++ [.cells e xs]) (w.alloc (.cells cs e0)) := by
  refine hst.push (.inl rfl) (Frz.le_refl _) (fun _ _ => rfl) (fun y v hy hyb => ?_) (fun y v hy => by have := frz_lt hst hy; omega) ?_
  · have := frz_lt hst hy; omega
  · refine ⟨w.heap.size, N, cs, e0, upd_same _ _ _, hst.hb, heap_new _ _, fun y hy => ?_, ⟨hN, hsz, he⟩, fun i x hi => ?_⟩
    · cases hF : F y with
      | none => rfl
      | some v => have := frz_lt hst hF; omega
    · obtain ⟨h1, h2⟩ := hr.2 i x hi
      refine ⟨h1, fun k y hk => ?_⟩
      obtain ⟨v, h3, h4, h5⟩ := h2 k y hk
      exact ⟨v, hcs _ _ h3, h4.mono (Ext.upd _ _ _ _) (by omega), h5⟩

/-- A new row, as its maker wants it. -/
theorem fresh_sound (hst : St sz base w0 F ρ h w) {mu : Bool} {e e0 : TypeId} {k : Nat} {xs : List AV} {ob ob' : Prop} {h' : List Blk} {v : AV} (hf : freshRow mu h e k xs ob = some (ob', h', v)) {vs : List Value} {cs : Array Value} {cap : Nat}
    (hk : xs.length = k) (hr : ARow sz F ρ h.length e xs vs) (hcs : ∀ (j : Nat) (v : Value), vs[j]? = some v → cs[j]? = some v) (hcap : k ≤ cap) (hsz : cap * sz e = cs.size) (he : e0 = e) :
    ob' = ob ∧ ∃ F' ρ', Ext h.length F ρ F' ρ' ∧ St sz base w0 F' ρ' h' (w.alloc (.cells cs e0)) ∧ VRel sz F' ρ' h'.length v (.slice (some ⟨w.heap.size, 0, none⟩) k cap) ∧ h.length ≤ h'.length := by
  subst hk
  unfold freshRow at hf
  have hmul : xs.length * sz e ≤ cap * sz e := Nat.mul_le_mul_right _ hcap
  split at hf
  · simp only [Option.some.injEq, Prod.mk.injEq] at hf
    obtain ⟨rfl, rfl, rfl⟩ := hf
    refine ⟨rfl, F, _, Ext.upd _ _ _ _, hst.new_mut hr hcs hcap hsz he, ?_, by simp⟩
    refine .ref (by simp) (fun _ => ⟨_, rfl⟩) (fun B N hl => ?_) hcap
    rw [upd_same] at hl
    cases hl
    exact ⟨fun _ => by rw [Nat.zero_mul], by omega⟩
  · split at hf
    · rename_i ds hds
      simp only [Option.some.injEq, Prod.mk.injEq] at hf
      obtain ⟨rfl, rfl, rfl⟩ := hf
      have := AV.allD_some hds
      subst this
      obtain ⟨hl, hrr⟩ := hr.rows
      have hnb := hst.new_bld (e := e) (e0 := e0) hl hrr hcs (by simpa using hcap) hsz he
      simp only [List.length_map] at hnb ⊢
      exact ⟨trivial, _, _, hnb.1, hnb.2.1, by simpa using hnb.2.2, by simp⟩
    · simp at hf

theorem writeAll_fold (vs : List Value) : ∀ (c : Array Value) (o j : Nat), (vs.zipIdx j).foldl (fun cs (p : Value × Nat) => cs.setIfInBounds (o + p.2) p.1) c = writeAll c (o + j) vs := by
  induction vs with
  | nil => intro c o j; rfl
  | cons v vs ih => intro c o j; simp only [List.zipIdx_cons, List.foldl_cons, writeAll]; rw [ih]; rfl

theorem ARow.set {e : TypeId} {xs : List AV} {c : Array Value} {i : Nat} {v : AV} {cv : Value} (hr : ARow sz F ρ n e xs c.toList) (hi : i < xs.length) (hok : okCells v (sz e)) (hv : VRel sz F ρ n v cv) :
    ARow sz F ρ n e (xs.set i v) (writeAll c (i * sz e) cv.cells.toList).toList := by
  obtain ⟨hs, hc⟩ := cells_rel hv hok
  have hlc : cv.cells.toList.length = sz e := by simpa using hs
  have hcs : c.size = xs.length * sz e := by have := hr.1; simpa using this
  have hb : ∀ j, j < xs.length → j * sz e + sz e ≤ c.size := by
    intro j hj
    have : (j + 1) * sz e ≤ xs.length * sz e := Nat.mul_le_mul_right _ hj
    rw [Nat.add_mul] at this
    omega
  refine ⟨by simp only [Array.length_toList, writeAll_size, List.length_set]; exact hcs, fun j x hj => ?_⟩
  by_cases e1 : j = i
  · subst e1
    rw [List.getElem?_set_self hi] at hj
    cases hj
    refine ⟨hok.1, fun k y hk => ?_⟩
    obtain ⟨u, h1, h2, h3⟩ := hc k y hk
    have hkl : k < sz e := by have := (List.getElem?_eq_some_iff.mp hk).1; rw [hok.1] at this; exact this
    refine ⟨u, ?_, h2, h3⟩
    rw [Array.getElem?_toList, writeAll_get _ _ _ (by rw [hlc]; exact hb j hi), if_pos (by omega)]
    rw [show j * sz e + k - j * sz e = k from by omega]
    simpa using h1
  · rw [List.getElem?_set_ne (Ne.symm e1)] at hj
    obtain ⟨h1, h2⟩ := hr.2 j x hj
    refine ⟨h1, fun k y hk => ?_⟩
    obtain ⟨u, h3, h4, h5⟩ := h2 k y hk
    have hkl : k < sz e := by have := (List.getElem?_eq_some_iff.mp hk).1; rw [h1] at this; exact this
    refine ⟨u, ?_, h4, h5⟩
    rw [Array.getElem?_toList, writeAll_get _ _ _ (by rw [hlc]; exact hb i hi), if_neg, ← Array.getElem?_toList]
    · exact h3
    · intro hin
      rw [hlc] at hin
      rcases Nat.lt_or_gt_of_ne e1 with hlt | hgt
      · have : (j + 1) * sz e ≤ i * sz e := Nat.mul_le_mul_right _ hlt
        rw [Nat.add_mul] at this
        omega
      · have : (i + 1) * sz e ≤ j * sz e := Nat.mul_le_mul_right _ hgt
        rw [Nat.add_mul] at this
        omega

theorem fillAV_length {xs : List AV} {ps : List (Nat × AV)} : (fillAV xs ps).length = xs.length := by
  induction ps generalizing xs with
  | nil => rfl
  | cons p ps ih => obtain ⟨i, v⟩ := p; simp [fillAV, ih]

theorem fill_sound {e : TypeId} : ∀ {ps : List (Nat × AV)} {pvs : List (Nat × Value)} {xs : List AV} {c : Array Value}, ARow sz F ρ n e xs c.toList →
    pvs.length = ps.length → (∀ (j i : Nat) (v : AV), ps[j]? = some (i, v) → ∃ cv, pvs[j]? = some (i, cv) ∧ VRel sz F ρ n v cv) → (∀ p ∈ ps, p.1 < xs.length ∧ okCells p.2 (sz e)) →
    ∃ c', Instr.fill (fun i => some (i * sz e, sz e)) c pvs = some c' ∧ ARow sz F ρ n e (fillAV xs ps) c'.toList
  | [], [], xs, c, hr, _, _, _ => ⟨c, rfl, hr⟩
  | [], _ :: _, xs, c, hr, hl, _, _ => by simp at hl
  | _ :: _, [], xs, c, hr, hl, _, _ => by simp at hl
  | (i, v) :: ps, (i', cv) :: pvs, xs, c, hr, hl, hv, hok => by
    obtain ⟨cv', h1, h2⟩ := hv 0 i v rfl
    simp only [List.getElem?_cons_zero, Option.some.injEq, Prod.mk.injEq] at h1
    obtain ⟨rfl, rfl⟩ := h1
    obtain ⟨hi, hk⟩ := hok (i', v) (by simp)
    obtain ⟨hs, _⟩ := cells_rel h2 hk
    have hcs : c.size = xs.length * sz e := by have := hr.1; simpa using this
    have hb : i' * sz e + sz e ≤ c.size := by
      have : (i' + 1) * sz e ≤ xs.length * sz e := Nat.mul_le_mul_right _ hi
      rw [Nat.add_mul] at this
      omega
    obtain ⟨c', h3, h4⟩ := fill_sound (ps := ps) (pvs := pvs) (hr.set hi hk h2) (by simpa using hl) (fun j i v hj => by simpa using hv (j + 1) i v (by simpa using hj)) (fun p hp => by
      obtain ⟨h5, h6⟩ := hok p (by simp [hp])
      exact ⟨by simpa using h5, h6⟩)
    refine ⟨c', ?_, h4⟩
    simp only [Instr.fill]
    rw [if_neg (by simp only [hs, ne_eq, not_true_eq_false, decide_false, Bool.false_or, decide_eq_true_eq]; omega)]
    rw [← Array.foldl_toList, Array.toList_zipIdx]
    have := writeAll_fold cv.cells.toList c (i' * sz e) 0
    simp only [Nat.add_zero] at this
    rw [this]
    exact h3

theorem parts_sound {sz : TypeId → Nat} (hr : Rel sz base w0 m nt F ρ env a w) : ∀ {ps : List (Nat × Operand)} {vs : List (Nat × AV)}, partsAV env ps = some vs → vs.length = ps.length ∧
    ∀ (j i : Nat) (v : AV), vs[j]? = some (i, v) → ∃ cv, (ps.map fun p => (p.1, a.eval p.2))[j]? = some (i, cv) ∧ VRel sz F ρ env.h.length v cv
  | [], vs, h => by cases h; simp
  | (i, x) :: ps, vs, h => by
    simp only [partsAV] at h
    split at h
    · rename_i v vs' h1 h2
      cases h
      obtain ⟨h3, h4⟩ := parts_sound hr h2
      refine ⟨by simp [h3], fun j i' v' hj => ?_⟩
      cases j with
      | zero =>
        simp only [List.getElem?_cons_zero, Option.some.injEq, Prod.mk.injEq] at hj
        obtain ⟨rfl, rfl⟩ := hj
        exact ⟨a.eval x, by simp, ev_sound hr h1⟩
      | succ j => simpa using h4 j i' v' (by simpa using hj)
    · simp at h

/-- A row of zeros. -/
theorem zeros_row {t : TypeId} {ti : TI} (hg : ti.Good P t) {z : Value} (hz : z.cells.toList = ti.zero.map D.val) (hp : ∀ x ∈ ti.zero, x.plain = true) (k : Nat) :
    ARow (psz P) F ρ n t (List.replicate k (zeroAV ti)) ((Array.range (k * ti.size)).map (z.cells[· % z.cells.size]!)).toList := by
  have hzs : z.cells.size = ti.size := by rw [← Array.length_toList, hz]; simp [hg.zlen]
  have hzc : (zeroAV ti).cells = ti.zero.map AV.d := by
    unfold zeroAV
    cases hagg : ti.agg with
    | true => rfl
    | false =>
      have h1 := hg.one hagg
      rw [← hg.zlen] at h1
      match hzz : ti.zero with
      | [] => rw [hzz] at h1; simp at h1
      | [x] =>
        have hxp := hp x (by rw [hzz]; simp)
        simp only [Bool.false_eq_true, if_false, List.headD_cons, AV.cells]
        cases x <;> first | rfl | (simp [D.plain] at hxp)
      | _ :: _ :: _ => rw [hzz] at h1; simp at h1
  refine ⟨by simp [hg.psz], fun i x hi => ?_⟩
  rw [List.getElem?_replicate] at hi
  split at hi
  · rename_i hik
    cases hi
    rw [hzc]
    refine ⟨by simp [hg.psz, hg.zlen], fun j y hj => ?_⟩
    simp only [List.getElem?_map, Option.map_eq_some_iff] at hj
    obtain ⟨d, hd, rfl⟩ := hj
    have hjl : j < ti.size := by rw [← hg.zlen]; exact (List.getElem?_eq_some_iff.mp hd).1
    have hpl := hp d (List.mem_of_getElem? hd)
    refine ⟨d.val, ?_, .d (D.val_rep hpl), by cases d <;> first | rfl | (simp [D.plain] at hpl)⟩
    rw [hg.psz, Array.getElem?_toList]
    have hlt : i * ti.size + j < k * ti.size := by
      have : (i + 1) * ti.size ≤ k * ti.size := Nat.mul_le_mul_right _ hik
      rw [Nat.add_mul] at this
      omega
    have hm : (i * ti.size + j) % z.cells.size = j := by rw [hzs, Nat.mul_comm, Nat.mul_add_mod, Nat.mod_eq_of_lt hjl]
    rw [Array.getElem?_map]
    simp only [Array.getElem?_range, hlt, if_true, Option.map_some, hm]
    have : z.cells[j]? = some d.val := by
      have : z.cells.toList[j]? = some d.val := by rw [hz]; simp [hd]
      simpa using this
    rw [getElem!_def, this]
  · cases hi

end Go.Vm
