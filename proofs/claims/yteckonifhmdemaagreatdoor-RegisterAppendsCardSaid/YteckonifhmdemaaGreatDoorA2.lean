/-
  the evaluator of the model: its code, calls and rounds; what it answers, the program does.
-/
import Derived.Laws.IdiomStrings
import Derived.Scope
import Derived.RangeFuncNested
import Derived.OrdersIn
import Derived.Lib.Strings
import Derived.Test.YteckonifhmdemaaGreatDoorA1
set_option linter.all false
/-
  Conversions, make, copy.
-/
set_option linter.unusedSimpArgs false
set_option linter.unusedVariables false
namespace Go.Pv
open Go

theorem numsOf_rows : ∀ {xs : List (List V)} {ns : List Int}, numsOf xs = some ns → xs = ns.map fun n => [V.sc (.int .u8 n)]
  | [], ns, h => by simp only [numsOf, Option.some.injEq] at h; subst h; rfl
  | x :: xs, ns, h => by
    unfold numsOf at h
    split at h
    · rename_i h1; simp at h1
    · rename_i n r h1
      simp only [List.cons.injEq] at h1
      obtain ⟨rfl, rfl⟩ := h1
      cases e : numsOf xs with
      | none => rw [e] at h; simp at h
      | some l =>
        rw [e] at h; simp only [Option.map_some, Option.some.injEq] at h; subst h
        rw [numsOf_rows e]; rfl
    · simp at h

theorem bytesV_length (s : ByteArray) : (bytesV s).length = s.size := by rw [show s.size = s.data.size from rfl]; simp [bytesV]
theorem bytes_rowsIn (ι : Nat → Nat → Option Value) (s : ByteArray) (cap : Nat) : RowsIn ι 1 (bytesV s) (bytesRow s cap) := by
  refine ⟨fun x hx => by simp [bytesV] at hx; obtain ⟨c, _, rfl⟩ := hx; rfl, fun i k x y hx hy => ?_⟩
  simp only [bytesV, List.getElem?_map] at hx
  cases hb : s.data.toList[i]? with
  | none => rw [hb] at hx; simp at hx
  | some c =>
    rw [hb] at hx; simp only [Option.map_some, Option.some.injEq] at hx; subst hx
    have hk : k = 0 := by have := (List.getElem?_eq_some_iff.1 hy).1; simpa using this
    subst hk; simp at hy; subst hy
    refine ⟨.int .u8 c.toNat, ?_, .sc _ rfl⟩
    have hb' : s.data[i]? = some c := by rw [← Array.getElem?_toList]; exact hb
    have hlt : i < s.data.size := (Array.getElem?_eq_some_iff.1 hb').1
    rw [bytesRow, Array.getElem?_append_left (by simpa using hlt)]
    simp [hb']

theorem toBytes_ok {P : Program} {src dst el : TypeId} (hs : P.underlying src = some .string) (hd : P.underlying dst = some (.slice el)) (he : P.underlying el = some (.int .u8)) {s : ByteArray} {own : Bool} {v : V} {is is' : List Nat} {h h' : H}
    (e : (if own = true then HP.new (.arr 0 0 1 (bytesV s)) fun id => .ret (.sl id 0 1 0 s.size) else HP.new (.tail el s.size) fun id => .ret (.list 1 (bytesV s) (.tail id))).runAt is h = some (v, is', h')) {Δ : WT} {w : World} (inv : Inv Δ h w) :
    SemOk P (convert src dst (.string s)) Δ h w v h' := by
  have hrun := run_bytes_of_string (P := P) w src dst el s hs hd he
  have hcap : s.size ≤ grownCap w s.size 0 el := by simp [grownCap, Question.cut]
  have hsz : (bytesRow s (grownCap w s.size 0 el)).size = grownCap w s.size 0 el * 1 := by
    have : s.size = s.data.size := rfl
    simp only [bytesRow, Array.size_append, Array.size_map, Array.size_replicate]; omega
  have hfr : FrOk ((bytesRow s (grownCap w s.size 0 el)).size, (bytesRow s (grownCap w s.size 0 el)).size + 1) (bytesRow s (grownCap w s.size 0 el)).size := by
    intro o ho; simp; omega
  have hR := bytes_rowsIn Δ.ι s (grownCap w s.size 0 el)
  split at e
  · obtain ⟨i, is1, rfl, hp, e⟩ := runAt_new e
    obtain ⟨rfl, rfl, rfl⟩ := runAt_ret e
    have hν := inv.ν_pad hp
    obtain ⟨Δ', i1, i2, i3⟩ := alloc_arr inv.drew (lt_of_get hp) 0 0 1 (bytesV s) _ _ el hfr hR hsz (by rw [bytesV_length]; exact hcap) (by omega)
    rw [bytesV_length] at i3
    exact ⟨_, _, Δ', hrun, i1, (Step.drew Δ h w).trans i2, i3⟩
  · obtain ⟨i, is1, rfl, hp, e⟩ := runAt_new e
    obtain ⟨rfl, rfl, rfl⟩ := runAt_ret e
    have hν := inv.ν_pad hp
    obtain ⟨Δ', i1, i2, i3⟩ := alloc_tail inv.drew (lt_of_get hp) 1 (bytesV s) _ _ el hfr hR hsz (by rw [bytesV_length]; exact hcap) (by omega)
    rw [bytesV_length] at i1 i2 i3
    exact ⟨_, _, Δ', hrun, i1, (Step.drew Δ h w).trans i2, i3⟩

theorem toString_ok {P : Program} {src dst el : TypeId} (hs : P.underlying src = some (.slice el)) (hd : P.underlying dst = some .string) (he : P.underlying el = some (.int .u8)) {x : V} (hx' : ∀ s, x ≠ .sc (.string s)) {v : V} {is is' : List Nat} {h h' : H}
    (e : ((rowsOf x).bind fun xs => match numsOf xs with | some l => .ret (.sc (.string (strOfNums l))) | none => HP.fail).runAt is h = some (v, is', h')) {Δ : WT} {w : World} (inv : Inv Δ h w) {xv : Value} (hx : Rep Δ x xv) :
    is' = is ∧ SemOk P (convert src dst xv) Δ h w v h' := by
  obtain ⟨xs, is1, h1, e1, e2⟩ := runAt_bind_inv e
  split at e2
  · rename_i ns hns
    obtain ⟨rfl, rfl, rfl⟩ := runAt_ret e2
    have hxs := numsOf_rows hns
    obtain ⟨rfl, rfl, hl, arr, ha, hR, _, hf⟩ := rowsOf_sound (P := P) (sz := 1) e1 inv hx (fun y hy => by rw [hxs] at hy; simp at hy; obtain ⟨n, _, rfl⟩ := hy; rfl)
    have hlen : xs.length = ns.length := by rw [hxs]; simp
    have harr : arr = (ns.map (Value.int .u8)).toArray := by
      apply Array.ext_getElem?
      intro i
      by_cases hi : i < ns.length
      · have hx0 : xs[i]? = some [V.sc (.int .u8 ns[i])] := by rw [hxs]; simp [hi]
        obtain ⟨v, hv, hr⟩ := hR.2 i 0 _ _ hx0 rfl
        rw [Nat.mul_one, Nat.add_zero] at hv
        cases hr
        rw [hv]; simp [hi]
      · rw [Array.getElem?_eq_none (by omega), Array.getElem?_eq_none (by simp; omega)]
    have hslice : ∃ a len cap, xv = .slice a len cap := by
      unfold rowsOf at e1
      split at e1
      · cases hx with
        | list _ _ _ _ hd ht => obtain ⟨a, cap, b, o, rfl, _⟩ := hd.list_inv; exact ⟨_, _, _, rfl⟩
      · cases hx; exact ⟨_, _, _, rfl⟩
      · cases hx; exact ⟨_, _, _, rfl⟩
      · exact absurd rfl (hx' _)
      · exact (runAt_fail e1).elim
    obtain ⟨a, len, cap, rfl⟩ := hslice
    have hl0 := hl w
    simp only [Builtin.lenOf, Sem.run_pure, Result.ok.injEq, and_true] at hl0
    subst hl0
    refine ⟨rfl, .pure inv (val := .string (strOfNums ns)) ?_ (.sc _)⟩
    rw [run_convert_bytes_string w src dst el a xs.length cap hs he hd]
    have hf0 := hf w rfl
    cases a with
    | none =>
      simp only [Builtin.firstCells, Sem.run_pure, Result.ok.injEq, and_true] at hf0
      subst hf0
      have hn0 : ns = [] := by
        have h := congrArg Array.size harr
        simp at h
        exact List.eq_nil_of_length_eq_zero h.symm
      subst hn0
      simp [Conv.bytesToString, strOfNums]; rfl
    | some a =>
      simp only [Builtin.firstCells, Nat.mul_one] at hf0
      rw [harr] at hf0
      rw [run_bytesToString w a xs.length cap ns hf0, foldl_push_bytes]
      simp [strOfNums, ByteArray.empty, ByteArray.emptyWithCapacity]
      rfl
  · exact (runAt_fail e2).elim

/-- An array's bytes. -/
theorem arrString_ok {P : Program} {src dst el : TypeId} (hs : P.underlying src = some (.slice el)) (hd : P.underlying dst = some .string) (he : P.underlying el = some (.int .u8)) {id off len : Nat} {bt : TypeId} {c : List V} {l : List Int} {Δ : WT} {h : H} {w : World} (inv : Inv Δ h w)
    (ho : h[id]? = some (.cells bt c)) (hn : numsOf (((c.drop off).take len).map ([·])) = some l) (hl : l.length = len) {xv : Value} (hx : Rep Δ (.csl id off len) xv) : SemOk P (convert src dst xv) Δ h w (.sc (.string (strOfNums l))) h := by
  cases hx with
  | csl _ _ _ b cap hp hc =>
    obtain ⟨hν, b', hμ, hB, hcell, _⟩ := inv.ob id _ ho
    have hb := hp.μ hν
    rw [hμ] at hb; cases hb
    have hrows := numsOf_rows hn
    refine .pure inv (val := .string (strOfNums l)) ?_ (.sc _)
    refine run_convert_bytes_arg w src el hs he b off len cap l hl (fun i hi => ?_) dst hd
    have h1 : (((c.drop off).take len).map ([·]))[i]? = some [V.sc (.int .u8 l[i])] := by rw [hrows]; simp [show i < l.length by omega]
    rw [List.getElem?_map] at h1
    cases h2 : ((c.drop off).take len)[i]? with
    | none => rw [h2] at h1; simp at h1
    | some y =>
      rw [h2] at h1; simp only [Option.map_some, Option.some.injEq, List.cons.injEq, and_true] at h1
      rw [List.getElem?_take, if_pos hi, List.getElem?_drop] at h2
      obtain ⟨v, hv, hr⟩ := hcell _ y h2
      subst h1
      cases hr
      rw [show (⟨b, off + i, none⟩ : Addr) = at_ b (off + i) from rfl, hv]
      simp [List.getD_eq_getElem?_getD, show i < l.length by omega]

theorem zeros_rowsIn {P : Program} {el : TypeId} {z : List V} {v : Value} (ι : Nat → Nat → Option Value) (hz : z = v.cells.toList.map .sc) (hd : z.all isD = true) (n : Nat) : RowsIn ι z.length (List.replicate n z) ((Array.range (n * v.cells.size)).map (v.cells[· % v.cells.size]!)) := by
  have hlen : z.length = v.cells.size := by simp [hz]
  refine ⟨fun x hx => by rw [(List.mem_replicate.1 hx).2], fun i k x y hx hy => ?_⟩
  have hx' : x = z := (List.mem_replicate.1 (List.mem_of_getElem? hx)).2
  have hi : i < n := by have := (List.getElem?_eq_some_iff.1 hx).1; simpa using this
  subst hx'
  have hk : k < x.length := (List.getElem?_eq_some_iff.1 hy).1
  have hmul : (i + 1) * x.length ≤ n * x.length := Nat.mul_le_mul_right _ hi
  rw [Nat.add_mul] at hmul
  have hlt : i * x.length + k < n * v.cells.size := by rw [← hlen]; omega
  have hmod : (i * x.length + k) % v.cells.size = k := by rw [← hlen, Nat.mul_comm, Nat.mul_add_mod]; exact Nat.mod_eq_of_lt hk
  have hkv : k < v.cells.size := by omega
  have hy' : x[k]? = some (.sc v.cells[k]) := by rw [hz]; simp [hkv]
  rw [hy'] at hy; cases hy
  refine ⟨v.cells[k], ?_, .sc _ ?_⟩
  · simp only [Array.getElem?_map, Array.getElem?_range, hlt, if_true, Option.map_some, hmod]
    simp [hkv]
  · have := List.all_eq_true.1 hd (.sc v.cells[k]) (List.mem_of_getElem? hy')
    simpa [isD] using this

theorem makeSlice_ok {P : Program} {t el : TypeId} (hu : P.underlying t = some (.slice el)) {z : List V} (hz : zeroV P el = some z) {n : Int} (h0 : 0 ≤ n) (hs : sizeOk P el n.toNat = true) (hd : z.all isD = true) {v : V} {is is' : List Nat} {h h' : H} {k k' : IntKind}
    (e : (HP.new (.arr 0 0 (P.cellsOf el) (List.replicate n.toNat z)) fun id => .ret (.sl id 0 (P.cellsOf el) 0 n.toNat)).runAt is h = some (v, is', h')) {Δ : WT} {w : World} (inv : Inv Δ h w) :
    SemOk P (Instr.makeSlice t (.int k n) (.int k' n)) Δ h w v h' := by
  obtain ⟨hel, hlim⟩ := sizeOk_inv hs
  obtain ⟨i, zv, hi, hzv, hzs, hb⟩ := elOk_info hel
  obtain ⟨i', zv', hi', hzv', rfl⟩ := zeroV_some hz
  rw [hi] at hi'; cases hi'
  rw [hzv] at hzv'; cases hzv'
  have hzl : (zv.cells.toList.map V.sc).length = P.cellsOf el := by simpa using hzs
  unfold lim at hlim
  have hb' : i.bytes ≤ 4096 := by simpa [Program.bytesOf, hi] using hb
  have hw : IntKind.i64.wrap n = n := by
    have e1 : ((2 : Int) ^ IntKind.i64.bits) = 18446744073709551616 := by decide
    have e2 : ((2 : Int) ^ (IntKind.i64.bits - 1)) = 9223372036854775808 := by decide
    simp only [IntKind.wrap, e1, e2, IntKind.signed, Bool.true_and, decide_eq_true_eq]
    split <;> omega
  have hbig : ¬ ((i.bytes : Int) * n > 2 ^ 48) := by
    have h1 : (i.bytes : Int) * n ≤ 4096 * 4294967296 := by
      have h2 : (i.bytes : Int) ≤ 4096 := by omega
      have h3 : n ≤ 4294967296 := by omega
      exact Int.mul_le_mul h2 h3 h0 (by omega)
    omega
  obtain ⟨j, is1, rfl, hp, e⟩ := runAt_new e
  obtain ⟨rfl, rfl, rfl⟩ := runAt_ret e
  have hν := inv.ν_pad hp
  have hR := zeros_rowsIn (P := P) (el := el) Δ.ι rfl hd n.toNat
  rw [hzl] at hR
  obtain ⟨Δ', i1, i2, i3⟩ := alloc_arr inv (lt_of_get hp) 0 0 (P.cellsOf el) (List.replicate n.toNat (zv.cells.toList.map V.sc)) n.toNat ((Array.range (n.toNat * zv.cells.size)).map (zv.cells[· % zv.cells.size]!)) el (FrOk.zero _) hR (by simp [hzs]) (by simp) (by omega)
  rw [List.length_replicate] at i3
  refine ⟨_, _, Δ', ?_, i1, i2, i3⟩
  have hneg : ¬ n < 0 := by omega
  simp only [Instr.makeSlice, Sem.run_bind, run_underlying hu, Result.andThen_ok, asInt, asIntOf, Sem.run_pure, run_typeInfo hi, hw]
  rw [if_neg (by simp [hneg]; omega)]
  simp only [Sem.run_bind, run_askRoom, Result.andThen_ok, run_sizeOf hi, Sem.run_pure]
  by_cases hz0 : n.toNat * P.cellsOf el = 0
  · rw [if_pos hz0]
    simp only [Sem.run_pure, Result.andThen_ok, Sem.run_bind, newRow, run_newObj]
    have e1 : Array.range (n.toNat * P.cellsOf el) = #[] := by rw [hz0]; rfl
    have e2 : Array.range (n.toNat * zv.cells.size) = #[] := by rw [hzs, hz0]; rfl
    simp only [e1, e2, Array.map_empty]
    rfl
  · rw [if_neg hz0]
    simp only [Sem.run_bind, run_zeroValue hi hzv, Result.andThen_ok, Sem.run_pure, newRow, run_newObj, hzs]
    rfl
end Go.Pv
/-
  One operation, whole.
-/
set_option linter.unusedSimpArgs false
set_option linter.unusedVariables false
namespace Go.Pv
open Go

theorem binOpV_ok {P : Program} {op : BinOp} {t : TypeId} {x y : Operand} {p q v : V} {is is' : List Nat} {h h' : H} (e : (binOpV P op t x y p q).runAt is h = some (v, is', h')) {Δ : WT} {w : World} (inv : Inv Δ h w) {pv qv : Value} (hp : Rep Δ p pv) (hq : Rep Δ q qv) :
    SemOk P (do eqGuard op t x y pv qv; binOp op t pv qv) Δ h w v h' := by
  unfold binOpV at e
  split at e
  · rename_i u u' h1 h2
    have a := toVal_rep hp h1
    have b := toVal_rep hq h2
    subst a b
    exact (pureV_ok e inv).2
  · exact (runAt_fail e).elim
theorem unOpV_ok {P : Program} {op : UnOp} {p v : V} {is is' : List Nat} {h h' : H} (e : (unOpV P op p).runAt is h = some (v, is', h')) {Δ : WT} {w : World} (inv : Inv Δ h w) {pv : Value} (hp : Rep Δ p pv) : SemOk P (Op.unary op pv) Δ h w v h' := by
  unfold unOpV at e
  split at e
  · rename_i u h1
    have a := toVal_rep hp h1
    subst a
    exact (pureV_ok e inv).2
  · exact (runAt_fail e).elim

theorem fieldV_ok {P : Program} {t : TypeId} {f : Nat} {x v : V} {is is' : List Nat} {h h' : H} (e : (fieldV P t x f).runAt is h = some (v, is', h')) {Δ : WT} {w : World} (inv : Inv Δ h w) {xv : Value} (hx : Rep Δ x xv) : SemOk P (Instr.field t xv f) Δ h w v h' := by
  unfold fieldV at e
  split at e
  case h_2 => exact (runAt_fail e).elim
  rename_i cs
  split at e
  case h_2 => exact (runAt_fail e).elim
  rename_i fs hu
  split at e
  case h_2 => exact (runAt_fail e).elim
  rename_i fd hf
  split at e
  case isFalse => exact (runAt_fail e).elim
  rename_i hsome
  cases hx with
  | agg _ vs hn hh =>
    obtain ⟨d, hd⟩ := Option.isSome_iff_exists.1 hsome
    obtain ⟨i, hi⟩ := info_of_underlying hd
    split at e
    · rename_i ha
      obtain ⟨rfl, rfl, rfl⟩ := runAt_ret e
      refine .pure inv (val := .agg (vs.extract fd.offset (fd.offset + P.cellsOf fd.type))) ?_ ?_
      · simp only [Instr.field, Sem.run_bind, run_underlying hu, Result.andThen_ok, hf, asAgg, Sem.run_pure, part, run_isAgg hsome, ha, if_true, run_sizeOf hi]
      · refine .agg _ _ ?_ (fun j y u hy hu => ?_)
        · simp [hn]; omega
        · rw [List.getElem?_take] at hy
          split at hy
          · rename_i hj
            rw [List.getElem?_drop] at hy
            rw [Array.getElem?_extract] at hu
            split at hu
            · exact hh _ y u hy hu
            · simp at hu
          · simp at hy
    · rename_i ha
      obtain ⟨hv, rfl, rfl⟩ := runAt_opt e
      have hlt : fd.offset < vs.size := by rw [hn]; exact (List.getElem?_eq_some_iff.1 hv).1
      refine .pure inv (val := vs[fd.offset]) ?_ (hh _ v _ hv (by simp [hlt]))
      simp only [Bool.not_eq_true] at ha
      simp only [Instr.field, Sem.run_bind, run_underlying hu, Result.andThen_ok, hf, asAgg, Sem.run_pure, part, run_isAgg hsome, ha, Bool.false_eq_true, if_false]
      simp [hlt]

theorem buildV_ok {P : Program} {t : TypeId} {ps : List (Nat × V)} {v : V} {is is' : List Nat} {h h' : H} (e : (buildV P t ps).runAt is h = some (v, is', h')) {Δ : WT} {w : World} (inv : Inv Δ h w) {qs : Array (Nat × Value)} (hp : PartsRep Δ ps qs.toList) : SemOk P (Instr.build t qs) Δ h w v h' := by
  unfold buildV at e
  split at e
  case h_2 => exact (runAt_fail e).elim
  rename_i z hz
  split at e
  · rename_i pl hpl
    obtain ⟨hv, rfl, rfl⟩ := runAt_opt e
    cases hf : fillV (pl[·]?) z ps with
    | none => rw [hf] at hv; simp at hv
    | some r => rw [hf] at hv; simp only [Option.map_some, Option.some.injEq] at hv; subst hv; exact build_struct_ok hz hpl hf inv hp
  · split at e
    · rename_i n el hu
      split at e
      · rename_i hi
        obtain ⟨i, hi⟩ := Option.isSome_iff_exists.1 hi
        obtain ⟨hv, rfl, rfl⟩ := runAt_opt e
        cases hf : fillV (fun i => some (i * P.cellsOf el, P.cellsOf el)) z ps with
        | none => rw [hf] at hv; simp at hv
        | some r => rw [hf] at hv; simp only [Option.map_some, Option.some.injEq] at hv; subst hv; exact build_array_ok hz hu hi hf inv hp
      · exact (runAt_fail e).elim
    · exact (runAt_fail e).elim

theorem buildSliceV_ok {P : Program} {own : Bool} {t : TypeId} {len : Nat} {ps : List (Nat × V)} {v : V} {is is' : List Nat} {h h' : H} (e : (buildSliceV P own t len ps).runAt is h = some (v, is', h')) {Δ : WT} {w : World} (inv : Inv Δ h w) {qs : Array (Nat × Value)} (hp : PartsRep Δ ps qs.toList) :
    SemOk P (Instr.buildSlice t len qs) Δ h w v h' := by
  unfold buildSliceV at e
  split at e
  case h_2 => exact (runAt_fail e).elim
  rename_i el hu
  split at e
  case h_2 => exact (runAt_fail e).elim
  rename_i z hz
  split at e
  case isFalse => exact (runAt_fail e).elim
  rename_i hk
  obtain ⟨hlim, hel⟩ := hk
  obtain ⟨i, zv, hi, hzv, hzs, hb⟩ := elOk_info hel
  obtain ⟨i', zv', hi', hzv', rfl⟩ := zeroV_some hz
  rw [hi] at hi'; cases hi'
  rw [hzv] at hzv'; cases hzv'
  have hzl : (zv.cells.toList.map V.sc).length = P.cellsOf el := by simpa using hzs
  split at e
  case h_2 => exact (runAt_fail e).elim
  rename_i cs hf
  have hzr : RepL Δ (List.replicate len (zv.cells.toList.map V.sc)).flatten ((Array.range (len * zv.cells.size)).map (zv.cells[· % zv.cells.size]!)).toList := zeros_rep (P := P) (el := el) Δ rfl len
  obtain ⟨arr, hfill, hr⟩ := fill_sound ps qs.toList _ _ cs hf hp hzr
  obtain ⟨cs1, is1, h1, e1, e2⟩ := runAt_bind_inv e
  obtain ⟨rfl, Δ1, inv1, st1, hr1⟩ := normCells_sound _ _ _ e1 inv hr
  have hcl : cs.length = len * P.cellsOf el := by
    have key : ∀ (ps : List (Nat × V)) (c r : List V), fillV (fun i => some (i * P.cellsOf el, P.cellsOf el)) c ps = some r → r.length = c.length := by
      intro ps
      induction ps with
      | nil => intro c r e; simp only [fillV, Option.some.injEq] at e; rw [e]
      | cons p ps ih =>
        intro c r e
        obtain ⟨i, x⟩ := p
        cases hc : csOf x with
        | none => simp [fillV, hc] at e
        | some cx =>
          simp only [fillV, hc] at e
          split at e
          · cases ep : putAt c (i * P.cellsOf el) cx with
            | none => rw [ep] at e; simp at e
            | some d =>
              rw [ep] at e; simp only [Option.bind_some] at e
              rw [ih d r e, (putAt_some ep).2.1]
          · simp at e
    rw [key ps _ cs hf]
    simp [List.length_flatten, hzs]
  have hlen1 : cs1.length = len * P.cellsOf el := by
    have a := hr1.1
    have b := hr.1
    omega
  have harr : arr.size = len * P.cellsOf el := by have := hr.1; simp at this; omega
  have hsem : ∀ b : World, (Instr.buildSlice t len qs).run P w = .ok (.slice (some (at_ w.heap.size 0)) len len) (w.alloc (.cells arr el)) := by
    intro _
    have hlim' : ¬ len * P.cellsOf el > 2 ^ 24 := by omega
    simp only [Instr.buildSlice, Sem.run_bind, run_underlying hu, Result.andThen_ok, run_sizeOf hi]
    rw [if_neg hlim']
    by_cases hz0 : len * P.cellsOf el = 0
    · rw [if_pos hz0]
      have e1 : Array.range (len * P.cellsOf el) = #[] := by rw [hz0]; rfl
      have e2 : Array.range (len * zv.cells.size) = #[] := by rw [hzs, hz0]; rfl
      simp only [e2, Array.map_empty] at hfill
      simp only [Sem.run_pure, Result.andThen_ok, e1, Array.map_empty, hfill, newRow, Sem.run_bind, run_newObj]
      rfl
    · rw [if_neg hz0]
      rw [hzs] at hfill
      simp only [Sem.run_bind, run_zeroValue hi hzv, Result.andThen_ok, Sem.run_pure]
      rw [hzs]
      simp only [hfill, newRow, Sem.run_bind, run_newObj, Result.andThen_ok, Sem.run_pure]
      rfl
  split at e2
  case isFalse => exact (runAt_fail e2).elim
  rename_i hd
  have hR := rowsIn_by hlen1 hr1 hd
  obtain ⟨g1, g2, g3⟩ := rowsBy_get (P.cellsOf el) len cs1 hlen1
  split at e2
  · obtain ⟨j, is2, rfl, hpd, e3⟩ := runAt_new e2
    obtain ⟨rfl, rfl, rfl⟩ := runAt_ret e3
    have hν := inv1.ν_pad hpd
    obtain ⟨Δ', i1, i2, i3⟩ := alloc_arr inv1 (lt_of_get hpd) 0 0 (P.cellsOf el) (rowsBy (P.cellsOf el) len cs1) len arr el (FrOk.zero _) hR harr (by omega) (by omega)
    rw [g2] at i3
    exact ⟨_, _, Δ', hsem w, i1, st1.trans i2, i3⟩
  · obtain ⟨rfl, rfl, rfl⟩ := runAt_ret e2
    obtain ⟨Δ', i1, i2, i3⟩ := alloc_rows inv1 (P.cellsOf el) (rowsBy (P.cellsOf el) len cs1) arr el hR (by rw [harr, g2])
    rw [g2] at i3
    exact ⟨_, _, Δ', hsem w, i1, st1.trans i2, i3⟩

theorem sliceOp_ok {P : Program} {t : TypeId} {x v : V} {lo hi : Option V} {is is' : List Nat} {h h' : H} (e : (sliceOp P t x lo hi).runAt is h = some (v, is', h')) {Δ : WT} {w : World} (inv : Inv Δ h w) {xv : Value} {ul uh : Option Value} (hx : Rep Δ x xv)
    (rl : ∀ x, lo = some x → ∃ y, ul = some y ∧ Rep Δ x y) (nl : lo = none → ul = none) (rh : ∀ x, hi = some x → ∃ y, uh = some y ∧ Rep Δ x y) (nh : hi = none → uh = none) : SemOk P (Instr.sliceAt t xv ul uh none) Δ h w v h' := by
  have opt : ∀ {o : Option V} {u : Option Value} {r : Option Value}, optVal o = some r → (∀ x, o = some x → ∃ y, u = some y ∧ Rep Δ x y) → (o = none → u = none) → u = r := by
    intro o u r ho h1 h2
    cases o with
    | none => simp only [optVal, Option.some.injEq] at ho; rw [h2 rfl, ho]
    | some x =>
      obtain ⟨y, rfl, hy⟩ := h1 x rfl
      simp only [optVal] at ho
      split at ho
      · rename_i u hu
        have := toVal_rep hy hu
        subst this
        simpa using ho
      · simp at ho
  unfold sliceOp at e
  split at e
  · split at e
    · rename_i l r h1 h2
      have a := opt h1 rl nl
      have b := opt h2 rh nh
      subst a b
      cases hx
      exact (pureV_ok e inv).2
    · exact (runAt_fail e).elim
  · obtain ⟨hq, rfl, rfl⟩ := runAt_opt e
    exact sliceV_ok hq inv hx rl nl rh nh

theorem isU8_inv {P : Program} {el : TypeId} (h : isU8 P el = true) : P.underlying el = some (.int .u8) := by
  unfold isU8 at h
  split at h
  · assumption
  · simp at h
theorem convertV_ok {P : Program} {own : Bool} {src dst : TypeId} {x v : V} {is is' : List Nat} {h h' : H} (e : (convertV P own src dst x).runAt is h = some (v, is', h')) {Δ : WT} {w : World} (inv : Inv Δ h w) {xv : Value} (hx : Rep Δ x xv) : SemOk P (convert src dst xv) Δ h w v h' := by
  unfold convertV at e
  split at e
  · rename_i el hs hd
    split at e
    · cases hx
      unfold toBytesV at e
      split at e
      · rename_i hk
        exact toBytes_ok hs hd (isU8_inv hk.2.2) e inv
      · exact (runAt_fail e).elim
    · exact (runAt_fail e).elim
  · rename_i el hs hd
    unfold toStringV at e
    split at e
    · rename_i hk
      split at e
      · rename_i id off len
        obtain ⟨ob, ho, e1⟩ := runAt_get e
        split at e1
        · split at e1
          · rename_i c l hn
            split at e1
            · rename_i hl
              obtain ⟨rfl, rfl, rfl⟩ := runAt_ret e1
              exact arrString_ok hs hd (isU8_inv hk) inv ho hn hl hx
            · exact (runAt_fail e1).elim
          · exact (runAt_fail e1).elim
        · exact (runAt_fail e1).elim
      · exact (runAt_fail e).elim
      · rename_i hne
        exact (toString_ok hs hd (isU8_inv hk) (fun s k => hne s k) e inv hx).2
    · exact (runAt_fail e).elim
  · split at e
    · rename_i u hu
      have := toVal_rep hx hu
      subst this
      exact (pureV_ok e inv).2
    · exact (runAt_fail e).elim
end Go.Pv
/-
  Maps.
-/
set_option linter.unusedSimpArgs false
set_option linter.unusedVariables false
namespace Go.Pv
open Go Go.MapKept

theorem isKey_of {d : TypeDesc} {k : Value} (h : keyOk d k = true) : IsKey d k := by
  cases d <;> cases k <;> simp_all [keyOk, IsKey]
theorem keyEq_iff {d : TypeDesc} {a b : Value} (ha : keyOk d a = true) (hb : keyOk d b = true) : keyEq a b = true ↔ a = b := by
  cases d <;> cases a <;> cases b <;> simp_all [keyOk, keyEq, bytes_beq]
theorem keyDesc_some {P : Program} {t et : TypeId} {d : TypeDesc} (h : keyDesc P t = some (d, et)) : ∃ kt, P.underlying t = some (.map kt et) ∧ P.underlying kt = some d := by
  unfold keyDesc at h
  split at h
  · rename_i kt et' hu
    cases hk : P.underlying kt with
    | none => rw [hk] at h; simp at h
    | some d' => rw [hk] at h; simp at h; obtain ⟨rfl, rfl⟩ := h; exact ⟨kt, hu, hk⟩
  · simp at h

theorem findE_some {d : TypeDesc} {k : Value} (hk : keyOk d k = true) : ∀ {es : List (Value × V)} {x : V}, (∀ e ∈ es, keyOk d e.1 = true) → findE k es = some x → (k, x) ∈ es
  | [], x, _, h => by simp [findE] at h
  | e :: es, x, hes, h => by
    simp only [findE] at h
    split at h
    · rename_i he
      have := (keyEq_iff hk (hes e (by simp))).1 he
      simp at h; subst h; subst this; exact List.mem_cons_self
    · exact List.mem_cons_of_mem _ (findE_some hk (fun e he => hes e (List.mem_cons_of_mem _ he)) h)
theorem findE_none {d : TypeDesc} {k : Value} (hk : keyOk d k = true) : ∀ {es : List (Value × V)}, (∀ e ∈ es, keyOk d e.1 = true) → findE k es = none → ∀ x, (k, x) ∉ es
  | [], _, _, x => by simp
  | e :: es, hes, h, x => by
    simp only [findE] at h
    split at h
    · simp at h
    · rename_i he
      intro hm
      rcases List.mem_cons.1 hm with rfl | hm
      · exact he ((keyEq_iff hk (hes _ (by simp))).2 rfl)
      · exact findE_none hk (fun e he => hes e (List.mem_cons_of_mem _ he)) h x hm

/-- A map is laid. -/
theorem makeMap_ok {P : Program} {t : TypeId} {v : V} {is is' : List Nat} {h h' : H} (e : (HP.new (.map []) fun id => .ret (.mp id)).runAt is h = some (v, is', h')) {Δ : WT} {w : World} (inv : Inv Δ h w) :
    SemOk P (Instr.makeMap t none) Δ h w v h' := by
  obtain ⟨i, is1, rfl, hp, e⟩ := runAt_new e
  obtain ⟨rfl, rfl, rfl⟩ := runAt_ret e
  have hν : Δ.ν i = 0 := inv.ob i _ hp
  have hlt : i < h.length := lt_of_get hp
  have hext : Ext Δ (Δ.put i 1 w.heap.size 0) := put_ext (by omega)
  have hsub : ∀ {b}, b < w.heap.size → (w.alloc (.map #[] 0)).heap[b]? = w.heap[b]? := fun hb => heap_alloc_lt w _ hb
  have u := Upd.inv (Δ := Δ) (Δ' := Δ.put i 1 w.heap.size 0) (h := h) (w := w) (w' := w.alloc (.map #[] 0)) (id := i) (o' := .map []) (T := fun _ => False)
    ⟨hlt, hext, rfl, fun j hj => by simp [WT.put, hj], fun j hj => by simp [WT.put, hj], fun b k => k.elim, rfl, rfl, rfl, by simp, fun b hb _ => hsub hb, fun _ _ _ _ => rfl,
     fun b o v hv => by
       have h0 := inv.ι b o v hv
       have hb : b < w.heap.size := by
         simp only [World.cell?, at_] at h0
         split at h0
         · rename_i heq; exact (Array.getElem?_eq_some_iff.1 heq).1
         · simp at h0
       rw [cell?_eq (hsub hb)]; exact h0,
     fun b S hS => by
       obtain ⟨arr, e, fr, hh, hs⟩ := inv.σ b S hS
       exact ⟨arr, e, fr, (hsub (Array.getElem?_eq_some_iff.1 hh).1).trans hh, hs⟩,
     ⟨by simp [WT.put], w.heap.size, #[], 0, by simp [WT.put], heap_alloc_same w _, ⟨rfl, by simp, stamped_empty 0, fun k x hk => by simp at hk, fun e he => by simp at he⟩⟩,
     fun _ b p hm => by simp [WT.put] at hm; omega, fun l r k => k.elim⟩ inv
  refine ⟨.map (some w.heap.size), _, _, ?_, u.1, u.2, .mp _ _ (place_put (by rw [inv.N]; exact hlt))⟩
  simp only [Instr.makeMap, Sem.run_bind, Sem.run_pure, Result.andThen_ok, run_newObj]
  rfl

theorem place_map {Δ : WT} {h : H} {w : World} (inv : Inv Δ h w) {id b : Nat} (hp : Place Δ id 1 b 0) {es : List (Value × V)} (ho : h[id]? = some (.map es)) : Δ.μ id = some (b, 0) ∧ ∃ arr clock, w.heap[b]? = some (.map arr clock) ∧ MapIs Δ es arr clock := by
  obtain ⟨hν, b', arr, clock, h1, h2, h3⟩ := inv.ob id _ ho
  have hm := hp.2.2 hν.symm
  rw [h1] at hm; cases hm
  exact ⟨h1, arr, clock, h2, h3⟩

theorem lookedUp_none {P : Program} {et : TypeId} {commaOk : Bool} {v : V} {is is' : List Nat} {h h' : H} (e : (lookedUp P et commaOk none).runAt is h = some (v, is', h')) :
    is' = is ∧ h' = h ∧ ∃ z, (∀ w, (zeroValue et).run P w = .ok z w) ∧ v = if commaOk then .tup [ofVal z, .sc (.bool false)] else ofVal z := by
  simp only [lookedUp] at e
  obtain ⟨ho, rfl, rfl⟩ := runAt_opt e
  cases hi : P.info? et with
  | none => rw [hi] at ho; simp at ho
  | some i =>
    rw [hi] at ho
    simp only [Option.bind_some] at ho
    cases hz : i.zero with
    | none => rw [hz] at ho; simp at ho
    | some z => rw [hz] at ho; simp at ho; exact ⟨rfl, rfl, z, fun w => run_zeroValue hi hz, ho.symm⟩

theorem pair_rep {Δ : WT} {x : V} {u : Value} (h : Rep Δ x u) (commaOk b : Bool) : Rep Δ (if commaOk then .tup [x, .sc (.bool b)] else x) (if commaOk then .tuple #[u, .bool b] else u) := by
  cases commaOk with
  | false => exact h
  | true =>
    refine .tup _ _ rfl fun i y v hy hv => ?_
    match i with
    | 0 => simp at hy hv; subst hy hv; exact h
    | 1 => simp at hy hv; subst hy hv; exact .sc _
    | i + 2 => simp at hy

theorem lookup_ok {P : Program} {t : TypeId} {m k v : V} {commaOk : Bool} {is is' : List Nat} {h h' : H} (e : (lookupV P t m k commaOk).runAt is h = some (v, is', h')) {Δ : WT} {w : World} (inv : Inv Δ h w) {mv kv : Value} (hm : Rep Δ m mv) (hk : Rep Δ k kv) :
    SemOk P (Instr.lookup t mv kv commaOk) Δ h w v h' := by
  unfold lookupV at e
  split at e
  · rename_i d et _ hd
    cases hk
    obtain ⟨kt, hu, hku⟩ := keyDesc_some hd
    split at e
    · rename_i hkey
      have hik := isKey_of hkey
      split at e
      · cases hm
        obtain ⟨_, rfl, z, hz, rfl⟩ := lookedUp_none e
        refine .pure inv ?_ (pair_rep (ofVal_rep Δ z) commaOk false)
        simp only [Instr.lookup, Sem.run_bind, run_underlying hu, Result.andThen_ok, Sem.run_pure, run_checkKey hku hik]
        have : Instr.findNow d kv ([] : List MapEntry) 0 = some none := rfl
        simp only [run_findKey (l := []) hku this, Result.andThen_ok, Sem.run_bind, hz, Sem.run_pure]
      · rename_i id
        cases hm with
        | mp _ b hp =>
          obtain ⟨o, ho, e⟩ := runAt_get e
          split at e
          · rename_i es
            split at e
            · rename_i hall
              simp only [List.all_eq_true] at hall
              obtain ⟨hμ, arr, clock, hb, hmi⟩ := place_map inv hp ho
              have hks : ∀ x ∈ arr.toList, IsKey d x.key := fun x hx => let ⟨y, hy⟩ := hmi.from_ x hx; isKey_of (hall _ hy)
              have common : ∀ {r : Option (Nat × Value)}, Instr.findNow d kv arr.toList 0 = some r → (Instr.lookup t (.map (some b)) kv commaOk).run P w =
                  ((match r with | some (_, v) => pure (v, true) | none => do pure (← zeroValue et, false) : Sem (Value × Bool)).run P w).andThen fun q w => .ok (if commaOk then .tuple #[q.1, .bool q.2] else q.1) w := by
                intro r hr
                simp only [Instr.lookup, Sem.run_bind, run_underlying hu, Result.andThen_ok, Sem.run_pure, MapKept.run_getObj_map hb, run_checkKey hku hik, run_findKey hku hr]
                cases r with
                | none =>
                  simp only [Sem.run_bind, Sem.run_pure]
                  cases (zeroValue et).run P w <;> rfl
                | some q => rfl
              rcases findNow_spec hik arr.toList 0 hks with ⟨h1, h2⟩ | ⟨j, en, h1, h2, h3⟩
              · cases hf : findE kv es with
                | some x =>
                  obtain ⟨en, g1, g2, _⟩ := hmi.to kv x (findE_some hkey hall hf)
                  exact absurd g2 (h2 en g1)
                | none =>
                  rw [hf] at e
                  obtain ⟨_, rfl, z, hz, rfl⟩ := lookedUp_none e
                  refine .pure inv ?_ (pair_rep (ofVal_rep Δ z) commaOk false)
                  rw [common h1]
                  simp only [Sem.run_bind, hz, Result.andThen_ok, Sem.run_pure]
              · cases hf : findE kv es with
                | none =>
                  obtain ⟨x, hx⟩ := hmi.from_ en (List.mem_of_getElem? h2)
                  rw [h3] at hx
                  exact absurd hx (findE_none hkey hall hf x)
                | some x =>
                  rw [hf] at e
                  simp only [lookedUp] at e
                  obtain ⟨rfl, _, rfl⟩ := runAt_ret e
                  obtain ⟨en', g1, g2, g3⟩ := hmi.to kv x (findE_some hkey hall hf)
                  have : en' = en := by
                    have hnd := hmi.st.2.2
                    obtain ⟨j', hj'⟩ := List.getElem?_of_mem g1
                    have e1 : (arr.toList.map (·.key))[j']? = some kv := by rw [List.getElem?_map, hj']; simp [g2]
                    have e2 : (arr.toList.map (·.key))[j]? = some kv := by rw [List.getElem?_map, h2]; simp [h3]
                    have hlt : j' < (arr.toList.map (·.key)).length := (List.getElem?_eq_some_iff.1 e1).1
                    have := (List.getElem?_inj hlt hnd).1 (e1.trans e2.symm)
                    subst this; rw [hj'] at h2; exact Option.some.inj h2
                  subst this
                  refine .pure inv ?_ (pair_rep g3 commaOk true)
                  rw [common h1]
                  simp only [Sem.run_pure, Result.andThen_ok]
            · exact (runAt_fail e).elim
          · exact (runAt_fail e).elim
      · exact (runAt_fail e).elim
    · exact (runAt_fail e).elim
  · exact (runAt_fail e).elim

/-! ### An entry is set -/
theorem setE_mem {d : TypeDesc} {k : Value} {x : V} (hk : keyOk d k = true) : ∀ {es : List (Value × V)}, (∀ e ∈ es, keyOk d e.1 = true) → (es.map (·.1)).Nodup → ∀ k' x', (k', x') ∈ setE k x es ↔ (k' = k ∧ x' = x) ∨ (k' ≠ k ∧ (k', x') ∈ es)
  | [], _, _, k', x' => by simp [setE]
  | e :: es, hes, nd, k', x' => by
    obtain ⟨n1, n2⟩ := List.nodup_cons.1 (by simpa only [List.map_cons] using nd)
    have ih := setE_mem (x := x) hk (fun e he => hes e (List.mem_cons_of_mem _ he)) n2 k' x'
    simp only [setE]
    split
    · rename_i he
      have hke := (keyEq_iff hk (hes e (by simp))).1 he
      subst hke
      simp only [List.mem_cons, Prod.mk.injEq]
      constructor
      · rintro (⟨rfl, rfl⟩ | hm)
        · exact .inl ⟨rfl, rfl⟩
        · refine .inr ⟨?_, .inr hm⟩
          rintro rfl
          exact n1 (List.mem_map.2 ⟨_, hm, rfl⟩)
      · rintro (⟨rfl, rfl⟩ | ⟨hne, he' | hm⟩)
        · exact .inl ⟨rfl, rfl⟩
        · subst he'; exact absurd rfl hne
        · exact .inr hm
    · rename_i he
      have hne : e.1 ≠ k := fun h => he ((keyEq_iff hk (hes e (by simp))).2 h.symm)
      simp only [List.mem_cons, ih]
      constructor
      · rintro (rfl | h | ⟨h1, h2⟩)
        · exact .inr ⟨hne, .inl rfl⟩
        · exact .inl h
        · exact .inr ⟨h1, .inr h2⟩
      · rintro (h | ⟨h1, h2 | h2⟩)
        · exact .inr (.inl h)
        · exact .inl h2
        · exact .inr (.inr ⟨h1, h2⟩)
theorem setE_keys {d : TypeDesc} {k : Value} {x : V} (hk : keyOk d k = true) : ∀ {es : List (Value × V)}, (∀ e ∈ es, keyOk d e.1 = true) → (es.map (·.1)).Nodup → ((setE k x es).map (·.1)).Nodup ∧ (k ∈ es.map (·.1) → (setE k x es).length = es.length) ∧ (k ∉ es.map (·.1) → (setE k x es).length = es.length + 1)
  | [], _, _ => by simp [setE]
  | e :: es, hes, nd => by
    obtain ⟨n1, n2⟩ := List.nodup_cons.1 (by simpa only [List.map_cons] using nd)
    have hes' : ∀ e ∈ es, keyOk d e.1 = true := fun e he => hes e (List.mem_cons_of_mem _ he)
    obtain ⟨i1, i2, i3⟩ := setE_keys (x := x) hk hes' n2
    simp only [setE]
    split
    · rename_i he
      have hke := (keyEq_iff hk (hes e (by simp))).1 he
      subst hke
      exact ⟨by rw [List.map_cons]; exact List.nodup_cons.2 ⟨n1, n2⟩, fun _ => rfl, fun h => absurd List.mem_cons_self h⟩
    · rename_i he
      have hne : e.1 ≠ k := fun h => he ((keyEq_iff hk (hes e (by simp))).2 h.symm)
      refine ⟨?_, ?_, ?_⟩
      · rw [List.map_cons, List.nodup_cons]
        refine ⟨fun hm => ?_, i1⟩
        obtain ⟨⟨k', x'⟩, h1, h2⟩ := List.mem_map.1 hm
        simp only at h2
        rcases (setE_mem hk hes' n2 k' x').1 h1 with ⟨h3, _⟩ | ⟨_, h3⟩
        · exact hne (h2.symm.trans h3)
        · exact n1 (List.mem_map.2 ⟨_, h3, h2⟩)
      · intro h
        rw [List.map_cons] at h
        rcases List.mem_cons.1 h with rfl | h
        · exact absurd rfl hne
        · simp [i2 h]
      · intro h
        rw [List.map_cons] at h
        simp [i3 fun hm => h (List.mem_cons_of_mem _ hm)]

theorem mapUpdate_ok {P : Program} {t : TypeId} {m k x v : V} {is is' : List Nat} {h h' : H} (e : (mapUpdateV P t m k x).runAt is h = some (v, is', h')) {Δ : WT} {w : World} (inv : Inv Δ h w) {mv kv xv : Value} (hm : Rep Δ m mv) (hk : Rep Δ k kv) (hx : Rep Δ x xv) :
    ∃ w' Δ', (Instr.mapUpdate t mv kv xv).run P w = .ok () w' ∧ v = .unk ∧ Inv Δ' h' w' ∧ Step Δ h w Δ' h' w' := by
  unfold mapUpdateV at e
  split at e
  · rename_i d et id _ hd
    cases hk
    obtain ⟨kt, hu, hku⟩ := keyDesc_some hd
    split at e
    · rename_i hkey
      have hik := isKey_of hkey
      obtain ⟨x', is1, h1, e1, e2⟩ := runAt_bind_inv e
      obtain ⟨hi1, Δ1, inv1, s1, hx1⟩ := normV_sound e1 inv hx
      subst hi1
      split at e2
      · rename_i harg
        have hm1 := hm.ext s1.ext
        generalize hmv : mv = mv' at hm1
        cases hm1 with
        | mp _ b hp =>
          subst hmv
          obtain ⟨o, ho, e2⟩ := runAt_get e2
          split at e2
          · rename_i es
            split at e2
            · rename_i hall
              simp only [List.all_eq_true] at hall
              have e3 := runAt_put e2
              obtain ⟨rfl, _, rfl⟩ := runAt_ret e3
              obtain ⟨hμ, arr, clock, hb, hmi⟩ := place_map inv1 hp ho
              have hlt := (Array.getElem?_eq_some_iff.1 hb).1
              have hks : ∀ x ∈ arr.toList, IsKey d x.key := fun x hx => let ⟨y, hy⟩ := hmi.from_ x hx; isKey_of (hall _ hy)
              have kmem : ∀ k, k ∈ es.map (·.1) ↔ ∃ e ∈ arr.toList, e.key = k := by
                intro k
                constructor
                · intro hm
                  obtain ⟨⟨k', y⟩, q1, q2⟩ := List.mem_map.1 hm
                  simp only at q2; subst q2
                  obtain ⟨e, g1, g2, _⟩ := hmi.to k' y q1
                  exact ⟨e, g1, g2⟩
                · rintro ⟨e, g1, rfl⟩
                  obtain ⟨y, hy⟩ := hmi.from_ e g1
                  exact List.mem_map.2 ⟨_, hy, rfl⟩
              obtain ⟨nd2, l1, l2⟩ := setE_keys (x := x') hkey hall hmi.nd
              -- the object turns
              have fin : ∀ (arr' : Array MapEntry) (clock' : Nat), MapIs Δ1 (setE kv x' es) arr' clock' →
                  Inv Δ1 (h1.set id (.map (setE kv x' es))) { w with heap := w.heap.setIfInBounds b (.map arr' clock') } ∧ Step Δ1 h1 w Δ1 (h1.set id (.map (setE kv x' es))) { w with heap := w.heap.setIfInBounds b (.map arr' clock') } := by
                intro arr' clock' hmi'
                have hother : ∀ c, c ≠ b → (w.heap.setIfInBounds b (.map arr' clock'))[c]? = w.heap[c]? := fun c hc => (heap_set hb).2 c hc
                refine Upd.inv (T := fun c => c = b) ⟨lt_of_get ho, .refl _, rfl, fun _ _ => rfl, fun _ _ => rfl, fun c hc => ⟨_, 0, ho, rfl, by rw [hc]; exact hμ⟩, rfl, rfl, rfl, by simp,
                  fun c _ hn => hother c hn, fun _ _ _ _ => rfl, ?_, ?_, ⟨(inv1.ob id _ ho).1, b, arr', clock', hμ, (heap_set hb).1, hmi'⟩, fun _ c p hm => .inr ?_, fun l r hl hr => ?_⟩ inv1
                · intro c j u hu'
                  have h0 := inv1.ι c j u hu'
                  have : c ≠ b := by rintro rfl; simp [World.cell?, at_, hb] at h0
                  rw [cell?_eq (w := w) (hother c this)]; exact h0
                · intro c S hS
                  obtain ⟨ar, el, fr, hh, hs⟩ := inv1.σ c S hS
                  have : c ≠ b := by rintro rfl; rw [hb] at hh; simp at hh
                  exact ⟨ar, el, fr, (hother c this).trans hh, hs⟩
                · rw [hμ] at hm; cases hm; rfl
                · subst hl; rw [hb] at hr; simp at hr
              rcases findNow_spec hik arr.toList 0 hks with ⟨f1, f2⟩ | ⟨j, en, f1, f2, f3⟩
              · have hnk : kv ∉ es.map (·.1) := fun hm => let ⟨e, g1, g2⟩ := (kmem kv).1 hm; f2 e g1 g2
                have hmi' : MapIs Δ1 (setE kv x' es) (arr.push { key := kv, val := xv, born := clock }) (clock + 1) := by
                  refine ⟨by rw [l2 hnk]; simp [hmi.size], nd2, stamped_push hmi.st f2, fun k y hky => ?_, fun e he => ?_⟩
                  · rcases (setE_mem hkey hall hmi.nd k y).1 hky with ⟨rfl, rfl⟩ | ⟨hne, hin⟩
                    · exact ⟨{ key := k, val := xv, born := clock }, by simp, rfl, hx1⟩
                    · obtain ⟨e, g1, g2, g3⟩ := hmi.to k y hin
                      exact ⟨e, by simp only [Array.toList_push]; exact List.mem_append_left _ g1, g2, g3⟩
                  · simp only [Array.toList_push, List.mem_append, List.mem_singleton] at he
                    rcases he with he | rfl
                    · obtain ⟨y, hy⟩ := hmi.from_ e he
                      exact ⟨y, (setE_mem hkey hall hmi.nd _ y).2 (.inr ⟨f2 e he, hy⟩)⟩
                    · exact ⟨x', (setE_mem hkey hall hmi.nd _ x').2 (.inl ⟨rfl, rfl⟩)⟩
                obtain ⟨i2, s2⟩ := fin _ _ hmi'
                refine ⟨_, Δ1, ?_, rfl, i2, s1.trans s2⟩
                simp [Instr.mapUpdate, run_underlying hu, MapKept.run_getObj_map hb, run_checkKey hku hik, run_findKey hku f1, run_setObj_map _ hb, Result.andThen]
              · have hj : arr[j]? = some en := by simpa using f2
                have hin : kv ∈ es.map (·.1) := (kmem kv).2 ⟨en, List.mem_of_getElem? f2, f3⟩
                have hkeep : ∀ e', arr[j]? = some e' → ({ e' with key := kv, val := xv } : MapEntry).key = e'.key := fun e' he' => by rw [hj] at he'; cases he'; exact f3.symm
                have hkeys := modify_keys j (fun e => ({ e with key := kv, val := xv } : MapEntry)) hkeep
                have st' := stamped_modify hmi.st j (fun e => ({ e with key := kv, val := xv } : MapEntry)) (fun _ _ => rfl) (fun e' _ he' => hkeep e' he')
                have hgetm : ∀ (i : Nat) (e : MapEntry), arr[i]? = some e → (arr.modify j fun e => ({ e with key := kv, val := xv } : MapEntry))[i]? = some (if i = j then { e with key := kv, val := xv } else e) := by
                  intro i e he
                  rw [Array.getElem?_modify, he]
                  by_cases hij : j = i
                  · subst hij; simp
                  · simp [hij, Ne.symm hij]
                have hmi' : MapIs Δ1 (setE kv x' es) (arr.modify j fun e => { e with key := kv, val := xv }) clock := by
                  refine ⟨by rw [l1 hin]; simp [hmi.size], nd2, st', fun k y hky => ?_, fun e he => ?_⟩
                  · rcases (setE_mem hkey hall hmi.nd k y).1 hky with ⟨rfl, rfl⟩ | ⟨hne, hin'⟩
                    · refine ⟨{ en with key := k, val := xv }, ?_, rfl, hx1⟩
                      have := hgetm j en hj
                      rw [if_pos rfl] at this
                      exact List.mem_of_getElem? (by rw [Array.getElem?_toList]; exact this)
                    · obtain ⟨e, g1, g2, g3⟩ := hmi.to k y hin'
                      obtain ⟨i, hi⟩ := List.getElem?_of_mem g1
                      have hi' : arr[i]? = some e := by simpa using hi
                      have hij : i ≠ j := by rintro rfl; rw [hj] at hi'; cases hi'; exact hne (g2.symm.trans f3)
                      have := hgetm i e hi'
                      rw [if_neg hij] at this
                      exact ⟨e, List.mem_of_getElem? (by rw [Array.getElem?_toList]; exact this), g2, g3⟩
                  · have : e.key ∈ (arr.modify j fun e => ({ e with key := kv, val := xv } : MapEntry)).toList.map (·.key) := List.mem_map.2 ⟨e, he, rfl⟩
                    rw [hkeys] at this
                    obtain ⟨e0, g1, g2⟩ := List.mem_map.1 this
                    obtain ⟨y, hy⟩ := hmi.from_ e0 g1
                    rw [g2] at hy
                    by_cases hek : e.key = kv
                    · rw [hek]; exact ⟨x', (setE_mem hkey hall hmi.nd _ x').2 (.inl ⟨rfl, rfl⟩)⟩
                    · exact ⟨y, (setE_mem hkey hall hmi.nd _ y).2 (.inr ⟨hek, hy⟩)⟩
                obtain ⟨i2, s2⟩ := fin _ _ hmi'
                refine ⟨_, Δ1, ?_, rfl, i2, s1.trans s2⟩
                simp [Instr.mapUpdate, run_underlying hu, MapKept.run_getObj_map hb, run_checkKey hku hik, run_findKey hku f1, hj, f3, run_keyThatStays hik, run_setObj_map _ hb, Result.andThen]
            · exact (runAt_fail e2).elim
          · exact (runAt_fail e2).elim
      · exact (runAt_fail e2).elim
    · exact (runAt_fail e).elim
  · exact (runAt_fail e).elim

end Go.Pv
/-
  One operation, whole.
-/
set_option linter.unusedSimpArgs false
set_option linter.unusedVariables false
namespace Go.Pv
open Go

theorem mapM_toVal {Δ : WT} : ∀ (cs : List V) (us vs : List Value), cs.mapM V.toVal = some us → RepL Δ cs vs → vs = us
  | [], us, vs, h, hr => by
    simp at h; subst h
    exact List.eq_nil_of_length_eq_zero (by have := hr.1; simpa using this.symm)
  | c :: cs, us, vs, h, hr => by
    obtain ⟨v, vs', rfl, h1, h2⟩ := hr.cons_inv
    simp only [List.mapM_cons] at h
    cases hc : c.toVal with
    | none => rw [hc] at h; simp at h
    | some u =>
      rw [hc] at h
      cases hm : cs.mapM V.toVal with
      | none => rw [hm] at h; simp at h
      | some us' =>
        rw [hm] at h; simp at h; subst h
        rw [toVal_rep h1 hc, mapM_toVal cs us' vs' hm h2]

theorem lenV_rep {Δ : WT} {x : V} {v : Value} {n : Nat} (h : lenV x = some n) (hx : Rep Δ x v) : ∃ a cap, v = .slice a n cap := by
  unfold lenV at h
  split at h <;> simp only [Option.some.injEq, reduceCtorEq] at h <;> subst h
  · cases hx with
    | list _ _ _ _ hd ht => obtain ⟨a, cap, b, o, rfl, _⟩ := hd.list_inv; exact ⟨a, cap, rfl⟩
  · cases hx; exact ⟨_, _, rfl⟩
  · cases hx; exact ⟨_, _, rfl⟩

theorem copyV_ok {P : Program} {argTypes : Array TypeId} {ty t : TypeId} (h0 : argTypes[0]? = some t) {d s v : V} {is is' : List Nat} {h h' : H} (e : (copyV P t d s).runAt is h = some (v, is', h')) {Δ : WT} {w : World} (inv : Inv Δ h w) {dv sv : Value} (hd : Rep Δ d dv) (hs : Rep Δ s sv) :
    SemOk P (Builtin.copy_ argTypes ty #[dv, sv]) Δ h w v h' := by
  unfold copyV at e
  split at e
  case h_2 => exact (runAt_fail e).elim
  rename_i el hu
  split at e
  case isFalse => exact (runAt_fail e).elim
  rename_i hk
  obtain ⟨hel, hone⟩ := hk
  obtain ⟨i, z, hi, _, _, _⟩ := elOk_info hel
  split at e
  case h_2 => exact (runAt_fail e).elim
  rename_i id off len id' off' len'
  obtain ⟨ob, ho, e1⟩ := runAt_get e
  split at e1
  case h_2 => exact (runAt_fail e1).elim
  rename_i c
  obtain ⟨ob2, ho2, e2⟩ := runAt_get e1
  split at e2
  case h_2 => exact (runAt_fail e2).elim
  rename_i c2
  split at e2
  case h_2 => exact (runAt_fail e2).elim
  rename_i r hr
  split at e2
  case h_2 => exact (runAt_fail e2).elim
  rename_i c' hc'
  split at e2
  case isFalse => exact (runAt_fail e2).elim
  rename_i hcell
  have e3 := runAt_put e2
  obtain ⟨rfl, rfl, rfl⟩ := runAt_ret e3
  cases hd with
  | csl _ _ _ b cap hp hl =>
    cases hs with
    | csl _ _ _ b2 cap2 hp2 hl2 =>
      have hread : (readAt (.ref id' off') (min len' len)).runAt [] h = some (r, [], h) := by
        simp only [readAt, HP.runAt, ho2]; rw [hr]; rfl
      obtain ⟨_, _, b3, o3, vs, hpv, hn, hcs, hrl⟩ := readAt_sound hread inv (Rep.ref id' off' b2 hp2)
      simp only [Value.pointer.injEq, Option.some.injEq, at_, Addr.mk.injEq, and_true] at hpv
      obtain ⟨rfl, rfl⟩ := hpv
      obtain ⟨hB, hle, i1, i2⟩ := set_cells inv ho hp hc' hrl
      refine ⟨_, _, Δ, ?_, i1, i2, .sc _⟩
      have hst := run_storeCells P w b off _ 0 vs hB (by simpa using hle) (hrl.one hcell)
      rw [Nat.add_zero] at hst
      simp only [Builtin.copy_, h0, List.getElem?_toArray, List.getElem?_cons_zero, List.getElem?_cons_succ, Sem.run_bind, run_underlying hu, Result.andThen_ok, Builtin.lenOf, Sem.run_pure, run_sizeOf hi, Builtin.firstCells, hone, Nat.mul_one]
      rw [show (len'.min len) = min len' len from rfl, run_loadCells P w b2 off' (min len' len) vs hn hcs]
      simp only [Result.andThen_ok, hst, Sem.run_pure]
      rfl

theorem builtinV_ok {P : Program} {own : Bool} {ty : TypeId} {b : Builtin} {argTypes : Array TypeId} {consts : Array Bool} {args : List V} {v : V} {is is' : List Nat} {h h' : H} (e : (builtinV P own ty b argTypes args).runAt is h = some (v, is', h')) {Δ : WT} {w : World} (inv : Inv Δ h w)
    {vs : Array Value} (hr : RepL Δ args vs.toList) : ∃ val w' Δ', (builtin b argTypes ty consts vs).run P w = .ok (.value val) w' ∧ Inv Δ' h' w' ∧ Step Δ h w Δ' h' w' ∧ Rep Δ' v val := by
  have lift : ∀ {s : Sem Value}, SemOk P s Δ h w v h' → ∃ val w' Δ', (do pure (Next.value (← s)) : Sem Next).run P w = .ok (.value val) w' ∧ Inv Δ' h' w' ∧ Step Δ h w Δ' h' w' ∧ Rep Δ' v val := by
    intro s ⟨val, w', Δ', h1, h2, h3, h4⟩
    exact ⟨val, w', Δ', by simp only [Sem.run_bind, h1, Result.andThen_ok, Sem.run_pure], h2, h3, h4⟩
  unfold builtinV at e
  split at e
  · split at e
    case h_2 => exact (runAt_fail e).elim
    rename_i x
    obtain ⟨xv, vs', hvs, hx, hnil⟩ := hr.cons_inv
    have hv' : vs = #[xv] := by
      have : vs' = [] := List.eq_nil_of_length_eq_zero (by have := hnil.1; simpa using this.symm)
      subst this; apply Array.ext'; simpa using hvs
    subst hv'
    refine lift (s := Builtin.len_ argTypes ty #[xv]) ?_
    split at e
    · rename_i n hn
      split at e
      · rename_i el hu
        obtain ⟨rfl, rfl, rfl⟩ := runAt_ret e
        cases h0 : argTypes[0]? with
        | none => rw [h0] at hu; simp at hu
        | some t =>
          rw [h0] at hu; simp only [Option.bind_some] at hu
          obtain ⟨a, cap, rfl⟩ := lenV_rep hn hx
          refine .pure inv (val := .int .i64 n) ?_ (.sc _)
          simp only [Builtin.len_, h0, List.getElem?_toArray, List.getElem?_cons_zero, Sem.run_bind, run_underlying hu, Result.andThen_ok, Sem.run_pure, goInt]
      · exact (runAt_fail e).elim
    · split at e
      · rename_i u hu
        have := toVal_rep hx hu
        subst this
        exact (pureV_ok e inv).2
      · exact (runAt_fail e).elim
  · split at e
    · rename_i us hu
      have hv : vs = us.toArray := by apply Array.ext'; simpa using mapM_toVal _ _ _ hu hr
      subst hv
      exact lift (pureV_ok e inv).2
    · exact (runAt_fail e).elim
  · split at e
    · rename_i us hu
      have hv : vs = us.toArray := by apply Array.ext'; simpa using mapM_toVal _ _ _ hu hr
      subst hv
      exact lift (pureV_ok e inv).2
    · exact (runAt_fail e).elim
  · split at e
    case h_2 => exact (runAt_fail e).elim
    rename_i s x
    obtain ⟨sv, vs', hvs, hs, hr1⟩ := hr.cons_inv
    obtain ⟨xv, vs'', hvs', hx, hnil⟩ := hr1.cons_inv
    have hv' : vs = #[sv, xv] := by
      have : vs'' = [] := List.eq_nil_of_length_eq_zero (by have := hnil.1; simpa using this.symm)
      subst this; apply Array.ext'; rw [hvs, hvs']
    subst hv'
    refine lift (s := Builtin.append_ argTypes ty #[sv, xv]) ?_
    have main : ∀ {t0 t1 el : TypeId} {ty2 : TypeDesc}, argTypes[0]? = some t0 → argTypes[1]? = some t1 → P.underlying t0 = some (.slice el) → P.underlying t1 = some ty2 → (∀ k, ty2 ≠ .int k) →
        (if elOk P el = true then (rowsOf x).bind fun ys => if (ys.all fun y => decide (y.length = P.cellsOf el)) = true then appendV P own el s ys else .fail else HP.fail).runAt is h = some (v, is', h') → SemOk P (Builtin.append_ argTypes ty #[sv, xv]) Δ h w v h' := by
      intro t0 t1 el ty2 h0 h1 hu0 hu1 hni e
      split at e
      case isFalse => exact (runAt_fail e).elim
      rename_i hel
      obtain ⟨ys, is1, h1', e1, e2⟩ := runAt_bind_inv e
      split at e2
      case isFalse => exact (runAt_fail e2).elim
      rename_i hall
      have hrow : ∀ y ∈ ys, y.length = P.cellsOf el := fun y hy => by simpa using List.all_eq_true.1 hall y hy
      obtain ⟨rfl, rfl, hE⟩ := rowsOf_sound (P := P) e1 inv hx hrow
      exact appendV_ok ⟨t0, t1, ty2, h0, hu0, h1, hu1, hni⟩ e2 inv hs hE hel
    split at e
    case h_2 => exact (runAt_fail e).elim
    rename_i t0 t1 h0 h1
    split at e
    · rename_i hu0 hu1; exact main h0 h1 hu0 hu1 (fun k => by simp) e
    · rename_i hu0 hu1; exact main h0 h1 hu0 hu1 (fun k => by simp) e
    · exact (runAt_fail e).elim
  · split at e
    case h_2 => exact (runAt_fail e).elim
    rename_i d s
    obtain ⟨dv, vs', hvs, hd, hr1⟩ := hr.cons_inv
    obtain ⟨sv, vs'', hvs', hs, hnil⟩ := hr1.cons_inv
    have hv' : vs = #[dv, sv] := by
      have : vs'' = [] := List.eq_nil_of_length_eq_zero (by have := hnil.1; simpa using this.symm)
      subst this; apply Array.ext'; rw [hvs, hvs']
    subst hv'
    split at e
    · rename_i t h0; exact lift (copyV_ok h0 e inv hd hs)
    · exact (runAt_fail e).elim
  · exact (runAt_fail e).elim

/-- What an operation does. -/
def NextOk (P : Program) (s : Sem Next) (Δ : WT) (h : H) (w : World) (v : V) (h' : H) : Prop :=
  ∃ nx w' Δ', s.run P w = .ok nx w' ∧ ((∃ val, nx = .value val ∧ Rep Δ' v val) ∨ (nx = .skip ∧ v = .unk)) ∧ Inv Δ' h' w' ∧ Step Δ h w Δ' h' w'

theorem op_sound {C : Cx} {own : Bool} {env : List V} {o : Oper} {v : V} {is is' : List Nat} {h h' : H} (e : (opHP C own env o).runAt is h = some (v, is', h')) {Δ : WT} {w : World} (inv : Inv Δ h w) (hg : GOk C Δ) {a : Act} (hr : RepL Δ env a.tmps.toList) :
    NextOk C.P (execOp a.eval o) Δ h w v h' := by
  have lift : ∀ {s : Sem Value}, SemOk C.P s Δ h w v h' → NextOk C.P (do pure (Next.value (← s)) : Sem Next) Δ h w v h' := by
    intro s ⟨val, w', Δ', h1, h2, h3, h4⟩
    exact ⟨.value val, w', Δ', by simp only [Sem.run_bind, h1, Result.andThen_ok, Sem.run_pure], .inl ⟨val, rfl, h4⟩, h2, h3⟩
  have val : ∀ {u : Value}, is' = is → h' = h → Rep Δ v u → NextOk C.P (pure (Next.value u) : Sem Next) Δ h w v h' := by
    intro u h1 h2 hu; subst h2
    exact ⟨.value u, w, Δ, rfl, .inl ⟨u, rfl, hu⟩, inv, .refl _ _ _⟩
  have ev' := fun x => ev_rep (C := C) hg hr x
  unfold opHP at e
  unfold execOp
  simp only at e ⊢
  split at e <;> rename_i ho <;> (try simp only [ho])
  · obtain ⟨rfl, h1, h2⟩ := runAt_ret e; exact val h1 h2 (ev' _)
  · obtain ⟨rfl, h1, h2⟩ := runAt_ret e; exact val h1 h2 (ev' _)
  · rename_i c x y
    split at e
    · rename_i t ht
      obtain ⟨rfl, rfl, rfl⟩ := runAt_ret e
      have hc := ev' c
      rw [ht] at hc
      have hcv : a.eval c = .bool t := by generalize a.eval c = u at hc; cases hc; rfl
      refine ⟨.value (if t then a.eval x else a.eval y), w, Δ, ?_, .inl ⟨_, rfl, ?_⟩, inv, .refl _ _ _⟩
      · rw [hcv]; simp [asBool]
      · cases t
        · exact ev' y
        · exact ev' x
    · exact (runAt_fail e).elim
  · exact lift (binOpV_ok e inv (ev' _) (ev' _))
  · exact lift (unOpV_ok e inv (ev' _))
  · split at e
    · rename_i cs hz; exact lift (alloc_ok hz e inv)
    · exact (runAt_fail e).elim
  · split at e
    · rename_i cs hc; exact lift (box_ok hc e inv (ev' _))
    · exact (runAt_fail e).elim
  · split at e
    · rename_i hu; exact lift (load_ok e inv (ev' _) hu).2
    · exact (runAt_fail e).elim
  · obtain ⟨_, w', Δ', h1, h2, h3, h4⟩ := store_ok e inv (ev' _) (ev' _)
    exact ⟨.skip, w', Δ', by simp only [Sem.run_bind, h1, Result.andThen_ok, Sem.run_pure], .inr ⟨rfl, h4⟩, h2, h3⟩
  · split at e
    · rename_i off size hf
      split at e
      · exact (runAt_fail e).elim
      · rename_i h0
        obtain ⟨hq, rfl, rfl⟩ := runAt_opt e
        exact lift (fieldAddr_ok hf h0 hq inv (ev' _))
    · exact (runAt_fail e).elim
  · obtain ⟨hq, rfl, rfl⟩ := runAt_opt e
    exact lift (indexAddr_ok hq inv (ev' _) (ev' _))
  · rename_i x i
    split at e
    · rename_i vs hv
      obtain ⟨hq, rfl, rfl⟩ := runAt_opt e
      have hx := ev' x
      rw [hv] at hx
      refine lift ?_
      generalize a.eval x = u at hx
      cases hx with
      | tup _ us hn hh =>
        have hlt : i < us.size := by rw [hn]; exact (List.getElem?_eq_some_iff.1 hq).1
        exact .pure inv (val := us[i]) (by simp [Instr.extract, hlt]) (hh i v _ hq (by simp [hlt]))
    · exact (runAt_fail e).elim
  · exact lift (fieldV_ok e inv (ev' _))
  · rename_i t x i
    split at e
    · rename_i u u' h1 h2
      have e1 := toVal_rep (ev' x) h1
      have e2 := toVal_rep (ev' i) h2
      rw [e1, e2]
      exact lift (pureV_ok e inv).2
    · exact (runAt_fail e).elim
  · rename_i t parts
    exact lift (buildV_ok e inv (by simpa using parts_rep hg hr parts.toList))
  · rename_i t len parts
    exact lift (buildSliceV_ok e inv (by simpa using parts_rep hg hr parts.toList))
  · rename_i f first caps
    split at e
    · rename_i hk
      obtain ⟨rfl, rfl, rfl⟩ := runAt_ret e
      simp only [Bool.and_eq_true, Array.isEmpty_iff] at hk
      obtain ⟨rfl, rfl⟩ := hk
      exact lift (.pure inv (val := .func f #[] #[]) (by simp [Instr.makeFunc]) (.sc _))
    · obtain ⟨rfl, rfl, rfl⟩ := runAt_ret e
      have h1 := evs_rep hg hr first.toList
      have h2 := evs_rep hg hr caps.toList
      refine lift (.pure inv (val := .func f (first.map a.eval) (caps.map a.eval)) (by simp [Instr.makeFunc]) (.fn _ _ _ _ _ (by simp) (by simp) (fun i x v hx hv => h1.2 i x v hx ?_) (fun i x v hx hv => h2.2 i x v hx ?_)))
      · rw [← Array.getElem?_toList] at hv; simpa using hv
      · rw [← Array.getElem?_toList] at hv; simpa using hv
  · rename_i x
    have hx := ev' x
    unfold nilCheckV at e
    split at e
    · rename_i id off hk; rw [hk] at hx
      obtain ⟨rfl, h1, h2⟩ := runAt_ret e
      generalize a.eval x = u at hx ⊢
      cases hx with | ref _ _ b hp => exact val h1 h2 (.ref _ _ b hp)
    · rename_i id ver sz i k hk; rw [hk] at hx
      obtain ⟨rfl, h1, h2⟩ := runAt_ret e
      generalize a.eval x = u at hx ⊢
      cases hx with | eref _ _ _ _ _ b hp => exact val h1 h2 (.eref _ _ _ _ _ b hp)
    · rename_i sz xs i k hk; rw [hk] at hx
      obtain ⟨rfl, h1, h2⟩ := runAt_ret e
      generalize a.eval x = u at hx ⊢
      cases hx with | pptr _ _ _ _ b o hp => exact val h1 h2 (.pptr _ _ _ _ b o hp)
    · rename_i f first caps hk; rw [hk] at hx
      obtain ⟨rfl, h1, h2⟩ := runAt_ret e
      generalize a.eval x = u at hx ⊢
      cases hx with | fn _ _ _ us vs a1 a2 a3 a4 => exact val h1 h2 (.fn _ _ _ us vs a1 a2 a3 a4)
    · rename_i id hk; rw [hk] at hx
      obtain ⟨rfl, h1, h2⟩ := runAt_ret e
      generalize a.eval x = u at hx ⊢
      cases hx with | yld _ l hp => exact val h1 h2 (.yld _ l hp)
    · rename_i f us vs hk; rw [hk] at hx
      obtain ⟨rfl, h1, h2⟩ := runAt_ret e
      generalize a.eval x = u at hx ⊢
      cases hx with | sc _ => exact val h1 h2 (.sc _)
    · exact (runAt_fail e).elim
  · rename_i t x lo hi mx
    split at e
    · refine lift (sliceOp_ok e inv (ev' _) (fun y hy => ?_) (fun hy => ?_) (fun y hy => ?_) (fun hy => ?_))
      · cases lo with
        | none => simp at hy
        | some l => simp only [Option.map_some, Option.some.injEq] at hy; subst hy; exact ⟨_, rfl, ev' l⟩
      · cases lo with
        | none => rfl
        | some l => simp at hy
      · cases hi with
        | none => simp at hy
        | some l => simp only [Option.map_some, Option.some.injEq] at hy; subst hy; exact ⟨_, rfl, ev' l⟩
      · cases hi with
        | none => rfl
        | some l => simp at hy
    · rename_i m
      split at e
      · rename_i l h0
        obtain ⟨hq, rfl, rfl⟩ := runAt_opt e
        exact lift (slice3V_ok hq inv (ev' _) (ev' l) (ev' h0) (ev' m))
      · exact (runAt_fail e).elim
  · exact lift (convertV_ok e inv (ev' _))
  · rename_i t l c
    unfold makeSliceV at e
    split at e
    · rename_i el k n k' m hu hl hc
      split at e
      · rename_i z hz
        split at e
        · rename_i hk
          obtain ⟨rfl, h0, hs, hd⟩ := hk
          rw [intOf_rep hl (ev' l), intOf_rep hc (ev' c)]
          exact lift (makeSlice_ok hu hz h0 hs hd e inv)
        · exact (runAt_fail e).elim
      · exact (runAt_fail e).elim
    · exact (runAt_fail e).elim
  · rename_i t r
    split at e
    · exact lift (makeMap_ok e inv)
    · exact (runAt_fail e).elim
  · obtain ⟨w', Δ', h1, h2, h3, h4⟩ := mapUpdate_ok e inv (ev' _) (ev' _) (ev' _)
    exact ⟨.skip, w', Δ', by simp only [Sem.run_bind, h1, Result.andThen_ok, Sem.run_pure], .inr ⟨rfl, h2⟩, h3, h4⟩
  · exact lift (lookup_ok e inv (ev' _) (ev' _))
  · rename_i c
    split at e
    · rename_i b hb
      have hargs := evs_rep hg hr c.args.toList
      obtain ⟨u, w', Δ', h1, h2, h3, h4⟩ := builtinV_ok (consts := c.args.map fun | .const _ => true | _ => false) e inv (vs := c.args.map a.eval) (by simpa using hargs)
      refine ⟨.value u, w', Δ', ?_, .inl ⟨u, rfl, h4⟩, h2, h3⟩
      simp only [Sem.run_bind, resolve, hb, Sem.run_pure, Result.andThen_ok, invoke]
      exact h1
    · exact (runAt_fail e).elim
  · exact (runAt_fail e).elim
end Go.Pv
/-
  Runs on the heap's end; padding; what is at a world's deferred blocks.
-/
set_option linter.unusedSimpArgs false
set_option linter.unusedVariables false
namespace Go.Pv
open Go

theorem pads_get {h : H} {m i : Nat} (hi : i < h.length) : (h ++ List.replicate m Ob.pad)[i]? = h[i]? := List.getElem?_append_left hi
theorem runAt_of_run {α : Type} (p : HP α) : ∀ {h h' : H} {v : α}, p.run h = some (v, h') →
    ∃ m, p.runAt (List.range' h.length m) (h ++ List.replicate m .pad) = some (v, [], h') ∧ h'.length = h.length + m := by
  induction p with
  | ret a => intro h h' v e; simp [HP.run] at e; obtain ⟨rfl, rfl⟩ := e; exact ⟨0, by simp [HP.runAt], rfl⟩
  | fail => intro h h' v e; simp [HP.run] at e
  | get i k ih =>
    intro h h' v e
    simp only [HP.run] at e
    split at e
    · rename_i o ho
      obtain ⟨m, hm, hl⟩ := ih o e
      refine ⟨m, ?_, hl⟩
      simp only [HP.runAt, pads_get (List.getElem?_eq_some_iff.1 ho).1, ho]; exact hm
    · simp at e
  | put i o k ih =>
    intro h h' v e
    simp only [HP.run] at e
    split at e
    · rename_i hi
      obtain ⟨m, hm, hl⟩ := ih e
      refine ⟨m, ?_, by simpa using hl⟩
      simp only [HP.runAt]
      rw [if_pos (by simp; omega), List.set_append_left _ _ hi]
      simpa using hm
    · simp at e
  | new o k ih =>
    intro h h' v e
    simp only [HP.run] at e
    obtain ⟨m, hm, hl⟩ := ih h.length e
    refine ⟨m + 1, ?_, by simp at hl; omega⟩
    have : (h ++ List.replicate (m + 1) Ob.pad)[h.length]? = some .pad := by simp
    simp only [List.range'_succ, HP.runAt, this]
    have h2 : (h ++ List.replicate (m + 1) Ob.pad).set h.length o = (h ++ [o]) ++ List.replicate m .pad := by
      rw [List.set_append_right _ _ (Nat.le_refl _)]; simp [List.replicate_succ]
    rw [h2]; simpa using hm

def WT.pad (Δ : WT) (m : Nat) : WT := { Δ with N := Δ.N + m, ν := fun i => if i < Δ.N then Δ.ν i else 0 }
theorem pad_ext (Δ : WT) (m : Nat) : Ext Δ (Δ.pad m) :=
  ⟨fun _ _ _ h => h, fun _ _ h => h, Nat.le_add_right _ _, fun i hi => by simp [WT.pad, hi], fun i hi _ => rfl, rfl⟩
theorem pad_ok {Δ : WT} {h : H} {w : World} (inv : Inv Δ h w) (m : Nat) : Inv (Δ.pad m) (h ++ List.replicate m .pad) w ∧ Step Δ h w (Δ.pad m) (h ++ List.replicate m .pad) w := by
  have old : ∀ (id : Nat) (o : Ob), (h ++ List.replicate m Ob.pad)[id]? = some o → o.live = true → h[id]? = some o := by
    intro id o ho hl
    by_cases hi : id < h.length
    · rwa [pads_get hi] at ho
    · rw [List.getElem?_append_right (by omega)] at ho
      rw [List.getElem?_replicate] at ho
      split at ho
      · simp at ho; subst ho; simp [Ob.live] at hl
      · simp at ho
  refine ⟨⟨inv.ι, inv.σ, by simp [WT.pad, inv.N], ?_, ?_⟩, ⟨pad_ext Δ m, rfl, rfl, rfl, Nat.le_refl _, fun _ _ _ => rfl, ?_, fun _ _ _ _ => rfl, fun l r k => ⟨r, k⟩⟩⟩
  · intro id o ho
    by_cases hi : id < h.length
    · rw [pads_get hi] at ho
      exact (inv.ob id o ho).keep (pad_ext Δ m) rfl (by simp [WT.pad, inv.N, hi]) (fun b p _ _ => ⟨rfl, fun _ => rfl⟩)
    · rw [List.getElem?_append_right (by omega), List.getElem?_replicate] at ho
      split at ho
      · simp at ho; subst ho; simp [ObOk, WT.pad, inv.N]; omega
      · simp at ho
  · intro id id' o o' b p p' h1 h2 l1 l2 m1 m2
    exact inv.dis id id' o o' b p p' (old _ _ h1 l1) (old _ _ h2 l2) l1 l2 m1 m2
  · rintro b hb ⟨id, o, p, ho, hl, hm⟩
    exact ⟨id, o, p, old _ _ ho hl, hl, hm⟩

/-- An operation as the evaluator runs it. -/
theorem op_run {C : Cx} {own : Bool} {env : List V} {o : Oper} {v : V} {h h' : H} (e : (opHP C own env o).run h = some (v, h')) {Δ : WT} {w : World} (inv : Inv Δ h w) (hg : GOk C Δ) {a : Act} (hr : RepL Δ env a.tmps.toList) :
    NextOk C.P (execOp a.eval o) Δ h w v h' := by
  obtain ⟨m, hm, _⟩ := runAt_of_run _ e
  obtain ⟨i1, s1⟩ := pad_ok inv m
  obtain ⟨nx, w', Δ', h1, h2, h3, h4⟩ := op_sound hm i1 (hg.ext s1.ext) (hr.ext s1.ext)
  exact ⟨nx, w', Δ', h1, h2, h3, s1.trans h4⟩
theorem normVs_run {P : Program} {ts : List TypeId} {cs cs' : List V} {h h' : H} (e : (normVs P ts cs).run h = some (cs', h')) {Δ : WT} {w : World} (inv : Inv Δ h w) {vs : List Value} (hr : RepL Δ cs vs) :
    ∃ Δ', Inv Δ' h' w ∧ Step Δ h w Δ' h' w ∧ RepL Δ' cs' vs := by
  obtain ⟨m, hm, _⟩ := runAt_of_run _ e
  obtain ⟨i1, s1⟩ := pad_ok inv m
  obtain ⟨_, Δ', h2, h3, h4⟩ := normVs_sound P ts cs cs' hm i1 (hr.ext s1.ext)
  exact ⟨Δ', h2, s1.trans h3, h4⟩

/-! ### The blocks of deferred calls -/
theorem ob_not_deferred {Δ : WT} {h : H} {w : World} (inv : Inv Δ h w) {D : Nat} {x : Option (List Deferred)} (hD : w.heap[D]? = some (.deferred x)) : ¬ OB Δ h D := by
  rintro ⟨id, o, p, ho, hl, hm⟩
  have hk := inv.ob id o ho
  cases o with
  | dead => simp [Ob.live] at hl
  | pad => simp [Ob.live] at hl
  | cells bt c => obtain ⟨_, b, h1, ⟨⟨arr, e, fr, hh, _⟩, _⟩, _⟩ := hk; rw [hm] at h1; cases h1; rw [hD] at hh; simp at hh
  | tail bt n => obtain ⟨_, b, p', S, h1, _, ⟨⟨arr, e, fr, hh, _⟩, _⟩, _⟩ := hk; rw [hm] at h1; cases h1; rw [hD] at hh; simp at hh
  | arr ver wm sz xs => obtain ⟨_, b, S, h1, _, ⟨arr, e, fr, hh, _⟩, _⟩ := hk; rw [hm] at h1; cases h1; rw [hD] at hh; simp at hh
  | map es => obtain ⟨_, b, arr, clock, h1, hh, _⟩ := hk; rw [hm] at h1; cases h1; rw [hD] at hh; simp at hh
  | loop st pend fid tmps params assign body => obtain ⟨_, l, r, h1, hh, _⟩ := hk; rw [hm] at h1; cases h1; rw [hD] at hh; simp at hh

theorem putObj_size (w : World) (l : Nat) (o : Obj) : (w.putObj l o).heap.size = w.heap.size := by simp [World.putObj]
theorem putObj_other {w : World} {l k : Nat} {o : Obj} (h : l ≠ k) : (w.putObj l o).heap[k]? = w.heap[k]? := World.putObj_heap_other (Ne.symm h)
/-- A block that is nobody's and holds no cells may turn. -/
theorem Inv.turn {Δ : WT} {h : H} {w : World} (inv : Inv Δ h w) {D : Nat} {x : Option (List Deferred)} (hD : w.heap[D]? = some (.deferred x)) (o : Obj) : Inv Δ h (w.putObj D o) := by
  have hlt := (Array.getElem?_eq_some_iff.1 hD).1
  have hob := ob_not_deferred inv hD
  refine ⟨?_, ?_, inv.N, ?_, inv.dis⟩
  · intro b j v hv
    have h0 := inv.ι b j v hv
    have : D ≠ b := by
      intro hb; subst hb; simp [World.cell?, at_, hD] at h0
    rw [cell?_eq (putObj_other this)]; exact h0
  · intro b S hS
    obtain ⟨arr, e, fr, hh, hs⟩ := inv.σ b S hS
    have : D ≠ b := by intro hb; subst hb; rw [hD] at hh; simp at hh
    exact ⟨arr, e, fr, (putObj_other this).trans hh, hs⟩
  · intro id ob ho
    refine (inv.ob id ob ho).keep (.refl _) rfl rfl fun b p hl hm => ⟨putObj_other ?_, fun _ => rfl⟩
    intro hb; subst hb; exact hob ⟨id, ob, p, ho, hl, hm⟩
theorem Step.turn {Δ Δ' : WT} {h h' : H} {w w' : World} (s : Step Δ h w Δ' h' w') {D : Nat} (hn : w.heap.size ≤ D) (o : Obj) : Step Δ h w Δ' h' (w'.putObj D o) :=
  ⟨s.ext, s.os, s.tape, s.output, by rw [putObj_size]; exact s.size, fun b hb hn' => (putObj_other (by omega)).trans (s.block b hb hn'), s.own, s.newι,
    fun l r k => let ⟨r', k'⟩ := s.loops l r k; ⟨r', (putObj_other (by have := (Array.getElem?_eq_some_iff.1 k).1; omega)).trans k'⟩⟩

/-- The marks among an activation's deferred calls. -/
def Marks (n0 : Nat) (w : World) (ds : List Deferred) : Prop :=
  ∃ Ds : List Nat, ds = Ds.map (fun D => { target := .collected D, args := #[] }) ∧ Ds.Nodup ∧ ∀ D ∈ Ds, n0 ≤ D ∧ w.heap[D]? = some (.deferred (some []))
theorem Marks.nil (n0 : Nat) (w : World) : Marks n0 w [] := ⟨[], rfl, List.nodup_nil, fun _ h => by simp at h⟩
theorem Marks.lt {n0 : Nat} {w : World} {Ds : List Nat} (h : ∀ D ∈ Ds, n0 ≤ D ∧ w.heap[D]? = some (.deferred (some []))) {D : Nat} (hD : D ∈ Ds) : D < w.heap.size := (Array.getElem?_eq_some_iff.1 (h D hD).2).1
theorem Marks.step {n0 : Nat} {w w' : World} {ds : List Deferred} (m : Marks n0 w ds) {Δ Δ' : WT} {h h' : H} (inv : Inv Δ h w) (s : Step Δ h w Δ' h' w') : Marks n0 w' ds := by
  obtain ⟨Ds, h1, h2, h3⟩ := m
  exact ⟨Ds, h1, h2, fun D hD => ⟨(h3 D hD).1, (s.block D (Marks.lt h3 hD) (ob_not_deferred inv (h3 D hD).2)).trans (h3 D hD).2⟩⟩

/-- The way out of a function whose deferred calls are marks. -/
theorem leaves_marks {P : Program} {F : Fence} {n : Nat} {fn : Func} {tmps : Array Value} {R : Ending → World → Prop} {Δ Δ0 : WT} {h h0 : H} {w0 : World} : ∀ (Ds : List Nat) (w : World), Ds.Nodup →
    (∀ D ∈ Ds, w0.heap.size ≤ D ∧ w.heap[D]? = some (.deferred (some []))) → Inv Δ h w → Step Δ0 h0 w0 Δ h w →
    (∀ w', Inv Δ h w' → Step Δ0 h0 w0 Δ h w' → LeavesIn F n P fn tmps R [] .returning w') →
    LeavesInM F n P fn tmps R (Ds.map (fun D => { target := .collected D, args := #[] })) .returning w
  | [], w, _, _, inv, st, k => by simp only [List.map_nil, LeavesInM]; exact k w inv st
  | D :: Ds, w, nd, hD, inv, st, k => by
    simp only [List.map_cons, LeavesInM]
    have h1 := (hD D (by simp)).2
    refine ⟨by simp, .inl ⟨D, _, rfl, run_takeDeferred h1, ?_⟩⟩
    refine leaves_marks Ds _ (List.nodup_cons.1 nd).2 ?_ (inv.turn h1 _) (st.turn (hD D (by simp)).1 _) k
    intro E hE
    refine ⟨(hD E (by simp [hE])).1, ?_⟩
    have : D ≠ E := by rintro rfl; exact (List.nodup_cons.1 nd).1 hE
    exact (putObj_other this).trans (hD E (by simp [hE])).2

end Go.Pv
/-
  Loops' records; what is forgotten.
-/
set_option linter.unusedSimpArgs false
set_option linter.unusedVariables false
namespace Go.Pv
open Go

theorem cell?_lt {w : World} {b o : Nat} {v : Value} (h : w.cell? (at_ b o) = some v) : b < w.heap.size := by
  simp only [World.cell?, at_] at h
  split at h
  · rename_i heq; exact (Array.getElem?_eq_some_iff.1 heq).1
  · simp at h
theorem alloc_other {Δ : WT} {h : H} {w : World} (inv : Inv Δ h w) (o : Obj) : Inv Δ h (w.alloc o) ∧ Step Δ h w Δ h (w.alloc o) := by
  refine ⟨⟨?_, ?_, inv.N, ?_, inv.dis⟩, ⟨.refl _, rfl, rfl, rfl, by simp, fun b hb _ => heap_alloc_lt w _ hb, fun _ _ k => k, fun _ _ _ _ => rfl, fun l r k => ⟨r, (heap_alloc_lt w _ (Array.getElem?_eq_some_iff.1 k).1).trans k⟩⟩⟩
  · intro b j v hv
    have := inv.ι b j v hv
    rw [cell?_eq (heap_alloc_lt w o (cell?_lt this))]; exact this
  · intro b S hS
    obtain ⟨arr, e, fr, hh, hs⟩ := inv.σ b S hS
    exact ⟨arr, e, fr, (heap_alloc_lt w o (Array.getElem?_eq_some_iff.1 hh).1).trans hh, hs⟩
  · intro id ob ho
    exact (inv.ob id ob ho).keep (.refl _) rfl rfl fun b p hl hm => ⟨heap_alloc_lt w o ((inv.ob id ob ho).lt hl hm), fun _ => rfl⟩

/-- A loop's record is laid. -/
theorem alloc_loop {Δ : WT} {h : H} {w : World} (inv : Inv Δ h w) (r : Loop) {fid : FuncId} {tmps : List V} {params : List Tmp} {assign body : Code} (hs : r.state = .ready) (hp : r.pending = none) (hG : Δ.G fid assign ∧ Δ.G fid body)
    (ht : RepL Δ tmps r.tmps.toList) (hps : r.params.toList = params) (ha : r.assign = assign) (hb : r.body = body) :
    ∃ Δ', Inv Δ' (h ++ [.loop .ready none fid tmps params assign body]) (w.alloc (.loop r)) ∧ Step Δ h w Δ' (h ++ [.loop .ready none fid tmps params assign body]) (w.alloc (.loop r)) ∧ Rep Δ' (.yld h.length) (.func (.yield w.heap.size) #[] #[]) := by
  obtain ⟨i1, s1⟩ := pad_ok inv 1
  obtain ⟨i2, s2⟩ := alloc_other i1 (.loop r)
  have hset : (h ++ List.replicate 1 Ob.pad).set h.length (.loop .ready none fid tmps params assign body) = h ++ [.loop .ready none fid tmps params assign body] := by
    rw [List.set_append_right _ _ (Nat.le_refl _)]; simp
  have hν : (Δ.pad 1).ν h.length = 0 := by simp [WT.pad, inv.N]
  have hext : Ext (Δ.pad 1) ((Δ.pad 1).put h.length 1 w.heap.size 0) := put_ext (by omega)
  have u := Upd.inv (Δ := Δ.pad 1) (Δ' := (Δ.pad 1).put h.length 1 w.heap.size 0) (h := h ++ List.replicate 1 .pad) (w := w) (w' := w.alloc (.loop r)) (id := h.length) (o' := .loop .ready none fid tmps params assign body) (T := fun _ => False)
    ⟨by simp, hext, rfl, fun i hi => by simp [WT.put, hi], fun i hi => by simp [WT.put, hi], fun b k => k.elim, rfl, rfl, rfl, by simp, fun b hb _ => heap_alloc_lt w _ hb, fun _ _ _ _ => rfl, i2.ι, i2.σ,
     ⟨by simp [WT.put], w.heap.size, r, by simp [WT.put], heap_alloc_same w _, hs, hp, ⟨hG.1, hG.2, fun c hc => by simp at hc⟩, (ht.ext (pad_ext Δ 1)).ext hext, hps, ha, hb⟩,
     fun _ b p hm => by simp [WT.put] at hm; omega, fun l r k => k.elim⟩ i1
  rw [hset] at u
  refine ⟨_, u.1, s1.trans u.2, .yld _ _ ?_⟩
  have hN : h.length < (Δ.pad 1).N := by simp [WT.pad, inv.N]
  exact place_put hN

/-- A loop's record turns. -/
theorem turn_loop {Δ : WT} {h : H} {w : World} (inv : Inv Δ h w) {id : Nat} {st : LoopState} {pend : Option Code} {fid : FuncId} {tmps : List V} {params : List Tmp} {assign body : Code} (ho : h[id]? = some (.loop st pend fid tmps params assign body)) {l : Nat} (hp : Place Δ id 1 l 0) :
    ∃ r, w.heap[l]? = some (.loop r) ∧ r.state = st ∧ r.pending = pend ∧ (∀ c, pend = some c → ∀ f, Δ.G f c) ∧ (Δ.G fid assign ∧ Δ.G fid body) ∧ RepL Δ tmps r.tmps.toList ∧ r.params.toList = params ∧ r.assign = assign ∧ r.body = body ∧
      (∀ st' pend', (∀ c, pend' = some c → ∀ f, Δ.G f c) →
        Inv Δ (h.set id (.loop st' pend' fid tmps params assign body)) (w.putObj l (.loop { r with state := st', pending := pend' })) ∧
        Step Δ h w Δ (h.set id (.loop st' pend' fid tmps params assign body)) (w.putObj l (.loop { r with state := st', pending := pend' }))) ∧
      (∀ r', Inv Δ (h.set id .dead) (w.putObj l (.loop r')) ∧ Step Δ h w Δ (h.set id .dead) (w.putObj l (.loop r'))) := by
  obtain ⟨hν, l', r, h1, h2, a1, a2, ⟨a3, a3', a3''⟩, a4, a5, a6, a7⟩ := inv.ob id _ ho
  have hm := hp.2.2 hν.symm
  rw [h1] at hm; cases hm
  have hlt := (Array.getElem?_eq_some_iff.1 h2).1
  refine ⟨r, h2, a1, a2, a3'', ⟨a3, a3'⟩, a4, a5, a6, a7, ?_⟩
  have gen : ∀ (o' : Ob) (r' : Loop), ObOk Δ (w.putObj l (.loop r')) id o' → Inv Δ (h.set id o') (w.putObj l (.loop r')) ∧ Step Δ h w Δ (h.set id o') (w.putObj l (.loop r')) := by
    intro o' r' hok
    refine Upd.inv (T := fun b => b = l) ⟨(List.getElem?_eq_some_iff.1 ho).1, .refl _, rfl, fun _ _ => rfl, fun _ _ => rfl, fun b hb => ⟨_, 0, ho, rfl, by rw [hb]; exact h1⟩, rfl, rfl, rfl, by rw [putObj_size]; exact Nat.le_refl _,
      fun b hb hn => putObj_other (Ne.symm hn), fun _ _ _ _ => rfl, ?_, ?_, hok, fun _ b p hm => .inr ?_, fun l' r0 hl' _ => ⟨r', by rw [hl']; exact World.putObj_heap_same hlt⟩⟩ inv
    · intro b j v hv
      have h0 := inv.ι b j v hv
      have : l ≠ b := by rintro rfl; simp [World.cell?, at_, h2] at h0
      rw [cell?_eq (putObj_other this)]; exact h0
    · intro b S hS
      obtain ⟨arr, e, fr, hh, hs⟩ := inv.σ b S hS
      have : l ≠ b := by rintro rfl; rw [h2] at hh; simp at hh
      exact ⟨arr, e, fr, (putObj_other this).trans hh, hs⟩
    · rw [h1] at hm; cases hm; rfl
  refine ⟨fun st' pend' hc => gen _ _ ⟨hν, l, _, h1, World.putObj_heap_same hlt, rfl, rfl, ⟨a3, a3', hc⟩, a4, a5, a6, a7⟩, fun r' => gen _ _ trivial⟩

/-! ### Forgetting -/
def WT.cut (Δ : WT) (n : Nat) : WT := { Δ with N := n }
theorem lt0_cut {Δ : WT} {n : Nat} (hn : n ≤ Δ.N) {x : V} {v : Value} (hx : x.lt0 n = true) (h : Rep Δ x v) : Rep (Δ.cut n) x v := by
  have pl : ∀ {id ver b p}, id < n → Place Δ id ver b p → Place (Δ.cut n) id ver b p := fun h1 h2 => ⟨h1, h2.2⟩
  cases h with
  | unk v => exact .unk v
  | sc v => exact .sc v
  | list sz xs tk v h ht =>
    refine .list sz xs tk v h ?_
    cases tk with
    | no => exact ht
    | full => exact ht
    | tail id =>
      obtain ⟨b, o, cap, S, h1, h2, h3, h4⟩ := ht
      exact ⟨b, o, cap, S, h1, pl (by simpa [V.lt0] using hx) h2, h3, h4⟩
  | pptr sz xs i k b o h => exact .pptr sz xs i k b o h
  | ref id off b h => exact .ref id off b (pl (by simpa [V.lt0] using hx) h)
  | sl id ver sz off len b cap S h hs hc hl => exact .sl id ver sz off len b cap S (pl (by simpa [V.lt0] using hx) h) hs hc hl
  | eref id ver sz i k b h => exact .eref id ver sz i k b (pl (by simpa [V.lt0] using hx) h)
  | csl id off len b cap h hl => exact .csl id off len b cap (pl (by simpa [V.lt0] using hx) h) hl
  | agg cs vs hn h => simp [V.lt0] at hx
  | tup cs vs hn h => simp [V.lt0] at hx
  | fn f first caps us vs hu hv h1 h2 => simp [V.lt0] at hx
  | yld id l h => exact .yld id l (pl (by simpa [V.lt0] using hx) h)
  | mp id b h => exact .mp id b (pl (by simpa [V.lt0] using hx) h)
theorem lt1_cut {Δ : WT} {n : Nat} (hn : n ≤ Δ.N) {x : V} {v : Value} (hx : x.lt1 n = true) (h : Rep Δ x v) : Rep (Δ.cut n) x v := by
  cases h with
  | agg cs vs hn' h => simp only [V.lt1, List.all_eq_true] at hx; exact .agg cs vs hn' fun i y u hy hu => lt0_cut hn (hx y (List.mem_of_getElem? hy)) (h i y u hy hu)
  | tup cs vs hn' h => simp only [V.lt1, List.all_eq_true] at hx; exact .tup cs vs hn' fun i y u hy hu => lt0_cut hn (hx y (List.mem_of_getElem? hy)) (h i y u hy hu)
  | fn f first caps us vs hu hv h1 h2 =>
    simp only [V.lt1, Bool.and_eq_true, List.all_eq_true] at hx
    exact .fn f first caps us vs hu hv (fun i y u hy hu => lt0_cut hn (hx.1 y (List.mem_of_getElem? hy)) (h1 i y u hy hu)) (fun i y u hy hu => lt0_cut hn (hx.2 y (List.mem_of_getElem? hy)) (h2 i y u hy hu))
  | unk v => exact lt0_cut hn hx (.unk v)
  | sc v => exact lt0_cut hn hx (.sc v)
  | list sz xs tk v h ht => exact lt0_cut hn hx (.list sz xs tk v h ht)
  | pptr sz xs i k b o h => exact lt0_cut hn hx (.pptr sz xs i k b o h)
  | ref id off b h => exact lt0_cut hn hx (.ref id off b h)
  | sl id ver sz off len b cap S h hs hc hl => exact lt0_cut hn hx (.sl id ver sz off len b cap S h hs hc hl)
  | eref id ver sz i k b h => exact lt0_cut hn hx (.eref id ver sz i k b h)
  | csl id off len b cap h hl => exact lt0_cut hn hx (.csl id off len b cap h hl)
  | yld id l h => exact lt0_cut hn hx (.yld id l h)
  | mp id b h => exact lt0_cut hn hx (.mp id b h)
theorem ltN_cut {Δ : WT} {n : Nat} (hn : n ≤ Δ.N) {x : V} {v : Value} (hx : x.ltN n = true) (h : Rep Δ x v) : Rep (Δ.cut n) x v := by
  cases h with
  | agg cs vs hn' h => simp only [V.ltN, List.all_eq_true] at hx; exact .agg cs vs hn' fun i y u hy hu => lt1_cut hn (hx y (List.mem_of_getElem? hy)) (h i y u hy hu)
  | tup cs vs hn' h => simp only [V.ltN, List.all_eq_true] at hx; exact .tup cs vs hn' fun i y u hy hu => lt1_cut hn (hx y (List.mem_of_getElem? hy)) (h i y u hy hu)
  | fn f first caps us vs hu hv h1 h2 =>
    simp only [V.ltN, Bool.and_eq_true, List.all_eq_true] at hx
    exact .fn f first caps us vs hu hv (fun i y u hy hu => lt1_cut hn (hx.1 y (List.mem_of_getElem? hy)) (h1 i y u hy hu)) (fun i y u hy hu => lt1_cut hn (hx.2 y (List.mem_of_getElem? hy)) (h2 i y u hy hu))
  | unk v => exact lt0_cut hn hx (.unk v)
  | sc v => exact lt0_cut hn hx (.sc v)
  | list sz xs tk v h ht => exact lt0_cut hn hx (.list sz xs tk v h ht)
  | pptr sz xs i k b o h => exact lt0_cut hn hx (.pptr sz xs i k b o h)
  | ref id off b h => exact lt0_cut hn hx (.ref id off b h)
  | sl id ver sz off len b cap S h hs hc hl => exact lt0_cut hn hx (.sl id ver sz off len b cap S h hs hc hl)
  | eref id ver sz i k b h => exact lt0_cut hn hx (.eref id ver sz i k b h)
  | csl id off len b cap h hl => exact lt0_cut hn hx (.csl id off len b cap h hl)
  | yld id l h => exact lt0_cut hn hx (.yld id l h)
  | mp id b h => exact lt0_cut hn hx (.mp id b h)

theorem cut_ob {Δ : WT} {w : World} {n id : Nat} (hn : n ≤ Δ.N) {o : Ob} (ho : o.ltN n = true) (h : ObOk Δ w id o) : ObOk (Δ.cut n) w id o := by
  cases o with
  | dead => trivial
  | pad => exact h
  | cells bt c =>
    simp only [Ob.ltN, List.all_eq_true] at ho
    obtain ⟨hν, b, h1, h2, h3, h4⟩ := h
    exact ⟨hν, b, h1, h2, fun j x hx => let ⟨v, hv, hr⟩ := h3 j x hx; ⟨v, hv, ltN_cut hn (ho x (List.mem_of_getElem? hx)) hr⟩, h4⟩
  | tail bt n' => exact h
  | arr ver wm sz xs => exact h
  | map es =>
    simp only [Ob.ltN, List.all_eq_true] at ho
    obtain ⟨hν, b, arr, clock, h1, h2, h3⟩ := h
    exact ⟨hν, b, arr, clock, h1, h2, h3.size, h3.nd, h3.st, fun k x hk => let ⟨e, g1, g2, g3⟩ := h3.to k x hk; ⟨e, g1, g2, ltN_cut hn (ho (k, x) hk) g3⟩, h3.from_⟩
  | loop st pend fid tmps params assign body =>
    simp only [Ob.ltN, List.all_eq_true] at ho
    obtain ⟨hν, l, r, h1, h2, a1, a2, a3, a4, a5⟩ := h
    exact ⟨hν, l, r, h1, h2, a1, a2, a3, ⟨a4.1, fun i x v hx hv => ltN_cut hn (ho x (List.mem_of_getElem? hx)) (a4.2 i x v hx hv)⟩, a5⟩

theorem gc_ok {Δ Δ' : WT} {h h' : H} {w w' : World} (inv : Inv Δ h w) (inv' : Inv Δ' h' w') (s : Step Δ h w Δ' h' w') :
    ∃ Δ'', Inv Δ'' (gc h.length h') w' ∧ Step Δ h w Δ'' (gc h.length h') w' ∧ ∀ x v, V.ltN h.length x = true → Rep Δ' x v → Rep Δ'' x v := by
  have hle : h.length ≤ h'.length := by rw [← inv.N, ← inv'.N]; exact s.ext.N
  have hN : h.length ≤ Δ'.N := by rw [inv'.N]; exact hle
  unfold gc
  split
  · rename_i hall
    have hget : ∀ (id : Nat) (o : Ob), (h'.take h.length)[id]? = some o → h'[id]? = some o := by
      intro id o ho
      rw [List.getElem?_take] at ho
      split at ho
      · exact ho
      · simp at ho
    refine ⟨Δ'.cut h.length, ⟨inv'.ι, inv'.σ, by simp [WT.cut, hle], ?_, ?_⟩, ⟨⟨s.ext.ι, s.ext.σ, by rw [inv.N]; exact Nat.le_refl _, s.ext.ν, s.ext.μ, s.ext.G⟩, s.os, s.tape, s.output, s.size, s.block, ?_, s.newι, s.loops⟩, fun x v hx hr => ltN_cut hN hx hr⟩
    · intro id o ho
      exact cut_ob hN (List.all_eq_true.1 hall o (List.mem_of_getElem? ho)) (inv'.ob id o (hget id o ho))
    · intro id id' o o' b p p' h1 h2
      exact inv'.dis id id' o o' b p p' (hget _ _ h1) (hget _ _ h2)
    · rintro b hb ⟨id, o, p, ho, hl, hm⟩
      exact s.own b hb ⟨id, o, p, hget _ _ ho, hl, hm⟩
  · exact ⟨Δ', inv', s, fun x v _ hr => hr⟩

end Go.Pv
/-
  What is to be shown of calls and of code; operations, calls, rounds.
-/
set_option linter.unusedSimpArgs false
set_option linter.unusedVariables false
namespace Go.Pv
open Go

def FW (ρ : Option Nat) : Fence := { Fence.wide with round := ρ }
def RoundOk (ρ : Option Nat) (w : World) : Prop := ∀ l, ρ = some l → ∃ r, w.heap[l]? = some (Obj.loop r)
theorem RoundOk.step {ρ : Option Nat} {Δ Δ' : WT} {h h' : H} {w w' : World} (k : RoundOk ρ w) (s : Step Δ h w Δ' h' w') : RoundOk ρ w' := fun l hl => let ⟨r, hr⟩ := k l hl; s.loops l r hr

/-- What a call's end is. -/
def CallEnd (v : V) (h' : H) (Δ : WT) (h : H) (w : World) (e : Ending) (w' : World) : Prop :=
  ∃ val Δ', e = .returned val ∧ Inv Δ' h' w' ∧ Rep Δ' v val ∧ Step Δ h w Δ' h' w'
def FnOk (P : Program) (g : FuncId) : Prop := ∃ fn, P.funcs[g]? = some fn ∧ fn.body.isSome = true ∧ (fn.name == "runtime.NumGoroutine") = false
def CallOk (C : Cx2) (G : FuncId → Code → Prop) (g : FuncId) (args : List V) (h : H) (v : V) (h' : H) : Prop :=
  FnOk C.P g ∧ ∀ (Δ : WT) (w : World) (vs : Array Value), Δ.G = G → Inv Δ h w → GOk C.toCx Δ → RepL Δ args vs.toList → CallsIn (FW none) 0 C.P g vs w (CallEnd v h' Δ h w)
def exOf : Ex → Exit
  | .normal => .normal
  | .exit id => .exit id
  | .ret => .ret
def CodeEnd (n0 : Nat) (e : Ex) (st' : St) (Δ : WT) (h : H) (w : World) (x : Exit) (a' : Act) (w' : World) : Prop :=
  x = exOf e ∧ ∃ Δ', Inv Δ' st'.heap w' ∧ RepL Δ' st'.env a'.tmps.toList ∧ Marks n0 w' a'.defers ∧ Step Δ h w Δ' st'.heap w'
/-- A state of the evaluator and one of the machine. -/
structure At (C : Cx2) (G : FuncId → Code → Prop) (n0 : Nat) (ρ : Option Nat) (st : St) (Δ : WT) (a : Act) (w : World) : Prop where
  G : Δ.G = G
  inv : Inv Δ st.heap w
  gl : GOk C.toCx Δ
  env : RepL Δ st.env a.tmps.toList
  marks : Marks n0 w a.defers
  n0 : n0 ≤ w.heap.size
  round : RoundOk ρ w
def CodeOk (C : Cx2) (G : FuncId → Code → Prop) (c : Code) (st : St) (e : Ex) (st' : St) : Prop :=
  ∀ (n0 : Nat) (ρ : Option Nat) (Δ : WT) (a : Act) (w : World), At C G n0 ρ st Δ a w → c.wpIn (FW ρ) 0 C.P (CodeEnd n0 e st' Δ st.heap w) a w
structure SmOk (C : Cx2) (G : FuncId → Code → Prop) (S : Sm) : Prop where
  call : ∀ g args h v h', S.call g args h = some (v, h') → CallOk C G g args h v h'
  code : ∀ fid c st e st', S.code fid c st = some (e, st') → G fid c → CodeOk C G c st e st'

theorem At.step {C : Cx2} {G : FuncId → Code → Prop} {n0 : Nat} {ρ : Option Nat} {st st' : St} {Δ Δ' : WT} {a a' : Act} {w w' : World} (k : At C G n0 ρ st Δ a w) (inv : Inv Δ' st'.heap w') (env : RepL Δ' st'.env a'.tmps.toList)
    (s : Step Δ st.heap w Δ' st'.heap w') (hd : a'.defers = a.defers) : At C G n0 ρ st' Δ' a' w' :=
  ⟨s.ext.G.trans k.G, inv, k.gl.ext s.ext, env, hd ▸ k.marks.step k.inv s, Nat.le_trans k.n0 s.size, k.round.step s⟩

theorem put_rep {Δ : WT} {env : List V} {a : Act} (hr : RepL Δ env a.tmps.toList) (d : Option Tmp) {v : V} {val : Value} (h : Rep Δ v val) : RepL Δ (putV env d v) (a.put d val).tmps.toList := by
  cases d with
  | none => exact hr
  | some t =>
    simp only [putV, Act.put, Array.toList_setIfInBounds]
    refine ⟨by simp [hr.1], fun i x u hx hu => ?_⟩
    rw [List.getElem?_set] at hx hu
    split at hx
    · rename_i hi
      rw [if_pos hi] at hu
      split at hx
      · split at hu
        · simp at hx hu; subst hx hu; exact h
        · simp at hu
      · simp at hx
    · rename_i hi
      rw [if_neg hi] at hu
      exact hr.2 i x u hx hu
theorem undef_tup (Δ : WT) : Rep Δ (.tup []) undef := .tup [] #[] rfl (fun i x v hx => by simp at hx)
theorem put_defers (a : Act) (d : Option Tmp) (v : Value) : (a.put d v).defers = a.defers := by cases d <;> rfl

theorem guard_ok {ops : Array Oper} {env : List V} {o : Oper} {b : Bool} (h : guardV ops env o = some b) {Δ : WT} {a : Act} (hr : RepL Δ env a.tmps.toList) : Region.wanted o (yielded ops a.tmps) = b := by
  unfold guardV at h
  unfold Region.wanted
  cases hg : o.guard with
  | none => simp [hg] at h ⊢; exact h.symm ▸ rfl
  | some jw =>
    obtain ⟨j, want⟩ := jw
    simp only [hg] at h ⊢
    cases hd : (ops[j]?).bind (·.dst) with
    | none => rw [hd] at h; simp at h
    | some t =>
      rw [hd] at h
      simp only [Option.bind_some] at h
      split at h
      · rename_i b' hb
        simp only [Option.some.injEq] at h
        have hlt : t < env.length := (List.getElem?_eq_some_iff.1 hb).1
        have hlt' : t < a.tmps.size := by have h0 := hr.1; rw [Array.length_toList (xs := a.tmps)] at h0; exact Nat.lt_of_lt_of_eq hlt h0
        have := hr.2 t _ a.tmps[t] hb (by simp [hlt'])
        have h2 : a.tmps[t] = .bool b' := by generalize a.tmps[t] = u at this; cases this; rfl
        simp only [yielded, hd, Option.bind_some, Array.getElem?_eq_getElem hlt', h2]
        rw [← h]
        cases b' <;> cases want <;> rfl
      · rename_i us hb
        simp only [Option.some.injEq] at h
        have hlt : t < env.length := (List.getElem?_eq_some_iff.1 hb).1
        have hlt' : t < a.tmps.size := by have h0 := hr.1; rw [Array.length_toList (xs := a.tmps)] at h0; exact Nat.lt_of_lt_of_eq hlt h0
        have := hr.2 t _ a.tmps[t] hb (by simp [hlt'])
        obtain ⟨vs, h2⟩ : ∃ vs, a.tmps[t] = .tuple vs := by generalize a.tmps[t] = u at this; cases this; exact ⟨_, rfl⟩
        simp only [yielded, hd, Option.bind_some, Array.getElem?_eq_getElem hlt', h2]
        rw [← h]; rfl
      · simp at h

theorem not_defer {C : Cx} {own : Bool} {env : List V} {o : Oper} {v : V} {h h' : H} (e : (opHP C own env o).run h = some (v, h')) : ∀ c, o.op ≠ .defer c := by
  intro c hc
  unfold opHP at e
  simp [hc, HP.run] at e

section
variable {C : Cx2} {G : FuncId → Code → Prop}

/-- What an operation's step asks. -/
theorem oper_value {ρ : Option Nat} {o : Oper} {a : Act} {w w' : World} {next : Act → World → Prop} {Q : Exit → Act → World → Prop} {nx : Next} {v : V} {Δ' : WT}
    (hrun : (execOp a.eval o).run C.P w = .ok nx w') (hnd : ∀ c, o.op ≠ .defer c) (hnx : (∃ val, nx = .value val ∧ Rep Δ' v val) ∨ (nx = .skip ∧ v = .unk))
    (k : ∀ val, Rep Δ' v val → next (a.put o.dst val) w') : o.wpIn (FW ρ) 0 C.P a w next Q := by
  refine ⟨fun _ _ => trivial, ?_⟩
  rw [Oper.semAt_eq _ _ _ hnd, hrun]
  rcases hnx with ⟨val, rfl, hv⟩ | ⟨rfl, rfl⟩
  · exact k val hv
  · exact k undef (.unk _)

theorem callFunc_ok {P : Program} {g : FuncId} (h : FnOk P g) (args : Array Value) (w : World) : (callFunc g args).run P w = .ok (.enter g args) w := by
  obtain ⟨fn, h1, h2, h3⟩ := h
  have h3' : ¬ fn.name = "runtime.NumGoroutine" := by simpa using h3
  have h4 : ¬ fn.body = none := by intro hb; simp [hb] at h2
  simp [callFunc, go_sem, h1, h3', h4]

/-- A round. -/
theorem setParams_rep {Δ : WT} : ∀ (ps : List Tmp) (args : List V) (vs : List Value) (tmps : List V) (us : Array Value), RepL Δ args vs → RepL Δ tmps us.toList →
    RepL Δ (setParams ps args tmps) ((ps.zip vs).foldl (fun t (p, v) => t.setIfInBounds p v) us).toList
  | [], args, vs, tmps, us, _, h => by cases args <;> simpa [setParams] using h
  | p :: ps, [], vs, tmps, us, ha, h => by
    have : vs = [] := by have := ha.1; cases vs <;> simp_all
    subst this; simpa [setParams] using h
  | p :: ps, x :: args, vs, tmps, us, ha, h => by
    obtain ⟨v, vs', rfl, h1, h2⟩ := ha.cons_inv
    simp only [setParams, List.zip_cons_cons, List.foldl_cons]
    refine setParams_rep ps args vs' _ _ h2 ?_
    exact put_rep (a := ⟨us, []⟩) h (some p) h1

theorem zip_foldl (ps : Array Tmp) (vs : Array Value) (t : Array Value) :
    (ps.zip vs).foldl (fun t (x : Tmp × Value) => t.setIfInBounds x.1 x.2) t = (ps.toList.zip vs.toList).foldl (fun t (x : Tmp × Value) => t.setIfInBounds x.1 x.2) t := by
  rw [← Array.foldl_toList, Array.toList_zip]

theorem jumpOf_none {e : Ex} : jumpOf e = none ↔ e = .normal := by cases e <;> simp [jumpOf]

theorem round_ok {S : Sm} (hS : SmOk C G S) (hGj : ∀ f e c, jumpOf e = some c → G f c) {id : Nat} {args : List V} {v : V} {h h' : H} (e : yieldV S id args h = some (v, h')) {Δ : WT} {w : World} {l : Nat} {vs : Array Value}
    (hG : Δ.G = G) (inv : Inv Δ h w) (gl : GOk C.toCx Δ) (hl : Place Δ id 1 l 0) (hr : RepL Δ args vs.toList) :
    ∃ f tmps assign body, (Instr.yield l vs).run C.P w = .ok (.round l f tmps assign body) w ∧ ∀ ρ, RoundIn (FW ρ) 0 C.P l f tmps assign body w (CallEnd v h' Δ h w) := by
  unfold yieldV at e
  split at e
  · rename_i fid tmps params assign body ho
    obtain ⟨r, h1, h2, h3, h4, ⟨h5, h5'⟩, h6, h7, h8, h9, _, _⟩ := turn_loop inv ho hl
    split at e
    · rename_i hlen
      have hps : vs.size = r.params.size := by
        have := hr.1; rw [← h7] at hlen; simp at hlen this; omega
      refine ⟨r.fn, _, r.assign, r.body, run_yield h1 hps, fun ρ => roundIn_of_wpIn trivial ?_⟩
      cases ea : S.code fid assign ⟨setParams params args tmps, h⟩ with
      | none => rw [ea] at e; simp at e
      | some ra =>
        obtain ⟨xa, st1⟩ := ra
        rw [ea] at e
        simp only [Option.bind_some] at e
        split at e
        · rename_i st1' heq
          injection heq with hx hst; subst hx hst
          split at e
          · rename_i f1 t1 p1 a1 b1 ho1
            have at0 : At C G w.heap.size (some l) ⟨setParams params args tmps, h⟩ Δ ⟨(r.params.zip vs).foldl (fun t (x : Tmp × Value) => t.setIfInBounds x.1 x.2) r.tmps, []⟩ w :=
              ⟨hG, inv, gl, by rw [zip_foldl, h7]; exact setParams_rep _ _ _ _ _ hr h6, Marks.nil _ _, Nat.le_refl _, fun l' hl' => by cases hl'; exact ⟨r, h1⟩⟩
            have wa := hS.code fid assign _ _ _ ea (by rw [← hG]; exact h5) _ _ _ _ _ at0
            rw [h8]
            refine wpIn_mono wa ?_
            rintro x aa wa' ⟨rfl, Δ1, inv1, env1, marks1, s1⟩
            have hl1 : Place Δ1 id 1 l 0 := hl.ext s1.ext
            obtain ⟨r1, k1, k2, k3, k4, k5, k6, k7, k8, k9, kt, _⟩ := turn_loop inv1 ho1 hl1
            obtain ⟨inv2, s2⟩ := kt .busy none (fun c hc => by simp at hc)
            rw [← k3] at inv2 s2
            refine ⟨_, run_beginRound k1 k2, ?_⟩
            cases eb : S.code fid body ⟨st1.env, st1.heap.set id (.loop .busy none f1 t1 p1 a1 b1)⟩ with
            | none => rw [eb] at e; simp at e
            | some rb =>
              obtain ⟨xb, st2⟩ := rb
              rw [eb] at e
              simp only [Option.bind_some] at e
              split at e
              · rename_i f2 t2 p2 a2 b2 ho2
                simp only [Option.some.injEq, Prod.mk.injEq] at e
                obtain ⟨rfl, rfl⟩ := e
                rw [k3] at inv2 s2
                have s02 := s1.trans s2
                have at2 : At C G w.heap.size (some l) ⟨st1.env, st1.heap.set id (.loop .busy none f1 t1 p1 a1 b1)⟩ Δ1 aa (wa'.putObj l (.loop { r1 with state := .busy, pending := none })) :=
                  ⟨s1.ext.G.trans hG, inv2, gl.ext s1.ext, env1, marks1.step inv1 s2, Nat.le_trans at0.n0 s02.size, at0.round.step s02⟩
                have wb := hS.code fid body _ _ _ eb (by rw [← hG]; exact h5') _ _ _ _ _ at2
                rw [h9]
                have hrec : ({ r1 with state := .busy } : Loop) = { r1 with state := .busy, pending := none } := by cases r1; simp at k3; simp [k3]
                rw [hrec]
                refine wpIn_mono wb ?_
                rintro x ab wb' ⟨rfl, Δ3, inv3, env3, marks3, s3⟩
                have hl3 : Place Δ3 id 1 l 0 := hl1.ext s3.ext
                obtain ⟨r3, m1, m2, m3, m4, m5, m6, m7, m8, m9, mt, _⟩ := turn_loop inv3 ho2 hl3
                have hG3 : Δ3.G = G := s3.ext.G.trans (s1.ext.G.trans hG)
                obtain ⟨inv4, s4⟩ := mt (if (jumpOf xb).isNone then .ready else .done) (jumpOf xb) (fun c hc f => by rw [hG3]; exact hGj f xb c hc)
                obtain ⟨Δ5, inv5, s5, _⟩ := gc_ok inv inv4 ((s02.trans s3).trans s4)
                have fin := run_endRound (P := C.P) (jumpOf xb) m1
                have cend : CallEnd (.sc (.bool (jumpOf xb).isNone)) (gc h.length (st2.heap.set id (.loop (if (jumpOf xb).isNone then .ready else .done) (jumpOf xb) f2 t2 p2 a2 b2))) Δ h w
                    (.returned (.bool (jumpOf xb).isNone)) (wb'.putObj l (.loop { r3 with state := if (jumpOf xb).isNone then .ready else .done, pending := jumpOf xb })) :=
                  ⟨_, Δ5, rfl, inv5, .sc _, s5⟩
                cases xb with
                | normal => exact ⟨_, _, fin, cend⟩
                | exit id' => exact ⟨_, _, fin, cend⟩
                | ret => exact ⟨_, _, fin, cend⟩
              · simp at e
          · simp at e
        · simp at e
    · simp at e
  · simp at e
end

end Go.Pv
/-
  Results; functions called with plain data; heaps side by side.
-/
set_option linter.unusedSimpArgs false
set_option linter.unusedVariables false
namespace Go.Pv
open Go

theorem toList_getD (a : Array Value) (i : Nat) (d : Value) : a.toList.getD i d = a.getD i d := by
  simp [Array.getD_eq_getD_getElem?, List.getD_eq_getElem?_getD]
def resSem (tmps : Array Value) : ResultVar → Sem Value
  | .tmp t => pure (tmps.getD t undef)
  | .cell a t => do loadVar t (← asAddr (tmps.getD a undef))
theorem resultsV_ok {P : Program} {env : List V} {Δ : WT} {w : World} {tmps : Array Value} {h : H} (inv : Inv Δ h w) (hr : RepL Δ env tmps.toList) : ∀ (rs : List ResultVar) {vs : List V} {is is' : List Nat} {h' : H}, (resultsV P env rs).runAt is h = some (vs, is', h') →
    is' = is ∧ h' = h ∧ ∃ us, (rs.mapM (m := Sem) (resSem tmps)).run P w = .ok us w ∧ RepL Δ vs us
  | [], vs, is, is', h', e => by
    obtain ⟨rfl, rfl, rfl⟩ := runAt_ret e
    exact ⟨rfl, rfl, [], by simp [go_sem], .nil _⟩
  | .tmp t :: rs, vs, is, is', h', e => by
    simp only [resultsV] at e
    obtain ⟨vs', is1, h1, e1, e2⟩ := runAt_bind_inv e
    obtain ⟨rfl, rfl, us, h1, h2⟩ := resultsV_ok inv hr rs e1
    obtain ⟨rfl, rfl, rfl⟩ := runAt_ret e2
    refine ⟨rfl, rfl, tmps.getD t undef :: us, ?_, ?_⟩
    · simp only [List.mapM_cons, resSem, Sem.run_bind, Sem.run_pure, Result.andThen_ok, h1]
    · have := hr.getD t
      rw [toList_getD] at this
      exact .cons this h2
  | .cell a t :: rs, vs, is, is', h', e => by
    simp only [resultsV] at e
    split at e
    · rename_i hu
      obtain ⟨v, is1, h1, e1, e2⟩ := runAt_bind_inv e
      obtain ⟨cs, is2, h2, e3, e4⟩ := runAt_bind_inv e1
      have ha := hr.getD a
      rw [toList_getD] at ha
      obtain ⟨hi2, hh2, b, o, ws, hpv, hn, hc, hrl⟩ := readAt_sound e3 inv ha
      subst hi2 hh2
      obtain ⟨hp, hi1, hh1⟩ := runAt_opt e4
      subst hi1 hh1
      obtain ⟨vs', is3, h3, e5, e6⟩ := runAt_bind_inv e2
      obtain ⟨hi3, hh3, us, k1, k2⟩ := resultsV_ok inv hr rs e5
      subst hi3 hh3
      obtain ⟨rfl, hi, hh⟩ := runAt_ret e6
      obtain ⟨val, hs, hrep⟩ := pack_load hp hn hc hrl hu
      refine ⟨hi, hh, val :: us, ?_, .cons hrep k2⟩
      simp only [List.mapM_cons, resSem, Sem.run_bind, Sem.run_pure, Result.andThen_ok, hpv, asAddr, hs, k1]
    · exact (runAt_fail e).elim

theorem tupOf_rep {Δ : WT} : ∀ {vs : List V} {us : List Value}, RepL Δ vs us → Rep Δ (tupOf vs) (if k : us.toArray.size = 1 then us.toArray[0] else .tuple us.toArray)
  | [], us, h => by
    have hl := h.1
    rw [dif_neg (by simp at hl ⊢; omega)]
    exact .tup _ _ (by simp [h.1]) (fun i x v hx hv => h.2 i x v hx (by simpa using hv))
  | [x], us, h => by
    obtain ⟨v, us', rfl, h1, h2⟩ := h.cons_inv
    have : us' = [] := by have := h2.1; cases us' <;> simp_all
    subst this; exact h1
  | x :: y :: r, us, h => by
    have hl := h.1
    rw [dif_neg (by simp at hl ⊢; omega)]
    exact .tup _ _ (by simp [h.1]) (fun i x v hx hv => h.2 i x v hx (by simpa using hv))
theorem results_run {P : Program} {fn : Func} {tmps : Array Value} {w : World} {us : List Value} (h : (fn.results.toList.mapM (m := Sem) (resSem tmps)).run P w = .ok us w) :
    (results fn tmps).run P w = .ok (if k : us.toArray.size = 1 then us.toArray[0] else .tuple us.toArray) w := by
  have : (fn.results.mapM (m := Sem) (resSem tmps)).run P w = .ok us.toArray w := by
    rw [Array.mapM_eq_mapM_toList]
    rw [map_eq_pure_bind]
    simp only [Sem.run_bind, h, Result.andThen_ok, Sem.run_pure]
  show (do let vs ← fn.results.mapM (m := Sem) (resSem tmps); pure (if h : vs.size = 1 then vs[0] else .tuple vs) : Sem Value).run P w = _
  simp only [Sem.run_bind, this, Result.andThen_ok, Sem.run_pure]

/-! ### Plain data -/
theorem isD_rep {Δ Δ' : WT} {x : V} {v : Value} (hs : SubI Δ.ι Δ'.ι) (hx : isD x = true) (h : Rep Δ x v) : Rep Δ' x v := by
  cases h with
  | sc v => exact .sc v
  | list sz xs tk v h ht =>
    cases tk with
    | no => exact .list sz xs .no v (h.mono hs) trivial
    | full => simp [isD] at hx
    | tail id => simp [isD] at hx
  | _ => simp [isD] at hx
theorem isArg_rep {Δ Δ' : WT} {x : V} {v : Value} (hs : SubI Δ.ι Δ'.ι) (hx : isArg x = true) (h : Rep Δ x v) : Rep Δ' x v := by
  cases x with
  | agg cs =>
    cases h with
    | agg _ vs hn h =>
      simp only [isArg, List.all_eq_true] at hx
      exact .agg cs vs hn fun i y u hy hu => isD_rep hs (hx y (List.mem_of_getElem? hy)) (h i y u hy hu)
  | _ => exact isD_rep hs hx h
theorem isArgs_rep {Δ Δ' : WT} {xs : List V} {vs : List Value} (hs : SubI Δ.ι Δ'.ι) (hx : xs.all isArg = true) (h : RepL Δ xs vs) : RepL Δ' xs vs :=
  ⟨h.1, fun i x v k1 k2 => isArg_rep hs (List.all_eq_true.1 hx x (List.mem_of_getElem? k1)) (h.2 i x v k1 k2)⟩

/-- No objects. -/
def WT.bare (Δ : WT) : WT := { Δ with N := 0, μ := fun _ => none, ν := fun _ => 0 }
theorem bare_inv {Δ : WT} {h : H} {w : World} (inv : Inv Δ h w) : Inv Δ.bare [] w :=
  ⟨inv.ι, inv.σ, rfl, fun id o ho => by simp at ho, fun id _ o _ _ _ _ ho => by simp at ho⟩
theorem not_ob_nil {Δ : WT} {b : Nat} : ¬ OB Δ [] b := by rintro ⟨id, o, p, ho, _⟩; simp at ho

/-- What another's world has come to, our objects lie as they lay. -/
theorem beside {Δ Δ2 : WT} {h h2 : H} {w w2 : World} (inv : Inv Δ h w) (inv2 : Inv Δ2 h2 w2) (s : Step Δ.bare [] w Δ2 h2 w2) :
    Inv { Δ with ι := Δ2.ι, σ := Δ2.σ } h w2 ∧ Step Δ h w { Δ with ι := Δ2.ι, σ := Δ2.σ } h w2 := by
  have ext : Ext Δ { Δ with ι := Δ2.ι, σ := Δ2.σ } := ⟨s.ext.ι, s.ext.σ, Nat.le_refl _, fun _ _ => Nat.le_refl _, fun _ _ _ => rfl, rfl⟩
  refine ⟨⟨inv2.ι, inv2.σ, inv.N, fun id o ho => ?_, inv.dis⟩, ⟨ext, s.os, s.tape, s.output, s.size, fun b hb _ => s.block b hb not_ob_nil, fun b _ k => k, fun b o hb _ => s.newι b o hb not_ob_nil, s.loops⟩⟩
  refine (inv.ob id o ho).keep ext rfl rfl fun b p hl hm => ?_
  have hb := (inv.ob id o ho).lt hl hm
  exact ⟨s.block b hb not_ob_nil, fun j => s.newι b j hb not_ob_nil⟩

/-- Two heaps, one behind the other. -/
def WT.join (Δ : WT) (n : Nat) (Δ2 : WT) : WT :=
  { ι := Δ2.ι, σ := Δ2.σ, μ := fun i => if i < n then Δ.μ i else Δ2.μ (i - n), ν := fun i => if i < n then Δ.ν i else Δ2.ν (i - n), N := n + Δ2.N, G := Δ.G }
theorem shift0_join {Δ Δ2 : WT} {n : Nat} {x : V} {v : Value} (h : Rep Δ2 x v) : Rep (Δ.join n Δ2) (x.shift0 n) v := by
  have pl : ∀ {id ver b p}, Place Δ2 id ver b p → Place (Δ.join n Δ2) (id + n) ver b p := fun {id ver b p} h => by
    have : ¬ id + n < n := by omega
    refine ⟨by simp [WT.join]; have := h.1; omega, by simp [WT.join, this]; exact h.2.1, fun k => ?_⟩
    simp [WT.join, this] at k ⊢
    exact h.2.2 k
  cases h with
  | unk v => exact .unk v
  | sc v => exact .sc v
  | list sz xs tk v h ht =>
    cases tk with
    | no => exact .list sz xs .no v h trivial
    | full => exact .list sz xs .full v h ht
    | tail id =>
      obtain ⟨b, o, cap, S, h1, h2, h3, h4⟩ := ht
      exact .list sz xs (.tail (id + n)) v h ⟨b, o, cap, S, h1, pl h2, h3, h4⟩
  | pptr sz xs i k b o h => exact .pptr sz xs i k b o h
  | ref id off b h => exact .ref _ off b (pl h)
  | sl id ver sz off len b cap S h hs hc hl => exact .sl _ ver sz off len b cap S (pl h) hs hc hl
  | eref id ver sz i k b h => exact .eref _ ver sz i k b (pl h)
  | csl id off len b cap h hl => exact .csl _ off len b cap (pl h) hl
  | agg cs vs hn h => exact .unk _
  | tup cs vs hn h => exact .unk _
  | fn f first caps us vs hu hv h1 h2 => exact .unk _
  | yld id l h => exact .yld _ l (pl h)
  | mp id b h => exact .mp _ b (pl h)
theorem map_rep {Δ Δ' : WT} {f : V → V} {cs : List V} {vs : Array Value} (hf : ∀ x v, Rep Δ x v → Rep Δ' (f x) v) (h : ∀ (i : Nat) (x : V) (v : Value), cs[i]? = some x → vs[i]? = some v → Rep Δ x v) :
    ∀ (i : Nat) (x : V) (v : Value), (cs.map f)[i]? = some x → vs[i]? = some v → Rep Δ' x v := by
  intro i x v hx hv
  rw [List.getElem?_map] at hx
  cases hc : cs[i]? with
  | none => simp [hc] at hx
  | some y => simp [hc] at hx; subst hx; exact hf y v (h i y v hc hv)
theorem shift1_join {Δ Δ2 : WT} {n : Nat} {x : V} {v : Value} (h : Rep Δ2 x v) : Rep (Δ.join n Δ2) (x.shift1 n) v := by
  cases h with
  | agg cs vs hn h => exact .agg _ vs (by simpa using hn) (map_rep (fun x v => shift0_join) h)
  | tup cs vs hn h => exact .tup _ vs (by simpa using hn) (map_rep (fun x v => shift0_join) h)
  | fn f first caps us vs hu hv h1 h2 => exact .fn f _ _ us vs (by simpa using hu) (by simpa using hv) (map_rep (fun x v => shift0_join) h1) (map_rep (fun x v => shift0_join) h2)
  | unk v => exact shift0_join (.unk v)
  | sc v => exact shift0_join (.sc v)
  | list sz xs tk v h ht => exact shift0_join (.list sz xs tk v h ht)
  | pptr sz xs i k b o h => exact shift0_join (.pptr sz xs i k b o h)
  | ref id off b h => exact shift0_join (.ref id off b h)
  | sl id ver sz off len b cap S h hs hc hl => exact shift0_join (.sl id ver sz off len b cap S h hs hc hl)
  | eref id ver sz i k b h => exact shift0_join (.eref id ver sz i k b h)
  | csl id off len b cap h hl => exact shift0_join (.csl id off len b cap h hl)
  | yld id l h => exact shift0_join (.yld id l h)
  | mp id b h => exact shift0_join (.mp id b h)
theorem shift_join {Δ Δ2 : WT} {n : Nat} {x : V} {v : Value} (h : Rep Δ2 x v) : Rep (Δ.join n Δ2) (x.shift n) v := by
  cases h with
  | agg cs vs hn h => exact .agg _ vs (by simpa using hn) (map_rep (fun x v => shift1_join) h)
  | tup cs vs hn h => exact .tup _ vs (by simpa using hn) (map_rep (fun x v => shift1_join) h)
  | fn f first caps us vs hu hv h1 h2 => exact .fn f _ _ us vs (by simpa using hu) (by simpa using hv) (map_rep (fun x v => shift1_join) h1) (map_rep (fun x v => shift1_join) h2)
  | unk v => exact shift0_join (.unk v)
  | sc v => exact shift0_join (.sc v)
  | list sz xs tk v h ht => exact shift0_join (.list sz xs tk v h ht)
  | pptr sz xs i k b o h => exact shift0_join (.pptr sz xs i k b o h)
  | ref id off b h => exact shift0_join (.ref id off b h)
  | sl id ver sz off len b cap S h hs hc hl => exact shift0_join (.sl id ver sz off len b cap S h hs hc hl)
  | eref id ver sz i k b h => exact shift0_join (.eref id ver sz i k b h)
  | csl id off len b cap h hl => exact shift0_join (.csl id off len b cap h hl)
  | yld id l h => exact shift0_join (.yld id l h)
  | mp id b h => exact shift0_join (.mp id b h)
theorem join_ob {Δ Δ2 : WT} {w : World} {n id : Nat} {o : Ob} (h : ObOk Δ2 w id o) : ObOk (Δ.join n Δ2) w (id + n) (o.shift n) := by
  have hn : ¬ id + n < n := by omega
  have hν : (Δ.join n Δ2).ν (id + n) = Δ2.ν id := by simp [WT.join, hn]
  have hμ : (Δ.join n Δ2).μ (id + n) = Δ2.μ id := by simp [WT.join, hn]
  cases o with
  | dead => trivial
  | pad => exact hν.trans h
  | cells bt c =>
    obtain ⟨h0, b, h1, h2, h3, h4⟩ := h
    refine ⟨hν.trans h0, b, hμ.trans h1, by simpa using h2, fun j x hx => ?_, h4⟩
    rw [List.getElem?_map] at hx
    cases hc : c[j]? with
    | none => simp [hc] at hx
    | some y => simp [hc] at hx; subst hx; obtain ⟨v, hv, hr⟩ := h3 j y hc; exact ⟨v, hv, shift_join hr⟩
  | tail bt n' => obtain ⟨h0, b, p, S, h1, h2⟩ := h; exact ⟨hν.trans h0, b, p, S, hμ.trans h1, h2⟩
  | arr ver wm sz xs => obtain ⟨h0, b, S, h1, h2⟩ := h; exact ⟨hν.trans h0, b, S, hμ.trans h1, h2⟩
  | map es =>
    obtain ⟨h0, b, arr, clock, h1, h2, h3⟩ := h
    refine ⟨hν.trans h0, b, arr, clock, hμ.trans h1, h2, by simpa using h3.size, by simpa [Function.comp_def] using h3.nd, h3.st, fun k x hk => ?_, fun e he => ?_⟩
    · obtain ⟨⟨k', x'⟩, hm, he⟩ := List.mem_map.1 hk
      simp only [Prod.mk.injEq] at he
      obtain ⟨rfl, rfl⟩ := he
      obtain ⟨e, g1, g2, g3⟩ := h3.to k' x' hm
      exact ⟨e, g1, g2, shift_join g3⟩
    · obtain ⟨x, hx⟩ := h3.from_ e he
      exact ⟨_, List.mem_map.2 ⟨(e.key, x), hx, rfl⟩⟩
  | loop st pend fid tmps params assign body => trivial
theorem shift_live {n : Nat} {o : Ob} (h : (o.shift n).live = true) : o.live = true := by cases o <;> simp_all [Ob.shift, Ob.live]

theorem join_ok {Δ Δ2 : WT} {h h2 : H} {w w2 : World} (inv : Inv Δ h w) (inv2 : Inv Δ2 h2 w2) (s : Step Δ.bare [] w Δ2 h2 w2) :
    Inv (Δ.join h.length Δ2) (h ++ h2.map (Ob.shift h.length)) w2 ∧ Step Δ h w (Δ.join h.length Δ2) (h ++ h2.map (Ob.shift h.length)) w2 := by
  obtain ⟨inv1, s1⟩ := beside inv inv2 s
  have cases' : ∀ (id : Nat) (o : Ob), (h ++ h2.map (Ob.shift h.length))[id]? = some o → (id < h.length ∧ h[id]? = some o) ∨ ∃ j o2, id = j + h.length ∧ h2[j]? = some o2 ∧ o = o2.shift h.length := by
    intro id o ho
    by_cases hi : id < h.length
    · exact .inl ⟨hi, by rwa [List.getElem?_append_left hi] at ho⟩
    · rw [List.getElem?_append_right (by omega), List.getElem?_map] at ho
      cases h2o : h2[id - h.length]? with
      | none => simp [h2o] at ho
      | some o2 => simp [h2o] at ho; exact .inr ⟨id - h.length, o2, by omega, h2o, ho.symm⟩
  have ext : Ext Δ (Δ.join h.length Δ2) := ⟨s.ext.ι, s.ext.σ, by rw [inv.N]; simp [WT.join], fun i hi => by rw [inv.N] at hi; simp [WT.join, hi], fun i hi _ => by rw [inv.N] at hi; simp [WT.join, hi], rfl⟩
  have far : ∀ {j o2 b p}, h2[j]? = some o2 → o2.live = true → Δ2.μ j = some (b, p) → w.heap.size ≤ b := by
    intro j o2 b p h1 hl hm
    apply Nat.le_of_not_lt; intro hlt
    exact not_ob_nil (s.own b hlt ⟨j, o2, p, h1, hl, hm⟩)
  have μ1 : ∀ {id}, id < h.length → (Δ.join h.length Δ2).μ id = Δ.μ id := fun {id} hi => by simp [WT.join, hi]
  have μ2 : ∀ {j}, (Δ.join h.length Δ2).μ (j + h.length) = Δ2.μ j := by
    intro j
    have : ¬ j + h.length < h.length := by omega
    simp [WT.join, this]
  refine ⟨⟨inv2.ι, inv2.σ, ?_, ?_, ?_⟩, ⟨ext, s.os, s.tape, s.output, s.size, fun b hb _ => s.block b hb not_ob_nil, ?_, fun b o hb _ => s.newι b o hb not_ob_nil, s.loops⟩⟩
  · have := inv2.N; simp [WT.join, this]
  · intro id o ho
    rcases cases' id o ho with ⟨hi, h1⟩ | ⟨j, o2, rfl, h1, rfl⟩
    · refine (inv.ob id o h1).keep ext (μ1 hi) (by simp [WT.join, hi]) fun b p hl hm => ?_
      have hb := (inv.ob id o h1).lt hl hm
      exact ⟨s.block b hb not_ob_nil, fun j => s.newι b j hb not_ob_nil⟩
    · exact join_ob (inv2.ob j o2 h1)
  · intro id id' o o' b p p' h1 h1' l1 l1' m1 m1'
    rcases cases' id o h1 with ⟨hi, k⟩ | ⟨j, o2, rfl, k, rfl⟩ <;> rcases cases' id' o' h1' with ⟨hi', k'⟩ | ⟨j', o2', rfl, k', rfl⟩
    · rw [μ1 hi] at m1; rw [μ1 hi'] at m1'; exact inv.dis id id' o o' b p p' k k' l1 l1' m1 m1'
    · rw [μ1 hi] at m1; rw [μ2] at m1'
      have := (inv.ob id o k).lt l1 m1; have := far k' (shift_live l1') m1'; omega
    · rw [μ2] at m1; rw [μ1 hi'] at m1'
      have := (inv.ob id' o' k').lt l1' m1'; have := far k (shift_live l1) m1; omega
    · rw [μ2] at m1 m1'
      have := inv2.dis j j' o2 o2' b p p' k k' (shift_live l1) (shift_live l1') m1 m1'; omega
  · rintro b hb ⟨id, o, p, ho, hl, hm⟩
    rcases cases' id o ho with ⟨hi, k⟩ | ⟨j, o2, rfl, k, rfl⟩
    · rw [μ1 hi] at hm; exact ⟨id, o, p, k, hl, hm⟩
    · rw [μ2] at hm; have := far k (shift_live hl) hm; omega

end Go.Pv
/-
  Operations in the text's order; calls.
-/
set_option linter.unusedSimpArgs false
set_option linter.unusedVariables false
namespace Go.Pv
open Go

section
variable {C : Cx2} {G : FuncId → Code → Prop} {S : Sm}

theorem ofValue_sc {P : Program} {f : Fn} {us vs : Array Value} (args : Array Value) (w : World) : (Deferred.ofValue (.func f us vs) args).run P w = .ok { target := .fn f vs, args := us ++ args } w := by
  simp [Deferred.ofValue, go_sem]
theorem RepL.of_array {Δ : WT} {xs : List V} {vs : Array Value} (hn : vs.size = xs.length) (h : ∀ (i : Nat) (x : V) (v : Value), xs[i]? = some x → vs[i]? = some v → Rep Δ x v) : RepL Δ xs vs.toList :=
  ⟨by simp [hn], fun i x v hx hv => h i x v hx (by simpa using hv)⟩

theorem callFn_ok (hS : SmOk C G S) {f : V} {args : List V} {v : V} {h h' : H} (e : callFn S f args h = some (v, h')) {Δ : WT} {w : World} (hG : Δ.G = G) (inv : Inv Δ h w) (gl : GOk C.toCx Δ)
    {fv : Value} {vs : Array Value} (hf : Rep Δ f fv) (hr : RepL Δ args vs.toList) :
    ∃ d g us, (Deferred.ofValue fv vs).run C.P w = .ok d w ∧ (invoke d.target d.args).run C.P w = .ok (.enter g us) w ∧ CallsIn (FW none) 0 C.P g us w (CallEnd v h' Δ h w) := by
  unfold callFn at e
  split at e
  · rename_i g
    cases hf
    obtain ⟨h1, h2⟩ := hS.call _ _ _ _ _ e
    refine ⟨_, g, vs, ofValue_sc vs w, ?_, h2 Δ w vs hG inv gl hr⟩
    simp [invoke, callFunc_ok h1]
  · rename_i g first caps
    cases hf with
    | fn _ _ _ us ws hu hv k1 k2 =>
      obtain ⟨h1, h2⟩ := hS.call _ _ _ _ _ e
      refine ⟨_, g, us ++ vs ++ ws, ofValue_sc vs w, ?_, h2 Δ w _ hG inv gl ?_⟩
      · simp [invoke, callFunc_ok h1]
      · have := ((RepL.of_array hu k1).append hr).append (RepL.of_array hv k2)
        simpa using this
  · simp at e

/-- A step of the text's order, as the machine's. -/
theorem call_ok (hS : SmOk C G S) (hGj : ∀ f e c, jumpOf e = some c → G f c) {f : V} {args : List V} {v : V} {h h' : H} (e : callVal S f args h = some (v, h')) {Δ : WT} {w : World} (hG : Δ.G = G) (inv : Inv Δ h w) (gl : GOk C.toCx Δ)
    {fv : Value} {vs : Array Value} (hf : Rep Δ f fv) (hr : RepL Δ args vs.toList) :
    ∃ d, (Deferred.ofValue fv vs).run C.P w = .ok d w ∧
      ((∃ g us, (invoke d.target d.args).run C.P w = .ok (.enter g us) w ∧ CallsIn (FW none) 0 C.P g us w (CallEnd v h' Δ h w)) ∨
       (∃ l f tmps assign body, (invoke d.target d.args).run C.P w = .ok (.round l f tmps assign body) w ∧ ∀ ρ, RoundIn (FW ρ) 0 C.P l f tmps assign body w (CallEnd v h' Δ h w))) := by
  unfold callVal at e
  split at e
  · rename_i id
    cases hf with
    | yld _ l hp =>
      obtain ⟨f, tmps, assign, body, h1, h2⟩ := round_ok hS hGj e hG inv gl hp hr
      exact ⟨_, ofValue_sc vs w, .inr ⟨l, f, tmps, assign, body, by simpa [invoke] using h1, h2⟩⟩
  · obtain ⟨d, g, us, h1, h2, h3⟩ := callFn_ok hS e hG inv gl hf hr
    exact ⟨d, h1, .inl ⟨g, us, h2, h3⟩⟩

theorem resolve_value {ρ : Operand → Value} {c : Call} {f : Operand} (hc : c.callee = .value f) (t : TypeId) : resolve ρ c t = Deferred.ofValue (ρ f) (c.args.map ρ) := by
  unfold resolve; rw [hc]

theorem step_ok (hS : SmOk C G S) (hGj : ∀ f e c, jumpOf e = some c → G f c) {fid : FuncId} {ops : Array Oper} {o : Oper} {st st' : St} (e : stepO C S fid ops o st = some st') {n0 : Nat} {ρ : Option Nat} {Δ : WT} {a : Act} {w : World} (k : At C G n0 ρ st Δ a w)
    {next : Act → World → Prop} {Q : Exit → Act → World → Prop}
    (hn : ∀ a' w' Δ', Inv Δ' st'.heap w' → RepL Δ' st'.env a'.tmps.toList → a'.defers = a.defers → Step Δ st.heap w Δ' st'.heap w' → next a' w') :
    if Region.wanted o (yielded ops a.tmps) then o.wpIn (FW ρ) 0 C.P a w next Q else (∀ f, o.about C.P w a.eval = some f → (FW ρ).fn f) ∧ next (a.put o.dst undef) w := by
  unfold stepO at e
  have opcase : ∀ {hp : HP V} (_ : hp = opHP C.toCx (C.own fid) st.env o) {st' : St}, ((hp.run st.heap).map fun r => (⟨putV st.env o.dst r.1, r.2⟩ : St)) = some st' →
      (∀ a' w' Δ', Inv Δ' st'.heap w' → RepL Δ' st'.env a'.tmps.toList → a'.defers = a.defers → Step Δ st.heap w Δ' st'.heap w' → next a' w') → o.wpIn (FW ρ) 0 C.P a w next Q := by
    intro hp hpe st' e hn
    subst hpe
    cases er : (opHP C.toCx (C.own fid) st.env o).run st.heap with
    | none => rw [er] at e; simp at e
    | some r =>
      obtain ⟨v, h'⟩ := r
      rw [er] at e
      simp only [Option.map_some, Option.some.injEq] at e
      subst e
      obtain ⟨nx, w', Δ', h1, h2, h3, h4⟩ := op_run er k.inv k.gl k.env
      refine oper_value h1 (not_defer er) h2 fun val hv => hn _ _ Δ' h3 ?_ (put_defers _ _ _) h4
      exact put_rep (k.env.ext h4.ext) o.dst hv
  split at e
  · simp at e
  · rename_i hgd
    rw [guard_ok hgd k.env]
    simp only [Option.some.injEq] at e
    subst e
    exact ⟨fun _ _ => trivial, hn _ _ Δ k.inv (put_rep k.env o.dst (undef_tup _)) (put_defers _ _ _) (.refl _ _ _)⟩
  · rename_i hgd
    rw [guard_ok hgd k.env]
    simp only [if_true]
    split at e
    · rename_i c hc
      split at e
      · rename_i f hcal
        cases ec : callVal S (ev C.toCx st.env f) (c.args.toList.map (ev C.toCx st.env)) st.heap with
        | none => rw [ec] at e; simp at e
        | some r =>
          obtain ⟨v, h'⟩ := r
          rw [ec] at e
          simp only [Option.map_some, Option.some.injEq] at e
          subst e
          have hargs : RepL Δ (c.args.toList.map (ev C.toCx st.env)) (c.args.map a.eval).toList := by
            rw [Array.toList_map]; exact evs_rep k.gl k.env _
          obtain ⟨d, h1, h2⟩ := call_ok hS hGj ec k.G k.inv k.gl (ev_rep k.gl k.env f) hargs
          have hex : (Oper.semAt (FW ρ).round a.eval o).run C.P w = (invoke d.target d.args).run C.P w := by
            rw [Oper.semAt_eq _ _ _ (by rw [hc]; simp)]
            unfold execOp
            simp only [hc, resolve_value hcal, Sem.run_bind, h1, Result.andThen_ok]
          have fin : ∀ (e : Ending) (w' : World), CallEnd v h' Δ st.heap w e w' → (match (motive := Ending → World → Prop) e, w' with | .returned v, w'' => next (a.put o.dst v) w'' | .panicked chain, w'' => Q (.panic chain) a w'' | .outgrown, _ => LetsOut Q) := by
            rintro e w' ⟨val, Δ', rfl, h3, h4, h5⟩
            exact hn _ _ Δ' h3 (put_rep (k.env.ext h5.ext) o.dst h4) (put_defers _ _ _) h5
          refine ⟨fun _ _ => trivial, ?_⟩
          rw [hex]
          rcases h2 with ⟨g, us, h3, h4⟩ | ⟨l, f', tmps, assign, body, h3, h4⟩
          · rw [h3]
            refine ⟨fun h => by simp [FW, Fence.wide] at h, ?_⟩
            have h5 : CallsIn (FW ρ) (0 - 1) C.P g us w (CallEnd v h' Δ st.heap w) := h4
            exact h5.mono fin
          · rw [h3]
            refine ⟨fun h => by simp [FW, Fence.wide] at h, ?_⟩
            exact (h4 ρ).mono fin
      · exact opcase rfl e hn
    · exact opcase rfl e hn

theorem runL_ok (hS : SmOk C G S) (hGj : ∀ f e c, jumpOf e = some c → G f c) {fid : FuncId} {ops : Array Oper} {n0 : Nat} {ρ : Option Nat} {Q : Exit → Act → World → Prop} : ∀ (os : List Oper) (i : Nat) (hi : ops.toList.drop i = os) {st st' : St}, runL C S fid ops os st = some st' →
    ∀ {Δ : WT} {a : Act} {w : World}, At C G n0 ρ st Δ a w →
    (∀ a' w' Δ', Inv Δ' st'.heap w' → RepL Δ' st'.env a'.tmps.toList → a'.defers = a.defers → Step Δ st.heap w Δ' st'.heap w' → Q .normal a' w') →
    wpOpsIn (FW ρ) 0 C.P ops Q (List.range' i os.length) a w
  | [], i, hi, st, st', e, Δ, a, w, k, hq => by
    simp only [runL, Option.some.injEq] at e
    subst e
    simp only [List.length_nil, List.range'_zero, wpOpsIn]
    exact hq a w Δ k.inv k.env rfl (.refl _ _ _)
  | o :: os, i, hi, st, st', e, Δ, a, w, k, hq => by
    simp only [runL] at e
    cases e1 : stepO C S fid ops o st with
    | none => rw [e1] at e; simp at e
    | some st1 =>
      rw [e1] at e
      simp only [Option.bind_some] at e
      have hio : ops[i]? = some o := by
        have : (ops.toList.drop i)[0]? = some o := by rw [hi]; rfl
        rw [List.getElem?_drop] at this; simpa using this
      have hrest : ops.toList.drop (i + 1) = os := by
        have : (ops.toList.drop i).drop 1 = os := by rw [hi]; rfl
        rwa [List.drop_drop] at this
      simp only [List.length_cons, List.range'_succ, wpOpsIn, hio]
      have := step_ok (next := wpOpsIn (FW ρ) 0 C.P ops Q (List.range' (i + 1) os.length)) (Q := Q) hS hGj e1 k (fun a' w' Δ' h1 h2 h3 h4 => runL_ok hS hGj os (i + 1) hrest e (k.step h1 h2 h4 h3) (fun a'' w'' Δ'' g1 g2 g3 g4 => hq a'' w'' Δ'' g1 g2 (g3.trans h3) (h4.trans g4)))
      exact this

/-! ### Functions -/
theorem undef_rep {Δ : WT} {xs : List V} {vs : Array Value} (hr : RepL Δ xs vs.toList) (n : Nat) : RepL Δ (xs ++ List.replicate (n - xs.length) .unk) (vs ++ Array.replicate (n - vs.size) undef).toList := by
  have hl : vs.size = xs.length := by have := hr.1; simp at this; exact this.symm
  rw [Array.toList_append, Array.toList_replicate, hl]
  refine hr.append ⟨by simp, fun i x v hx hv => ?_⟩
  rw [List.getElem?_replicate] at hx
  split at hx
  · simp at hx; subst hx; exact .unk _
  · simp at hx

theorem body_ok (hS : SmOk C G S) {g : FuncId} {fn : Func} {body : Code} (hf : C.P.funcs[g]? = some fn) (hb : fn.body = some body) (hg : G g body) {args : List V} {h h' : H} {rs : List V} (e : bodyV C S g fn body args h = some (rs, h'))
    {Δ : WT} {w : World} {vs : Array Value} (hG : Δ.G = G) (inv : Inv Δ h w) (gl : GOk C.toCx Δ) (hr : RepL Δ args vs.toList) :
    CallsIn (FW none) 0 C.P g vs w (fun e w' => ∃ val Δ', e = .returned val ∧ Inv Δ' h' w' ∧ Step Δ h w Δ' h' w' ∧ ∃ us : List Value, RepL Δ' rs us ∧ val = if k : us.toArray.size = 1 then us.toArray[0] else .tuple us.toArray) := by
  unfold bodyV at e
  cases e1 : S.code g body ⟨envOf fn.ntmps args, h⟩ with
  | none => rw [e1] at e; simp at e
  | some r =>
    obtain ⟨x, st'⟩ := r
    rw [e1] at e
    simp only [Option.bind_some] at e
    have at0 : At C G w.heap.size none ⟨envOf fn.ntmps args, h⟩ Δ { tmps := vs ++ Array.replicate (fn.ntmps - vs.size) undef, defers := [] } w :=
      ⟨hG, inv, gl, undef_rep hr _, .nil _ _, Nat.le_refl _, fun l hl => by simp at hl⟩
    have wb := hS.code g body _ _ _ e1 hg _ _ _ _ _ at0
    refine callsIn_of_wp_marks hf hb trivial (wpIn_mono wb ?_)
    rintro x' a' w' ⟨rfl, Δ', inv', env', marks', s'⟩
    have key : ((resultsV C.P st'.env fn.results.toList).bind fun vs => if C.keep g then .ret vs else normVs C.P fn.resultTypes.toList vs).run st'.heap = some (rs, h') →
        LeavesInM (FW none) 0 C.P fn a'.tmps (fun e w' => ∃ val Δ', e = .returned val ∧ Inv Δ' h' w' ∧ Step Δ h w Δ' h' w' ∧ ∃ us : List Value, RepL Δ' rs us ∧ val = if k : us.toArray.size = 1 then us.toArray[0] else .tuple us.toArray) a'.defers .returning w' := by
      intro er
      obtain ⟨Ds, hds, nd, hD⟩ := marks'
      rw [hds]
      refine leaves_marks Ds w' nd hD inv' s' fun w'' inv'' s'' => ?_
      obtain ⟨m, hm, _⟩ := runAt_of_run _ er
      obtain ⟨i1, s1⟩ := pad_ok inv'' m
      obtain ⟨vs1, is1, h1, e2, e3⟩ := runAt_bind_inv hm
      obtain ⟨hi, hh, us, hus, hru⟩ := resultsV_ok i1 (env'.ext s1.ext) _ e2
      subst hi hh
      split at e3
      · obtain ⟨rfl, _, hh⟩ := runAt_ret e3
        subst hh
        exact ⟨_, results_run hus, _, _, rfl, i1, s''.trans s1, us, hru, rfl⟩
      · obtain ⟨_, Δ2, inv2, s2, hr2⟩ := normVs_sound _ _ _ _ e3 i1 hru
        exact ⟨_, results_run hus, _, Δ2, rfl, inv2, (s''.trans s1).trans s2, us, hr2, rfl⟩
    cases x with
    | normal => exact key e
    | ret => exact key e
    | exit id => simp at e
end

end Go.Pv
/-
  Functions; code.
-/
set_option linter.unusedSimpArgs false
set_option linter.unusedVariables false
namespace Go.Pv
open Go

section
variable {C : Cx2} {G : FuncId → Code → Prop} {S : Sm}

/-- Of the given functions: they do what is said. -/
def PrimsOk (C : Cx2) (G : FuncId → Code → Prop) : Prop := ∀ g p args h v h', C.prim g = some p → p args h = some (v, h') → CallOk C G g args h v h'
def BodiesOk (C : Cx2) (G : FuncId → Code → Prop) : Prop := ∀ g fn body, C.prim g = none → C.P.funcs[g]? = some fn → fn.body = some body → (fn.name == "runtime.NumGoroutine") = false → G g body

theorem argsHP_run {g : FuncId} {ts : List TypeId} {cs cs' : List V} {h h' : H} (e : (argsHP C g ts cs).run h = some (cs', h')) {Δ : WT} {w : World} (inv : Inv Δ h w) {vs : List Value} (hr : RepL Δ cs vs) :
    ∃ Δ', Inv Δ' h' w ∧ Step Δ h w Δ' h' w ∧ RepL Δ' cs' vs := by
  unfold argsHP at e
  split at e
  · simp only [HP.run, Option.some.injEq, Prod.mk.injEq] at e
    obtain ⟨rfl, rfl⟩ := e
    exact ⟨Δ, inv, .refl _ _ _, hr⟩
  · exact normVs_run e inv hr
theorem isRes_rep {Δ Δ' : WT} {x : V} {v : Value} (hs : SubI Δ.ι Δ'.ι) (hx : isRes x = true) (h : Rep Δ x v) : Rep Δ' x v := by
  cases x with
  | tup cs =>
    cases h with
    | tup _ vs hn h =>
      simp only [isRes, List.all_eq_true] at hx
      exact .tup cs vs hn fun i y u hy hu => isArg_rep hs (hx y (List.mem_of_getElem? hy)) (h i y u hy hu)
  | list sz xs tk =>
    cases tk with
    | full =>
      cases h with
      | list _ _ _ _ hd ht => exact .list sz xs .full v (hd.mono hs) ht
    | no => exact isArg_rep hs hx h
    | tail id => exact isArg_rep hs hx h
  | _ => exact isArg_rep hs hx h
theorem isRess_rep {Δ Δ' : WT} {xs : List V} {vs : List Value} (hs : SubI Δ.ι Δ'.ι) (hx : xs.all isRes = true) (h : RepL Δ xs vs) : RepL Δ' xs vs :=
  ⟨h.1, fun i x v k1 k2 => isRes_rep hs (List.all_eq_true.1 hx x (List.mem_of_getElem? k1)) (h.2 i x v k1 k2)⟩
/-- One object of a heap, and nothing else. -/
def WT.one (Δ : WT) (id : Nat) : WT := { Δ with N := 1, μ := fun i => if i = 0 then Δ.μ id else none, ν := fun i => if i = 0 then Δ.ν id else 0 }
theorem selV_shape : ∀ (rs : List V) (h2 : H) (rs' : List V) (h' : H), selV rs h2 = some (rs', h') →
    (h' = [] ∧ rs' = rs ∧ rs.all isRes = true) ∨ ∃ id bt n, h' = [.tail bt n] ∧ h2[id]? = some (.tail bt n) ∧ rs'.length = rs.length ∧
      ∀ (i : Nat) (x : V), rs'[i]? = some x → (isRes x = true ∧ rs[i]? = some x) ∨ ∃ sz xs, x = .list sz xs (.tail 0) ∧ rs[i]? = some (.list sz xs (.tail id))
  | [], h2, rs', h', e => by simp [selV] at e; exact .inl ⟨e.2, e.1, rfl⟩
  | v :: vs, h2, rs', h', e => by
    unfold selV at e
    split at e
    · rename_i sz xs id heq
      have hv : v = .list sz xs (.tail id) := by
        unfold tailOf at heq
        split at heq
        · simp only [Option.some.injEq, Prod.mk.injEq] at heq
          obtain ⟨rfl, rfl, rfl⟩ := heq; rfl
        · simp at heq
      subst hv
      split at e
      · rename_i bt n ho
        split at e
        · rename_i hall
          simp only [Option.some.injEq, Prod.mk.injEq] at e
          obtain ⟨rfl, rfl⟩ := e
          refine .inr ⟨id, bt, n, rfl, ho, rfl, fun i x hx => ?_⟩
          cases i with
          | zero => simp at hx; subst hx; exact .inr ⟨sz, xs, rfl, rfl⟩
          | succ i =>
            have hx' : vs[i]? = some x := by simpa using hx
            exact .inl ⟨List.all_eq_true.1 hall x (List.mem_of_getElem? hx'), by simpa using hx'⟩
        · simp at e
      · simp at e
    · split at e
      · rename_i hr
        cases es : selV vs h2 with
        | none => rw [es] at e; simp at e
        | some r =>
          obtain ⟨r1, r2⟩ := r
          rw [es] at e
          simp only [Option.map_some, Option.some.injEq, Prod.mk.injEq] at e
          obtain ⟨rfl, rfl⟩ := e
          rcases selV_shape vs h2 r1 r2 es with ⟨rfl, rfl, hall⟩ | ⟨id, bt, n, rfl, ho, hl, hx⟩
          · exact .inl ⟨rfl, rfl, by rw [List.all_cons, hr, hall]; rfl⟩
          · refine .inr ⟨id, bt, n, rfl, ho, by simp [hl], fun i x hxi => ?_⟩
            cases i with
            | zero => simp at hxi; subst hxi; exact .inl ⟨hr, rfl⟩
            | succ i =>
              have := hx i x (by simpa using hxi)
              simpa using this
      · simp at e
theorem selR_ok (k : Bool) {Δ Δ0 : WT} {w w' : World} {rs : List V} {h2 : H} {us : List Value} (inv : Inv Δ0 h2 w') (s : Step Δ.bare [] w Δ0 h2 w') (hru : RepL Δ0 rs us) :
    ∃ Δ2, Inv Δ2 (selR k (rs, h2)).2 w' ∧ Step Δ.bare [] w Δ2 (selR k (rs, h2)).2 w' ∧ RepL Δ2 (selR k (rs, h2)).1 us := by
  unfold selR
  split
  · cases e : selV rs h2 with
    | none => exact ⟨Δ0, inv, s, hru⟩
    | some r =>
      obtain ⟨rs', h'⟩ := r
      simp only [Option.getD_some]
      rcases selV_shape rs h2 rs' h' e with ⟨rfl, rfl, hall⟩ | ⟨id, bt, n, rfl, ho, hl, hx⟩
      · refine ⟨Δ0.bare, bare_inv inv, ⟨⟨s.ext.ι, s.ext.σ, Nat.le_refl _, fun i hi => absurd hi (Nat.not_lt_zero _), fun i hi => absurd hi (Nat.not_lt_zero _), s.ext.G⟩, s.os, s.tape, s.output, s.size, s.block, fun b _ k => absurd k not_ob_nil, s.newι, s.loops⟩, ?_⟩
        exact isRess_rep (Δ := Δ0) (Δ' := Δ0.bare) (fun _ _ _ h => h) hall hru
      · refine ⟨Δ0.one id, ⟨inv.ι, inv.σ, rfl, fun i o hi => ?_, fun i j o1 o2 b p p' hi hj _ _ _ _ => ?_⟩, ⟨⟨s.ext.ι, s.ext.σ, Nat.zero_le _, fun i hi => absurd hi (Nat.not_lt_zero _), fun i hi => absurd hi (Nat.not_lt_zero _), s.ext.G⟩, s.os, s.tape, s.output, s.size, s.block, fun b hb k => ?_, s.newι, s.loops⟩, ?_⟩
        · match i, hi with
          | 0, hi =>
            simp only [List.getElem?_cons_zero, Option.some.injEq] at hi
            subst hi
            obtain ⟨hν, b, p, S, h1, hs, h3, h4⟩ := inv.ob id _ ho
            exact ⟨hν, b, p, S, h1, hs, h3, h4⟩
          | i + 1, hi => simp at hi
        · have hi' := (List.getElem?_eq_some_iff.1 hi).1
          have hj' := (List.getElem?_eq_some_iff.1 hj).1
          simp at hi' hj'
          omega
        · obtain ⟨i, o, p, hi, hlv, hm⟩ := k
          match i, hi with
          | 0, hi =>
            simp only [List.getElem?_cons_zero, Option.some.injEq] at hi
            subst hi
            exact s.own b hb ⟨id, _, p, ho, rfl, hm⟩
          | i + 1, hi => simp at hi
        · refine ⟨hl.trans hru.1, fun i x u hxi hu => ?_⟩
          rcases hx i x hxi with ⟨hr, hri⟩ | ⟨sz, xs, rfl, hri⟩
          · exact isRes_rep (Δ := Δ0) (Δ' := Δ0.one id) (fun _ _ _ h => h) hr (hru.2 i x u hri hu)
          · have := hru.2 i _ u hri hu
            cases this with
            | list _ _ _ _ hd ht =>
              obtain ⟨b, o, cap, S, h1, hp, h3, h4⟩ := ht
              refine .list sz xs (.tail 0) _ hd ⟨b, o, cap, S, h1, ⟨Nat.zero_lt_one, hp.2.1, hp.2.2⟩, h3, h4⟩
  · exact ⟨Δ0, inv, s, hru⟩
theorem bare_gok {Δ : WT} (h : GOk C.toCx Δ) : GOk C.toCx Δ.bare := h

theorem callF_ok (hS : SmOk C G S) (hp : PrimsOk C G) (hbd : BodiesOk C G) {g : FuncId} {args : List V} {h h' : H} {v : V} (e : callF C S g args h = some (v, h')) : CallOk C G g args h v h' := by
  unfold callF at e
  split at e
  · rename_i p hpg; exact hp g p args h v h' hpg e
  · rename_i hpg
    split at e
    · rename_i fn hf
      split at e
      · rename_i body hb
        split at e
        · simp at e
        · rename_i hname
          have hname' : (fn.name == "runtime.NumGoroutine") = false := by simpa using hname
          have hg := hbd g fn body hpg hf hb hname'
          refine ⟨⟨fn, hf, by rw [hb]; rfl, hname'⟩, fun Δ w vs hG inv gl hr => ?_⟩
          cases ea : (argsHP C g fn.params.toList args).run h with
          | none => rw [ea] at e; simp at e
          | some ra =>
            obtain ⟨args', h1⟩ := ra
            rw [ea] at e
            simp only [Option.bind_some] at e
            obtain ⟨Δ1, inv1, s1, hr1⟩ := argsHP_run ea inv hr
            split at e
            · rename_i hall
              cases eb : bodyV C S g fn body args' [] with
              | none => rw [eb] at e; simp at e
              | some rb =>
                obtain ⟨rs, h2⟩ := rb
                rw [eb] at e
                simp only [Option.map_some, Option.some.injEq] at e
                have hb0 := body_ok hS hf hb hg eb (Δ := Δ1.bare) (w := w) (vs := vs) (s1.ext.G.trans hG) (bare_inv inv1) (bare_gok (gl.ext s1.ext)) (isArgs_rep (Δ := Δ1) (Δ' := Δ1.bare) (fun _ _ _ h => h) hall hr1)
                refine hb0.mono ?_
                rintro e' w' ⟨val, Δ0, rfl, inv0, s0, us, hru0, rfl⟩
                obtain ⟨Δ2, inv2, s2, hru⟩ := selR_ok (C.keep g) inv0 s0 hru0
                generalize selR (C.keep g) (rs, h2) = r2 at e inv2 s2 hru
                obtain ⟨rs, h2⟩ := r2
                unfold retD at e
                split at e
                · rename_i hplain
                  simp only [Prod.mk.injEq] at e
                  obtain ⟨rfl, rfl⟩ := e
                  obtain ⟨i3, s3⟩ := beside inv1 inv2 s2
                  exact ⟨_, _, rfl, i3, tupOf_rep (isArgs_rep (Δ := Δ2) (fun _ _ _ h => h) hplain hru), s1.trans s3⟩
                · simp only [Prod.mk.injEq] at e
                  obtain ⟨rfl, rfl⟩ := e
                  obtain ⟨i3, s3⟩ := join_ok inv1 inv2 s2
                  refine ⟨_, _, rfl, i3, tupOf_rep ?_, s1.trans s3⟩
                  refine ⟨by simpa using hru.1, fun i x u hx hu => ?_⟩
                  rw [List.getElem?_map] at hx
                  cases hy : rs[i]? with
                  | none => simp [hy] at hx
                  | some y => simp [hy] at hx; subst hx; exact shift_join (hru.2 i y u hy hu)
            · cases eb : bodyV C S g fn body args' h1 with
              | none => rw [eb] at e; simp at e
              | some rb =>
                obtain ⟨rs, h2⟩ := rb
                rw [eb] at e
                simp only [Option.map_some, Option.some.injEq] at e
                have hb0 := body_ok hS hf hb hg eb (s1.ext.G.trans hG) inv1 (gl.ext s1.ext) hr1
                refine hb0.mono ?_
                rintro e' w' ⟨val, Δ2, rfl, inv2, s2, us, hru, rfl⟩
                split at e
                · rename_i hplain
                  simp only [Prod.mk.injEq] at e
                  obtain ⟨rfl, rfl⟩ := e
                  obtain ⟨Δ3, i3, s3, k3⟩ := gc_ok inv1 inv2 s2
                  exact ⟨_, Δ3, rfl, i3, tupOf_rep ⟨hru.1, fun i x u hx hu => k3 x u (List.all_eq_true.1 hplain x (List.mem_of_getElem? hx)) (hru.2 i x u hx hu)⟩, s1.trans s3⟩
                · simp only [Prod.mk.injEq] at e
                  obtain ⟨rfl, rfl⟩ := e
                  exact ⟨_, Δ2, rfl, inv2, tupOf_rep hru, s1.trans s2⟩
      · simp at e
    · simp at e

/-! ### Code -/
theorem CodeEnd.trans {n0 : Nat} {e : Ex} {st' : St} {Δ Δ1 : WT} {h h1 : H} {w w1 : World} (s : Step Δ h w Δ1 h1 w1) {x : Exit} {a' : Act} {w' : World} (k : CodeEnd n0 e st' Δ1 h1 w1 x a' w') : CodeEnd n0 e st' Δ h w x a' w' := by
  obtain ⟨rfl, Δ', k1, k2, k3, k4⟩ := k
  exact ⟨rfl, Δ', k1, k2, k3, s.trans k4⟩
/-- Where a piece of code has ended, at stays. -/
theorem At.after {n0 : Nat} {ρ : Option Nat} {st st' : St} {Δ Δ' : WT} {a a' : Act} {w w' : World} (k : At C G n0 ρ st Δ a w) (inv : Inv Δ' st'.heap w') (env : RepL Δ' st'.env a'.tmps.toList) (m : Marks n0 w' a'.defers) (s : Step Δ st.heap w Δ' st'.heap w') :
    At C G n0 ρ st' Δ' a' w' := ⟨s.ext.G.trans k.G, inv, k.gl.ext s.ext, env, m, Nat.le_trans k.n0 s.size, k.round.step s⟩

theorem region_ok (hS : SmOk C G S) (hGj : ∀ f e c, jumpOf e = some c → G f c) {fid : FuncId} {id : Nat} {ops : Array Oper} {st st' : St} (e : runL C S fid ops ops.toList st = some st') : CodeOk C G (.region id ops false) st .normal st' := by
  intro n0 ρ Δ a w k
  refine wpIn_region ?_
  have := runL_ok hS hGj (Q := CodeEnd n0 .normal st' Δ st.heap w) ops.toList 0 rfl e k (fun a' w' Δ' h1 h2 h3 h4 => ⟨rfl, Δ', h1, h2, h3 ▸ k.marks.step k.inv h4, h4⟩)
  rw [List.range_eq_range']
  simpa using this

theorem seq_ok {c d : Code} {st st1 st' : St} {e : Ex} (h1 : CodeOk C G c st .normal st1) (h2 : CodeOk C G d st1 e st') : CodeOk C G (.seq c d) st e st' := by
  intro n0 ρ Δ a w k
  refine wpIn_seq (wpIn_mono (h1 n0 ρ Δ a w k) ?_)
  rintro x a' w' ⟨rfl, Δ', inv', env', m', s'⟩
  exact wpIn_mono (h2 n0 ρ Δ' a' w' (k.after inv' env' m' s')) fun x a'' w'' h => h.trans s'
theorem seq_out {c d : Code} {st st' : St} {e : Ex} (h1 : CodeOk C G c st e st') (hne : e ≠ .normal) : CodeOk C G (.seq c d) st e st' := by
  intro n0 ρ Δ a w k
  refine wpIn_seq (wpIn_mono (h1 n0 ρ Δ a w k) ?_)
  rintro x a' w' ⟨rfl, rest⟩
  cases e with
  | normal => exact absurd rfl hne
  | exit id => exact ⟨rfl, rest⟩
  | ret => exact ⟨rfl, rest⟩
theorem block_ok {id : Nat} {c : Code} {st st' : St} {e : Ex} (h : CodeOk C G c st e st') : CodeOk C G (.block id c) st (match e with | .exit id' => if id' = id then .normal else .exit id' | e => e) st' := by
  intro n0 ρ Δ a w k
  refine wpIn_block (wpIn_mono (h n0 ρ Δ a w k) ?_)
  rintro x a' w' ⟨rfl, rest⟩
  cases e with
  | normal => exact ⟨rfl, rest⟩
  | ret => exact ⟨rfl, rest⟩
  | exit id' =>
    simp only [exOf, Exit.inBlock]
    split
    · exact ⟨rfl, rest⟩
    · exact ⟨rfl, rest⟩

theorem stepR_scope {P : Program} {b : Frame} {a : Act} {k : List Item} {cs : List Frame} {w : World} {c : Code} : step P (lone (b.atR a (.code (.scope c) :: k)) cs w) = .next (lone (b.atR a (.code c :: .inScope c :: k)) cs w) :=
  step_lone_go (by simp [stepG, stepG.exec, Frame.atR])
theorem stepR_inScope {P : Program} {b : Frame} {a : Act} {k : List Item} {cs : List Frame} {w : World} {c : Code} : step P (lone (b.atR a (.inScope c :: k)) cs w) = .next (lone (b.atR a k) cs w) :=
  step_lone_go (by simp [stepG, stepG.exec, Frame.atR])
theorem wpIn_scope {F : Fence} {n : Nat} {P : Program} {c : Code} {Q : Exit → Act → World → Prop} {a : Act} {w : World} (h : c.wpIn F n P (Exit.noGoto Q) a w) : (Code.scope c).wpIn F n P Q a w := by
  intro b k cs hro hb hr
  have h0 : (lone (b.atR a (.code (.scope c) :: k)) cs w).fenced P F := fenced_calm hb hr rfl
  obtain ⟨e, a₁, w₁, hq, harr⟩ := h b (.inScope c :: k) cs hro hb hr
  cases e with
  | normal => exact ⟨.normal, a₁, w₁, hq, .head h0 stepR_scope (StepsIn.trans harr (.one (fenced_calm hb hr rfl) stepR_inScope))⟩
  | exit id' =>
    have hx : exitTo id' (.inScope c :: k) = exitTo id' k := by simp [exitTo]
    exact ⟨.exit id', a₁, w₁, hq, fun k' hk => .head h0 stepR_scope (harr.1 k' (by rw [hx]; exact hk)),
      fun hr' hk => let ⟨k₁, h1, h2⟩ := harr.2 hr' (by rw [hx]; exact hk); ⟨k₁, h1, .head h0 stepR_scope h2⟩⟩
  | goto l => exact hq.elim
  | ret => exact ⟨_, a₁, w₁, hq, .of_steps (.one h0 stepR_scope) harr⟩
  | panic ch => exact ⟨_, a₁, w₁, hq, .of_steps (.one h0 stepR_scope) harr⟩
  | outgrown => exact ⟨_, a₁, w₁, hq, .of_steps (.one h0 stepR_scope) harr⟩
theorem scope_ok {c : Code} {st st' : St} {e : Ex} (h : CodeOk C G c st e st') : CodeOk C G (.scope c) st e st' := by
  intro n0 ρ Δ a w k
  refine wpIn_scope (wpIn_mono (h n0 ρ Δ a w k) ?_)
  rintro x a' w' ⟨rfl, rest⟩
  cases e <;> exact ⟨rfl, rest⟩

theorem least {p : Nat → Prop} (h : ∃ m, p m) : ∃ m, p m ∧ ∀ k, p k → m ≤ k := by
  classical
  obtain ⟨m, hm⟩ := h
  induction m using Nat.strongRecOn with
  | _ m ih =>
    by_cases hk : ∃ k, k < m ∧ p k
    · obtain ⟨k, hlt, hp⟩ := hk; exact ih k hlt hp
    · exact ⟨m, hm, fun k hp => Nat.le_of_not_lt fun hlt => hk ⟨k, hlt, hp⟩⟩
/-- A loop, out of a chain of rounds that grows shorter. -/
theorem loop_ok {c : Code} {st' : St} {e : Ex} (J : Nat → St → Prop) (hstep : ∀ m st, J m st → (∃ st1 m', CodeOk C G c st .normal st1 ∧ m' < m ∧ J m' st1) ∨ (e ≠ .normal ∧ CodeOk C G c st e st')) {m : Nat} {st : St} (h0 : J m st) :
    CodeOk C G (.loop c) st e st' := by
  classical
  intro n0 ρ Δ a w k
  let I : Nat → Act → World → Prop := fun m a' w' => ∃ st1 Δ1, J m st1 ∧ At C G n0 ρ st1 Δ1 a' w' ∧ Step Δ st.heap w Δ1 st1.heap w'
  let μ : Act → World → Nat := fun a' w' => if h : ∃ m, I m a' w' then (least h).choose else 0
  refine wpIn_loop (fun a' w' => ∃ m, I m a' w') μ ⟨m, st, Δ, h0, k, .refl _ _ _⟩ ?_
  intro a1 w1 hI
  have hμ : μ a1 w1 = (least hI).choose := dif_pos hI
  obtain ⟨st1, Δ1, hj, k1, s1⟩ := (least hI).choose_spec.1
  rcases hstep _ _ hj with ⟨st2, m', hc, hlt, hj2⟩ | ⟨hne, hc⟩
  · refine wpIn_mono (hc n0 ρ Δ1 a1 w1 k1) ?_
    rintro x a2 w2 ⟨rfl, Δ2, inv2, env2, m2, s2⟩
    have hI2 : I m' a2 w2 := ⟨st2, Δ2, hj2, k1.after inv2 env2 m2 s2, s1.trans s2⟩
    refine ⟨⟨m', hI2⟩, ?_⟩
    have hex : ∃ m, I m a2 w2 := ⟨m', hI2⟩
    have h2 : μ a2 w2 = (least hex).choose := dif_pos hex
    rw [hμ, h2]
    exact Nat.lt_of_le_of_lt ((least hex).choose_spec.2 m' hI2) hlt
  · refine wpIn_mono (hc n0 ρ Δ1 a1 w1 k1) ?_
    rintro x a2 w2 hend
    have hend := CodeEnd.trans s1 hend
    obtain ⟨rfl, rest⟩ := hend
    cases e with
    | normal => exact absurd rfl hne
    | exit id => exact ⟨rfl, rest⟩
    | ret => exact ⟨rfl, rest⟩

theorem mark_new {n0 : Nat} {w : World} {ds : List Deferred} (m : Marks n0 w ds) (hn : n0 ≤ w.heap.size) (w' : World) (hw : w'.heap[w.heap.size]? = some (.deferred (some []))) (hk : ∀ b, b < w.heap.size → w'.heap[b]? = w.heap[b]? ∨ ∀ x, w.heap[b]? ≠ some (.deferred x)) :
    Marks n0 w' ([{ target := .collected w.heap.size, args := #[] }] ++ ds) := by
  obtain ⟨Ds, h1, h2, h3⟩ := m
  refine ⟨w.heap.size :: Ds, by simp [h1], List.nodup_cons.2 ⟨fun hm => ?_, h2⟩, ?_⟩
  · exact absurd (Marks.lt h3 hm) (Nat.lt_irrefl _)
  · intro D hD
    rcases List.mem_cons.1 hD with rfl | hD
    · exact ⟨hn, hw⟩
    · obtain ⟨g1, g2⟩ := h3 D hD
      rcases hk D (Marks.lt h3 hD) with k | k
      · exact ⟨g1, k.trans g2⟩
      · exact absurd g2 (k _)

theorem range_ok (hS : SmOk C G S) (hGj : ∀ f e c, jumpOf e = some c → G f c) {fid : FuncId} {g : Operand} {params : Array Tmp} {assign body : Code} {st st' : St} {x : Ex} (hga : G fid assign) (hgb : G fid body)
    (e : rangeV C S fid g params assign body st = some (x, st')) : CodeOk C G (.rangeFunc g params assign body) st x st' := by
  intro n0 ρ Δ a w k
  unfold rangeV at e
  cases ec : callFn S (ev C.toCx st.env g) [.yld st.heap.length] (st.heap ++ [.loop .ready none fid st.env params.toList assign body]) with
  | none => rw [ec] at e; simp at e
  | some r =>
    obtain ⟨v, h2⟩ := r
    rw [ec] at e
    simp only [Option.bind_some] at e
    refine wpIn_rangeFunc fun fn _ => ?_
    -- the record
    obtain ⟨l, mark, w0, dfr, hent, inv0, s0, hdef, hmk⟩ : ∃ (l : Nat) (mark : List Deferred) (w0 : World) (dfr : Nat), (Instr.enterLoop fn a.tmps params assign body ρ).run C.P w = .ok (l, mark) (w0.alloc (.loop { state := .ready, pending := none, fn, tmps := a.tmps, params, assign, body, defers := dfr })) ∧
        Inv Δ st.heap w0 ∧ Step Δ st.heap w Δ st.heap w0 ∧ l = w0.heap.size ∧ Marks n0 w0 (mark ++ a.defers) := by
      cases ρ with
      | none =>
        obtain ⟨i1, s1⟩ := alloc_other k.inv (.deferred (some []))
        exact ⟨_, _, w.alloc (.deferred (some [])), w.heap.size, run_enterLoop_outer _ _ _ _ _, i1, s1, by simp, mark_new k.marks k.n0 _ (heap_alloc_same w _) (fun b hb => .inl (heap_alloc_lt w _ hb))⟩
      | some l0 =>
        obtain ⟨r0, hr0⟩ := k.round l0 rfl
        exact ⟨_, _, w, r0.defers, run_enterLoop_inner hr0 _ _ _ _ _, k.inv, .refl _ _ _, rfl, by simpa using k.marks⟩
    obtain ⟨Δ1, inv1, s1, hy⟩ := alloc_loop inv0 { state := .ready, pending := none, fn, tmps := a.tmps, params, assign, body, defers := dfr } (fid := fid) (tmps := st.env) (params := params.toList) (assign := assign) (body := body)
      rfl rfl ⟨k.G ▸ hga, k.G ▸ hgb⟩ k.env rfl rfl rfl
    have s01 := s0.trans s1
    rw [← hdef] at hy
    obtain ⟨d, gf, us, h1, h2', h3⟩ := callFn_ok hS ec (s01.ext.G.trans k.G) inv1 (k.gl.ext s01.ext) ((ev_rep k.gl k.env g).ext s01.ext) (vs := #[.func (.yield l) #[] #[]]) (.cons hy (.nil _))
    refine ⟨l, mark, _, d, _, gf, us, _, hent, ?_, fun _ _ => trivial, h2', fun h => by simp [FW, Fence.wide] at h, ?_⟩
    · rw [resolve_value (f := g) rfl]
      simpa [Act.eval] using h1
    · have h5 : CallsIn (FW ρ) (0 - 1) C.P gf us _ _ := h3
      refine h5.mono ?_
      rintro en w3 ⟨val, Δ3, rfl, inv3, hv, s3⟩
      have hpl : Place Δ3 st.heap.length 1 l 0 := by
        cases hy with
        | yld _ _ hp => exact hp.ext s3.ext
      split at e
      · rename_i s pend f1 t1 p1 a1 b1 ho
        obtain ⟨r3, m1, m2, m3, m4, m5, m6, m7, m8, m9, _, mt⟩ := turn_loop inv3 ho hpl
        split at e
        · simp at e
        · rename_i hbusy
          have hend := (run_endLoop (P := C.P) m1 (by rw [m2]; exact hbusy)).trans (congrArg (fun p => Result.ok p (w3.putObj l (.loop { r3 with state := .exhausted }))) m3)
          obtain ⟨inv4, s4⟩ := mt { r3 with state := .exhausted }
          obtain ⟨Δ5, inv5, s5, _⟩ := gc_ok k.inv inv4 ((s01.trans s3).trans s4)
          have marks5 : Marks n0 (w3.putObj l (.loop { r3 with state := .exhausted })) (mark ++ a.defers) := ((hmk.step inv0 s1).step inv1 s3).step inv3 s4
          refine ⟨pend, _, hend, ?_⟩
          have k5 : At C G n0 ρ ⟨st.env, gc st.heap.length (h2.set st.heap.length .dead)⟩ Δ5 { a with defers := mark ++ a.defers } (w3.putObj l (.loop { r3 with state := .exhausted })) :=
            ⟨s5.ext.G.trans k.G, inv5, k.gl.ext s5.ext, k.env.ext s5.ext, marks5, Nat.le_trans k.n0 s5.size, k.round.step s5⟩
          split at e
          · simp only [Option.some.injEq, Prod.mk.injEq] at e
            obtain ⟨rfl, rfl⟩ := e
            exact ⟨rfl, Δ5, inv5, k5.env, marks5, s5⟩
          · rename_i c
            have hGc : G fid c := by
              have := m4 c rfl fid
              rwa [s3.ext.G, s01.ext.G, k.G] at this
            exact wpIn_mono (hS.code fid c _ _ _ e hGc n0 ρ Δ5 _ _ k5) fun x a'' w'' h => h.trans s5
      · simp at e
end

end Go.Pv
/-
  Regions whose operations may come in any of their orders.
-/
set_option linter.unusedSimpArgs false
set_option linter.unusedVariables false
namespace Go.Pv
open Go

/-! ### What a run touches is all that it depends on -/
theorem runT_local {α : Type} (p : HP α) : ∀ {h h' : H} {v : α} {T W : List Nat}, p.runT h = some (v, h', T, W) →
    h.length ≤ h'.length ∧ (∀ id, id ∉ W → (h'[id]?).getD .pad = (h[id]?).getD .pad) ∧ (∀ id ∈ W, id ∈ T ∧ id < h'.length) ∧ (∀ id, h.length ≤ id → id < h'.length → id ∈ W) ∧
    ∀ g : H, h'.length ≤ g.length → (∀ id ∈ T, id < g.length → g[id]? = some ((h[id]?).getD .pad)) →
      ∃ g', p.runAt (List.range' h.length (h'.length - h.length)) g = some (v, [], g') ∧ g'.length = g.length ∧ ∀ id, id < g.length → g'[id]? = if id ∈ W then some ((h'[id]?).getD .pad) else g[id]? := by
  induction p with
  | ret a =>
    intro h h' v T W e
    simp only [HP.runT, Option.some.injEq, Prod.mk.injEq] at e
    obtain ⟨rfl, rfl, rfl, rfl⟩ := e
    exact ⟨Nat.le_refl _, fun _ _ => rfl, fun _ h => by simp at h, fun id h1 h2 => by omega, fun g _ _ => ⟨g, by simp [HP.runAt], rfl, fun id _ => by simp⟩⟩
  | fail => intro h h' v T W e; simp [HP.runT] at e
  | get i k ih =>
    intro h h' v T W e
    simp only [HP.runT] at e
    split at e
    · rename_i o ho
      cases er : (k o).runT h with
      | none => rw [er] at e; simp at e
      | some r =>
        obtain ⟨v1, h1, T1, W1⟩ := r
        rw [er] at e
        simp only [Option.map_some, Option.some.injEq, Prod.mk.injEq] at e
        obtain ⟨rfl, rfl, rfl, rfl⟩ := e
        obtain ⟨a1, a2, a3, a4, a5⟩ := ih o er
        refine ⟨a1, a2, fun id hid => ⟨List.mem_cons_of_mem _ (a3 id hid).1, (a3 id hid).2⟩, a4, fun g hg hT => ?_⟩
        have hi : i < g.length := Nat.lt_of_lt_of_le (List.getElem?_eq_some_iff.1 ho).1 (Nat.le_trans a1 hg)
        have := hT i (by simp) hi
        rw [ho] at this
        obtain ⟨g', b1, b2, b3⟩ := a5 g hg (fun id hid hlt => hT id (List.mem_cons_of_mem _ hid) hlt)
        exact ⟨g', by simp only [HP.runAt, this, Option.getD_some]; exact b1, b2, b3⟩
    · simp at e
  | put i o k ih =>
    intro h h' v T W e
    simp only [HP.runT] at e
    split at e
    · rename_i hi
      cases er : k.runT (h.set i o) with
      | none => rw [er] at e; simp at e
      | some r =>
        obtain ⟨v1, h1, T1, W1⟩ := r
        rw [er] at e
        simp only [Option.map_some, Option.some.injEq, Prod.mk.injEq] at e
        obtain ⟨rfl, rfl, rfl, rfl⟩ := e
        obtain ⟨a1, a2, a3, a4, a5⟩ := ih er
        simp only [List.length_set] at a1 a4 a5
        refine ⟨a1, fun id hid => ?_, ?_, fun id q1 q2 => List.mem_cons_of_mem _ (a4 id q1 q2), fun g hg hT => ?_⟩
        · simp only [List.mem_cons, not_or] at hid
          rw [a2 id hid.2, List.getElem?_set_ne (Ne.symm hid.1)]
        · intro id hid
          rcases List.mem_cons.1 hid with rfl | hid
          · exact ⟨by simp, by omega⟩
          · exact ⟨List.mem_cons_of_mem _ (a3 id hid).1, (a3 id hid).2⟩
        · have hig : i < g.length := by omega
          obtain ⟨g', b1, b2, b3⟩ := a5 (g.set i o) (by simpa using hg) (fun id hid hlt => by
            simp only [List.length_set] at hlt
            by_cases hii : i = id
            · subst hii; rw [List.getElem?_set_self hlt, List.getElem?_set_self hi]; rfl
            · rw [List.getElem?_set_ne hii, List.getElem?_set_ne hii]; exact hT id (List.mem_cons_of_mem _ hid) hlt)
          simp only [List.length_set] at b2 b3
          refine ⟨g', by simp only [HP.runAt, if_pos hig]; exact b1, b2, fun id hlt => ?_⟩
          rw [b3 id hlt]
          by_cases hW : id ∈ W1
          · rw [if_pos hW, if_pos (List.mem_cons_of_mem _ hW)]
          · rw [if_neg hW]
            by_cases hii : i = id
            · subst hii
              rw [if_pos (by simp), List.getElem?_set_self hlt, a2 i hW, List.getElem?_set_self hi]; rfl
            · rw [if_neg (by simp only [List.mem_cons, not_or]; exact ⟨Ne.symm hii, hW⟩), List.getElem?_set_ne hii]
    · simp at e
  | new o k ih =>
    intro h h' v T W e
    simp only [HP.runT] at e
    cases er : (k h.length).runT (h ++ [o]) with
    | none => rw [er] at e; simp at e
    | some r =>
      obtain ⟨v1, h1, T1, W1⟩ := r
      rw [er] at e
      simp only [Option.map_some, Option.some.injEq, Prod.mk.injEq] at e
      obtain ⟨rfl, rfl, rfl, rfl⟩ := e
      obtain ⟨a1, a2, a3, a4, a5⟩ := ih h.length er
      simp only [List.length_append, List.length_cons, List.length_nil, Nat.zero_add] at a1 a4 a5
      have old : ∀ id, id ≠ h.length → ((h ++ [o])[id]?).getD Ob.pad = (h[id]?).getD .pad := by
        intro id hne
        by_cases hlt : id < h.length
        · rw [List.getElem?_append_left hlt]
        · rw [List.getElem?_append_right (by omega), List.getElem?_eq_none (by simp; omega), List.getElem?_eq_none (by omega)]
      refine ⟨by omega, fun id hid => ?_, ?_, fun id q1 q2 => ?_, fun g hg hT => ?_⟩
      · simp only [List.mem_cons, not_or] at hid
        rw [a2 id hid.2, old id hid.1]
      · intro id hid
        rcases List.mem_cons.1 hid with rfl | hid
        · exact ⟨by simp, by omega⟩
        · exact ⟨List.mem_cons_of_mem _ (a3 id hid).1, (a3 id hid).2⟩
      · by_cases hii : id = h.length
        · simp [hii]
        · exact List.mem_cons_of_mem _ (a4 id (by omega) q2)
      · have hlg : h.length < g.length := by omega
        have hpad := hT h.length (by simp) hlg
        rw [List.getElem?_eq_none (Nat.le_refl _)] at hpad
        obtain ⟨g', b1, b2, b3⟩ := a5 (g.set h.length o) (by simpa using hg) (fun id hid hlt => by
          simp only [List.length_set] at hlt
          by_cases hii : h.length = id
          · subst hii; rw [List.getElem?_set_self hlt]; simp
          · rw [List.getElem?_set_ne hii, old id (Ne.symm hii)]; exact hT id (List.mem_cons_of_mem _ hid) hlt)
        simp only [List.length_set] at b2 b3
        refine ⟨g', ?_, b2, fun id hlt => ?_⟩
        · have hm : h1.length - h.length = (h1.length - (h.length + 1)) + 1 := by omega
          rw [hm, List.range'_succ]
          simp only [HP.runAt, hpad, Option.getD_none]; exact b1
        · rw [b3 id hlt]
          by_cases hW : id ∈ W1
          · rw [if_pos hW, if_pos (List.mem_cons_of_mem _ hW)]
          · rw [if_neg hW]
            by_cases hii : h.length = id
            · subst hii
              rw [if_pos (by simp), List.getElem?_set_self hlt, a2 _ hW]; simp
            · rw [if_neg (by simp only [List.mem_cons, not_or]; exact ⟨Ne.symm hii, hW⟩), List.getElem?_set_ne hii]

/-! ### What an operation looks at -/
theorem ev_congr {C : Cx} {env env' : List V} {x : Operand} (h : ∀ t, x = .tmp t → env[t]? = env'[t]?) : ev C env x = ev C env' x := by
  cases x with
  | tmp t => simp only [ev, List.getD_eq_getElem?_getD, h t rfl]
  | _ => rfl
theorem opHP_congr {C : Cx} {own : Bool} {env env' : List V} {o : Oper} (h : ∀ x ∈ o.op.operands, ev C env x = ev C env' x) : opHP C own env o = opHP C own env' o := by
  obtain ⟨dst, op, type, pos, after, guard⟩ := o
  have pairs : ∀ ps : Array (Nat × Operand), (∀ x ∈ (ps.toList.map (·.2)).toArray, ev C env x = ev C env' x) →
      (ps.toList.map fun p => (p.1, ev C env p.2)) = (ps.toList.map fun p => (p.1, ev C env' p.2)) := fun ps hp =>
    List.map_congr_left fun p hm => by rw [hp p.2 (by simpa using ⟨p.1, by simpa using hm⟩)]
  have many : ∀ xs : Array Operand, (∀ x ∈ xs, ev C env x = ev C env' x) → xs.toList.map (ev C env) = xs.toList.map (ev C env') := fun xs hx => List.map_congr_left fun x hm => hx x (by simpa using hm)
  cases op <;> simp only [Op.operands] at h <;> simp only [opHP]
  case build t ps => rw [pairs ps h]
  case buildSlice t n ps => rw [pairs ps h]
  case makeFunc fn first captured => rw [many first fun x hx => h x (by simp [hx]), many captured fun x hx => h x (by simp [hx])]
  case call c =>
    split
    · rw [many c.args fun x hx => h x (by simp [Call.operands, hx])]
    · rfl
  case slice t x lo hi mx =>
    have hx := h x (by simp)
    have hlo : lo.map (ev C env) = lo.map (ev C env') := by cases lo with | none => rfl | some y => simp [h y (by simp)]
    have hhi : hi.map (ev C env) = hi.map (ev C env') := by cases hi with | none => rfl | some y => simp [h y (by simp)]
    rw [hx, hlo, hhi]
    split
    · rfl
    · split
      · rw [h _ (by simp), h _ (by simp), h _ (by simp)]
      · rfl
  all_goals (first | rfl | (simp_all; done))
theorem stepHP_congr {C : Cx2} {S : Sm} {fid : FuncId} {env env' : List V} {o : Oper} (h : ∀ x ∈ o.op.operands, ev C.toCx env x = ev C.toCx env' x) : stepHP C S fid env o = stepHP C S fid env' o := by
  unfold stepHP
  split
  · rename_i c hc
    split
    · rename_i f hf
      have h1 : ev C.toCx env f = ev C.toCx env' f := h f (by rw [hc]; simp [Op.operands, Call.operands, hf])
      have h2 : c.args.toList.map (ev C.toCx env) = c.args.toList.map (ev C.toCx env') := List.map_congr_left fun x hm => h x (by rw [hc]; simp [Op.operands, Call.operands]; exact .inr (by simpa using hm))
      rw [h1, h2]
    · exact opHP_congr h
  · exact opHP_congr h
theorem mem_looksAt_op {ops : Array Oper} {o : Oper} {t : Tmp} (h : Operand.tmp t ∈ o.op.operands) : t ∈ o.looksAt ops :=
  List.mem_append_left _ (List.mem_filterMap.2 ⟨.tmp t, by simpa using h, rfl⟩)
theorem guardV_congr {ops : Array Oper} {env env' : List V} {o : Oper} (h : ∀ t ∈ o.looksAt ops, env[t]? = env'[t]?) : guardV ops env o = guardV ops env' o := by
  unfold guardV
  cases hg : o.guard with
  | none => rfl
  | some jw =>
    obtain ⟨j, want⟩ := jw
    simp only []
    cases ht : (ops[j]?).bind (·.dst) with
    | none => rfl
    | some t => simp only [Option.bind_some]; rw [h t (List.mem_append_right _ (by simp [hg, ht]))]

/-! ### One operation, its new objects at their places -/
section
variable {C : Cx2} {G : FuncId → Code → Prop} {S : Sm}

theorem dropT_one {Δ : WT} {x : V} {v : Value} (h : Rep Δ x v) : Rep Δ (dropT x) v := by
  cases h with
  | list sz xs tk v h ht => exact .list sz xs .no v h trivial
  | sc v => exact .sc v
  | unk v => exact .unk v
  | pptr sz xs i k b o h => exact .pptr sz xs i k b o h
  | ref id off b h => exact .ref id off b h
  | sl id ver sz off len b cap S h hs hc hl => exact .sl id ver sz off len b cap S h hs hc hl
  | eref id ver sz i k b h => exact .eref id ver sz i k b h
  | csl id off len b cap h hl => exact .csl id off len b cap h hl
  | agg cs vs hn h => exact .agg cs vs hn h
  | tup cs vs hn h => exact .tup cs vs hn h
  | fn f first caps us vs hu hv h1 h2 => exact .fn f first caps us vs hu hv h1 h2
  | yld id l h => exact .yld id l h
  | mp id b h => exact .mp id b h
theorem dropT_rep {Δ Δ' : WT} {vs : List V} {v : Value} (hs : SubI Δ.ι Δ'.ι) (hx : (vs.map dropT).all isArg = true) (h : Rep Δ (.tup vs) v) : Rep Δ' (.tup (vs.map dropT)) v := by
  cases h with
  | tup _ us hn h =>
    refine .tup _ us (by simpa using hn) fun i x u hi hu => ?_
    have hm := List.mem_of_getElem? hi
    rw [List.getElem?_map] at hi
    obtain ⟨y, hy, rfl⟩ := Option.map_eq_some_iff.1 hi
    exact isArg_rep hs (List.all_eq_true.1 hx _ hm) (dropT_one (h i y u hy hu))
theorem tail_beside {Δ Δ2 : WT} {h : H} {w w2 : World} {bt : TypeId} {n : Nat} (inv : Inv Δ h w) (inv2 : Inv Δ2 [.tail bt n] w2) (s : Step Δ.bare [] w Δ2 [.tail bt n] w2) {i : Nat} (hp : h[i]? = some .pad) {sz : Nat} {xs : List (List V)} {val : Value} (hv : Rep Δ2 (.list sz xs (.tail 0)) val) :
    ∃ Δ', Inv Δ' (h.set i (.tail bt n)) w2 ∧ Step Δ h w Δ' (h.set i (.tail bt n)) w2 ∧ Rep Δ' (.list sz xs (.tail i)) val := by
  obtain ⟨hν, b, p, S, hm, hσ, hb, hz⟩ := inv2.ob 0 _ rfl
  have hfar : w.heap.size ≤ b := by
    apply Nat.le_of_not_lt; intro hlt
    exact not_ob_nil (s.own b hlt ⟨0, _, p, rfl, rfl, hm⟩)
  have hi : i < h.length := (List.getElem?_eq_some_iff.1 hp).1
  have hν0 : Δ.ν i = 0 := inv.ob i _ hp
  let Δ3 : WT := { Δ with ι := Δ2.ι, σ := Δ2.σ }
  have ext3 : Ext Δ Δ3 := ⟨s.ext.ι, s.ext.σ, Nat.le_refl _, fun _ _ => Nat.le_refl _, fun _ _ _ => rfl, rfl⟩
  have ext4 : Ext Δ3 (Δ3.put i (n + 1) b p) := put_ext (by show Δ.ν i < n + 1; omega)
  have u := Upd.inv (Δ := Δ) (Δ' := Δ3.put i (n + 1) b p) (h := h) (w := w) (w' := w2) (id := i) (o' := .tail bt n) (T := fun _ => False)
    ⟨hi, ext3.trans ext4, rfl, fun j hj => by simp [WT.put, hj, Δ3], fun j hj => by simp [WT.put, hj, Δ3], fun b k => k.elim, s.os, s.tape, s.output, s.size, fun b hb _ => s.block b hb not_ob_nil, fun b o hb _ => s.newι b o hb not_ob_nil,
      inv2.ι, inv2.σ, ⟨by simp [WT.put], b, p, S, by simp [WT.put], hσ, hb, hz⟩, fun _ b' p' hm' => by simp [WT.put] at hm'; left; rw [← hm'.1]; exact hfar, fun l r k => k.elim⟩ inv
  refine ⟨_, u.1, u.2, ?_⟩
  cases hv with
  | list _ _ _ _ hr ht =>
    obtain ⟨b', o, cap, S', h1, h2, h3, h4⟩ := ht
    refine .list sz xs (.tail i) val hr ⟨b', o, cap, S', h1, ⟨?_, ?_, ?_⟩, h3, h4⟩
    · show i < Δ.N; rw [inv.N]; exact hi
    · have := h2.2.1; rw [hν] at this; simpa [WT.put] using this
    · intro hk
      have hk' : xs.length + 1 = n + 1 := by simpa [WT.put] using hk
      have := h2.2.2 (by rw [hν]; exact hk')
      rw [hm] at this
      simpa [WT.put] using this
theorem stepHP_ok (hS : SmOk C G S) {fid : FuncId} {env : List V} {o : Oper} {v : V} {is is' : List Nat} {g g' : H} (e : (stepHP C S fid env o).runAt is g = some (v, is', g')) {ρ : Option Nat} {Δ : WT} {a : Act} {w : World}
    (hG : Δ.G = G) (inv : Inv Δ g w) (gl : GOk C.toCx Δ) (hr : RepL Δ env a.tmps.toList) {next : Act → World → Prop} {Q : Exit → Act → World → Prop}
    (hn : ∀ a' w' Δ', Inv Δ' g' w' → RepL Δ' (putV env o.dst v) a'.tmps.toList → a'.defers = a.defers → Step Δ g w Δ' g' w' → next a' w') : o.wpIn (FW ρ) 0 C.P a w next Q := by
  have opcase : (opHP C.toCx (C.own fid) env o).runAt is g = some (v, is', g') → o.wpIn (FW ρ) 0 C.P a w next Q := by
    intro e
    obtain ⟨nx, w', Δ', h1, h2, h3, h4⟩ := op_sound e inv gl hr
    have hnd : ∀ c, o.op ≠ .defer c := by intro c hc; unfold opHP at e; simp [hc, HP.runAt] at e
    exact oper_value h1 hnd h2 fun val hv => hn _ _ Δ' h3 (put_rep (hr.ext h4.ext) o.dst hv) (put_defers _ _ _) h4
  unfold stepHP at e
  split at e
  · rename_i c hc
    split at e
    · rename_i f hcal
      unfold callHP at e
      split at e
      · rename_i gf hef
        split at e
        · rename_i fn hfn
          obtain ⟨args', is1, g1, e1, e2⟩ := runAt_bind_inv e
          have hargs : RepL Δ (c.args.toList.map (ev C.toCx env)) (c.args.map a.eval).toList := by
            rw [Array.toList_map]; exact evs_rep gl hr _
          obtain ⟨hi, Δ1, inv1, s1, hr1⟩ := normVs_sound _ _ _ _ e1 inv hargs
          subst hi
          split at e2
          · rename_i hall
            have hfv : a.eval f = .func (.func gf) #[] #[] := by
              have := ev_rep gl hr f
              rw [hef] at this
              generalize a.eval f = u at this
              cases this; rfl
            have enter : ∀ (hk : FnOk C.P gf) {v0 : V} {h0 : H}, CallsIn (FW none) 0 C.P gf (c.args.map a.eval) w (CallEnd v0 h0 Δ1.bare [] w) →
                (∀ val w' Δ2, Inv Δ2 h0 w' → Rep Δ2 v0 val → Step Δ1.bare [] w Δ2 h0 w' → next (a.put o.dst val) w') → o.wpIn (FW ρ) 0 C.P a w next Q := by
              intro k1 v0 h0 k3 kn
              have hex : (Oper.semAt (FW ρ).round a.eval o).run C.P w = .ok (.enter gf (c.args.map a.eval)) w := by
                rw [Oper.semAt_eq _ _ _ (by rw [hc]; simp)]
                unfold execOp
                simp only [hc, resolve_value hcal, Sem.run_bind, hfv, ofValue_sc, Result.andThen_ok]
                simp [invoke, callFunc_ok k1]
              refine ⟨fun _ _ => trivial, ?_⟩
              rw [hex]
              refine ⟨fun h => by simp [FW, Fence.wide] at h, ?_⟩
              have h5 : CallsIn (FW ρ) (0 - 1) C.P gf (c.args.map a.eval) w (CallEnd v0 h0 Δ1.bare [] w) := k3
              refine h5.mono ?_
              rintro en w' ⟨val, Δ2, rfl, inv2, hv, s2⟩
              exact kn val w' Δ2 inv2 hv s2
            unfold resHP at e2
            split at e2
            · rename_i v' hcall
              split at e2
              · rename_i hres
                obtain ⟨rfl, rfl, rfl⟩ := runAt_ret e2
                obtain ⟨k1, k2⟩ := hS.call _ _ _ _ _ hcall
                have k3 := k2 Δ1.bare w (c.args.map a.eval) (s1.ext.G.trans hG) (bare_inv inv1) (bare_gok (gl.ext s1.ext)) (isArgs_rep (Δ := Δ1) (Δ' := Δ1.bare) (fun _ _ _ h => h) hall hr1)
                refine enter k1 k3 fun val w' Δ2 inv2 hv s2 => ?_
                obtain ⟨i3, s3⟩ := beside inv1 inv2 s2
                have s13 := s1.trans s3
                exact hn _ _ _ i3 (put_rep (hr.ext s13.ext) o.dst (isRes_rep (Δ := Δ2) (fun _ _ _ h => h) hres hv)) (put_defers _ _ _) s13
              · exact (runAt_fail e2).elim
            · rename_i sz xs bt n hcall
              obtain ⟨k1, k2⟩ := hS.call _ _ _ _ _ hcall
              have k3 := k2 Δ1.bare w (c.args.map a.eval) (s1.ext.G.trans hG) (bare_inv inv1) (bare_gok (gl.ext s1.ext)) (isArgs_rep (Δ := Δ1) (Δ' := Δ1.bare) (fun _ _ _ h => h) hall hr1)
              refine enter k1 k3 fun val w' Δ2 inv2 hv s2 => ?_
              cases is1 with
              | nil => simp [HP.runAt] at e2
              | cons i is2 =>
                simp only [HP.runAt] at e2
                split at e2
                · rename_i hpad
                  simp only [Option.some.injEq, Prod.mk.injEq] at e2
                  obtain ⟨rfl, rfl, rfl⟩ := e2
                  obtain ⟨_, i4, s4, hv4⟩ := tail_beside inv1 inv2 s2 hpad hv
                  have s14 := s1.trans s4
                  exact hn _ _ _ i4 (put_rep (hr.ext s14.ext) o.dst hv4) (put_defers _ _ _) s14
                · simp at e2
            · rename_i vs2 ob2 hrest hcall
              split at e2
              · rename_i hres
                obtain ⟨rfl, rfl, rfl⟩ := runAt_ret e2
                obtain ⟨k1, k2⟩ := hS.call _ _ _ _ _ hcall
                have k3 := k2 Δ1.bare w (c.args.map a.eval) (s1.ext.G.trans hG) (bare_inv inv1) (bare_gok (gl.ext s1.ext)) (isArgs_rep (Δ := Δ1) (Δ' := Δ1.bare) (fun _ _ _ h => h) hall hr1)
                refine enter k1 k3 fun val w' Δ2 inv2 hv s2 => ?_
                obtain ⟨i3, s3⟩ := beside inv1 inv2 s2
                have s13 := s1.trans s3
                exact hn _ _ _ i3 (put_rep (hr.ext s13.ext) o.dst (dropT_rep (Δ := Δ2) (fun _ _ _ h => h) hres hv)) (put_defers _ _ _) s13
              · exact (runAt_fail e2).elim
            · exact (runAt_fail e2).elim
          · exact (runAt_fail e2).elim
        · exact (runAt_fail e).elim
      · exact (runAt_fail e).elim
    · exact opcase e
  · exact opcase e
end

end Go.Pv
/-
  A region that draws its order: whatever the order, it does what the text's order does.
-/
set_option linter.unusedSimpArgs false
set_option linter.unusedVariables false
namespace Go.Pv
open Go

/-- Does i come after j, by the masks? -/
def ordB (ms : List Nat) (i j : Nat) : Bool := (ms.getD i 0).testBit j
/-- The masks are what the edges say, and unordered operations share no temporary. -/
def okD (ms : List Nat) (ops : Array Oper) : Bool :=
  let bind (o : Oper) : List Nat := o.after.toList.filterMap fun e => if Region.binds .any e then some e.on else none
  let sees (o : Oper) : List Tmp := o.looksAt ops
  ops.toList.zipIdx.all fun (o, i) =>
    (bind o).all (fun k => decide (k < i)) &&
    (List.range i).all (fun j => !ordB ms i j || (bind o).any fun k => k == j || ordB ms k j) &&
    decide (ms.getD i 0 < 2 ^ i) &&
    (ops.toList.zipIdx.all fun (o', j) => !decide (j < i) || ordB ms i j ||
      ((o'.dst.all fun d => !(sees o).contains d && o.dst != some d) && (o.dst.all fun d => !(sees o').contains d)))

structure OkD (ms : List Nat) (ops : Array Oper) : Prop where
  edge : ∀ (i : Nat) (o : Oper), ops[i]? = some o → ∀ e ∈ o.after, Region.binds .any e = true → e.on < i
  mask : ∀ (i : Nat) (o : Oper) (j : Nat), ops[i]? = some o → ordB ms i j = true → ∃ e ∈ o.after, Region.binds .any e = true ∧ (e.on = j ∨ ordB ms e.on j = true)
  apart : ∀ (i j : Nat) (o o' : Oper), ops[i]? = some o → ops[j]? = some o' → j < i → ordB ms i j = false →
    (∀ d, o'.dst = some d → d ∉ o.looksAt ops ∧ o.dst ≠ some d) ∧ ∀ d, o.dst = some d → d ∉ o'.looksAt ops
theorem okD_spec {ms : List Nat} {ops : Array Oper} (h : okD ms ops = true) : OkD ms ops := by
  have each : ∀ (i : Nat) (o : Oper), ops[i]? = some o → (o, i) ∈ ops.toList.zipIdx := by
    intro i o ho
    have ho' : ops.toList[i]? = some o := by simpa using ho
    exact List.mk_mem_zipIdx_iff_getElem?.2 ho'
  unfold okD at h
  simp only [List.all_eq_true] at h
  refine ⟨?_, ?_, ?_⟩
  · intro i o ho e he hb
    have := h _ (each i o ho)
    simp only [Bool.and_eq_true, List.all_eq_true, decide_eq_true_eq] at this
    exact this.1.1.1 e.on (List.mem_filterMap.2 ⟨e, by simpa using he, by simp [hb]⟩)
  · intro i o j ho hj
    have := h _ (each i o ho)
    simp only [Bool.and_eq_true, List.all_eq_true, decide_eq_true_eq] at this
    have hlt : j < i := by
      apply Nat.lt_of_not_le; intro hle
      have h1 : ms.getD i 0 < 2 ^ j := Nat.lt_of_lt_of_le this.1.2 (Nat.pow_le_pow_right (by omega) hle)
      have := Nat.testBit_lt_two_pow h1
      rw [ordB, this] at hj; exact absurd hj (by simp)
    have h2 := this.1.1.2 j (List.mem_range.2 hlt)
    simp only [hj, Bool.not_true, Bool.false_or, List.any_eq_true, List.mem_filterMap] at h2
    obtain ⟨k, ⟨e, he, hk⟩, hkj⟩ := h2
    split at hk
    · rename_i hb
      simp only [Option.some.injEq] at hk
      subst hk
      refine ⟨e, by simpa using he, hb, ?_⟩
      simpa using hkj
    · simp at hk
  · intro i j o o' ho ho' hlt hno
    have := h _ (each i o ho)
    simp only [Bool.and_eq_true, List.all_eq_true, decide_eq_true_eq] at this
    have h2 := this.2 _ (each j o' ho')
    simp only [hlt, decide_true, Bool.not_true, Bool.false_or, hno, Bool.and_eq_true, Option.all_eq_true] at h2
    refine ⟨fun d hd => ?_, fun d hd => ?_⟩
    · have := h2.1 d hd
      simpa using this
    · have := h2.2 d hd
      simpa using this

section
variable {C : Cx2} {G : FuncId → Code → Prop} {S : Sm} {fid : FuncId} {ops : Array Oper}

/-- One operation in the text's order. -/
def StepD (C : Cx2) (S : Sm) (fid : FuncId) (ops : Array Oper) (st : St) (o : Oper) (st' : St) (f : List Nat × List Nat) : Prop :=
  (guardV ops st.env o = some false ∧ st' = ⟨putV st.env o.dst (.tup []), st.heap⟩ ∧ f = ([], [])) ∨
  (guardV ops st.env o = some true ∧ ∃ v, (stepHP C S fid st.env o).runT st.heap = some (v, st'.heap, f.1, f.2) ∧ st'.env = putV st.env o.dst v)

theorem runD_trace : ∀ (os : List Oper) {st st' : St} {fs : List (List Nat × List Nat)}, runD C S fid ops os st = some (st', fs) →
    ∃ (s : Nat → St) (f : Nat → List Nat × List Nat), s 0 = st ∧ s os.length = st' ∧ fs = (List.range os.length).map f ∧ ∀ i o, os[i]? = some o → StepD C S fid ops (s i) o (s (i + 1)) (f i)
  | [], st, st', fs, e => by
    simp only [runD, Option.some.injEq, Prod.mk.injEq] at e
    obtain ⟨rfl, rfl⟩ := e
    exact ⟨fun _ => st, fun _ => ([], []), rfl, rfl, rfl, fun i o h => by simp at h⟩
  | o :: os, st, st', fs, e => by
    have go : ∀ (st1 : St) (f1 : List Nat × List Nat), StepD C S fid ops st o st1 f1 → ∀ fs', runD C S fid ops os st1 = some (st', fs') → fs = f1 :: fs' →
        ∃ (s : Nat → St) (f : Nat → List Nat × List Nat), s 0 = st ∧ s (o :: os).length = st' ∧ fs = (List.range (o :: os).length).map f ∧ ∀ i o', (o :: os)[i]? = some o' → StepD C S fid ops (s i) o' (s (i + 1)) (f i) := by
      intro st1 f1 h1 fs' e' hfs
      obtain ⟨s, f, g1, g2, g3, g4⟩ := runD_trace os e'
      refine ⟨fun | 0 => st | i + 1 => s i, fun | 0 => f1 | i + 1 => f i, rfl, g2, ?_, ?_⟩
      · rw [hfs, g3, List.length_cons, List.range_succ_eq_map]; simp [Function.comp_def]
      · intro i o' ho
        cases i with
        | zero => simp at ho; subst ho; show StepD C S fid ops st o (s 0) f1; rw [g1]; exact h1
        | succ i => exact g4 i o' (by simpa using ho)
    simp only [runD] at e
    split at e
    · simp at e
    · rename_i hg
      cases er : runD C S fid ops os ⟨putV st.env o.dst (.tup []), st.heap⟩ with
      | none => rw [er] at e; simp at e
      | some r =>
        obtain ⟨st2, fs2⟩ := r
        rw [er] at e
        simp only [Option.map_some, Option.some.injEq, Prod.mk.injEq] at e
        obtain ⟨rfl, rfl⟩ := e
        exact go _ _ (.inl ⟨hg, rfl, rfl⟩) _ er rfl
    · rename_i hg
      cases er : (stepHP C S fid st.env o).runT st.heap with
      | none => rw [er] at e; simp at e
      | some r =>
        obtain ⟨v, h1, T, W⟩ := r
        rw [er] at e
        simp only [Option.bind_some] at e
        cases er2 : runD C S fid ops os ⟨putV st.env o.dst v, h1⟩ with
        | none => rw [er2] at e; simp at e
        | some r2 =>
          obtain ⟨st2, fs2⟩ := r2
          rw [er2] at e
          simp only [Option.map_some, Option.some.injEq, Prod.mk.injEq] at e
          obtain ⟨rfl, rfl⟩ := e
          exact go ⟨putV st.env o.dst v, h1⟩ (T, W) (.inr ⟨hg, v, er, rfl⟩) _ er2 rfl

theorem clashes_spec {ord : Nat → Nat → Bool} : ∀ (fs : List (List Nat × List Nat)) (k : Nat), clashes ord k fs = true → ∀ i j a b, i < j → fs[i]? = some a → fs[j]? = some b → clash a b = true → ord (k + i) (k + j) = true
  | [], k, _, i, j, a, b, _, ha, _, _ => by simp at ha
  | x :: r, k, h, i, j, a, b, hij, ha, hb, hc => by
    simp only [clashes, Bool.and_eq_true, List.all_eq_true] at h
    obtain ⟨h1, h2⟩ := h
    cases i with
    | zero =>
      simp at ha; subst ha
      obtain ⟨j', rfl⟩ : ∃ j', j = j' + 1 := ⟨j - 1, by omega⟩
      have hb' : r[j']? = some b := by simpa using hb
      have hm : (b, k + 1 + j') ∈ r.zipIdx (k + 1) := by
        rw [List.mem_zipIdx_iff_le_and_getElem?_sub]
        exact ⟨by simp, by simpa using hb'⟩
      have := h1 _ hm
      simp only [hc, Bool.not_true, Bool.false_or] at this
      have e : k + (j' + 1) = k + 1 + j' := by omega
      rw [e]; simpa using this
    | succ i =>
      obtain ⟨j', rfl⟩ : ∃ j', j = j' + 1 := ⟨j - 1, by omega⟩
      have := clashes_spec r (k + 1) h2 i j' a b (by omega) (by simpa using ha) (by simpa using hb) hc
      have e1 : k + (i + 1) = k + 1 + i := by omega
      have e2 : k + (j' + 1) = k + 1 + j' := by omega
      rw [e1, e2]; exact this

/-! ### The state at a set of operations that are done -/
/-- t is written by u. -/
def envW (ops : Array Oper) (t : Tmp) (u : Nat) : Prop := ∃ o, ops[u]? = some o ∧ o.dst = some t
structure JD (ops : Array Oper) (s : Nat → St) (f : Nat → List Nat × List Nat) (L : Nat → Prop) (env : List V) (g : H) : Prop where
  gl : g.length = (s ops.size).heap.length
  env : ∀ (t : Tmp) (i : Nat), i ≤ ops.size → (∀ u, u < ops.size → envW ops t u → (u < i ↔ L u)) → env[t]? = (s i).env[t]?
  heap : ∀ (id i : Nat), id < g.length → i ≤ ops.size → (∀ u, u < ops.size → id ∈ (f u).2 → (u < i ↔ L u)) → g[id]? = some (((s i).heap[id]?).getD .pad)

theorem stepD_env {st st' : St} {o : Oper} {f : List Nat × List Nat} (h : StepD C S fid ops st o st' f) : ∃ v, st'.env = putV st.env o.dst v := by
  rcases h with ⟨_, rfl, _⟩ | ⟨_, v, _, he⟩
  · exact ⟨_, rfl⟩
  · exact ⟨v, he⟩
theorem putV_other {env : List V} {d : Option Tmp} {v : V} {t : Tmp} (h : d ≠ some t) : (putV env d v)[t]? = env[t]? := by
  cases d with
  | none => rfl
  | some x => simp only [putV]; rw [List.getElem?_set_ne]; rintro rfl; exact h rfl
theorem stepD_heap {st st' : St} {o : Oper} {f : List Nat × List Nat} (h : StepD C S fid ops st o st' f) :
    st.heap.length ≤ st'.heap.length ∧ (∀ id, id ∉ f.2 → (st'.heap[id]?).getD .pad = (st.heap[id]?).getD .pad) ∧ (∀ id ∈ f.2, id ∈ f.1 ∧ id < st'.heap.length) ∧ (∀ id, st.heap.length ≤ id → id < st'.heap.length → id ∈ f.2) := by
  rcases h with ⟨_, rfl, rfl⟩ | ⟨_, v, hr, he⟩
  · exact ⟨Nat.le_refl _, fun _ _ => rfl, fun _ h => by simp at h, fun id h1 h2 => by simp at h2; omega⟩
  · obtain ⟨a1, a2, a3, a4, _⟩ := runT_local _ hr
    exact ⟨a1, a2, a3, a4⟩

section trace
variable {s : Nat → St} {f : Nat → List Nat × List Nat} (tr : ∀ (i : Nat) (o : Oper), ops[i]? = some o → StepD C S fid ops (s i) o (s (i + 1)) (f i))
include tr
theorem env_const {t : Tmp} : ∀ (n i : Nat), i + n ≤ ops.size → (∀ u, i ≤ u → u < i + n → ¬ envW ops t u) → (s (i + n)).env[t]? = (s i).env[t]?
  | 0, i, _, _ => rfl
  | n + 1, i, hn, hw => by
    have hlt : i + n < ops.size := by omega
    obtain ⟨o, ho⟩ : ∃ o, ops[i + n]? = some o := ⟨_, Array.getElem?_eq_getElem hlt⟩
    obtain ⟨v, hv⟩ := stepD_env (tr _ o ho)
    have : (s (i + n + 1)).env[t]? = (s (i + n)).env[t]? := by
      rw [hv]; exact putV_other fun hd => hw (i + n) (by omega) (by omega) ⟨o, ho, hd⟩
    rw [← Nat.add_assoc, this]
    exact env_const n i (by omega) fun u h1 h2 => hw u h1 (by omega)
theorem heap_const {id : Nat} : ∀ (n i : Nat), i + n ≤ ops.size → (∀ u, i ≤ u → u < i + n → id ∉ (f u).2) → ((s (i + n)).heap[id]?).getD .pad = ((s i).heap[id]?).getD .pad
  | 0, i, _, _ => rfl
  | n + 1, i, hn, hw => by
    have hlt : i + n < ops.size := by omega
    obtain ⟨o, ho⟩ : ∃ o, ops[i + n]? = some o := ⟨_, Array.getElem?_eq_getElem hlt⟩
    have := (stepD_heap (tr _ o ho)).2.1 id (hw (i + n) (by omega) (by omega))
    rw [← Nat.add_assoc, this]
    exact heap_const n i (by omega) fun u h1 h2 => hw u h1 (by omega)
theorem heap_mono : ∀ (n i : Nat), i + n ≤ ops.size → (s i).heap.length ≤ (s (i + n)).heap.length
  | 0, i, _ => Nat.le_refl _
  | n + 1, i, hn => by
    have hlt : i + n < ops.size := by omega
    obtain ⟨o, ho⟩ : ∃ o, ops[i + n]? = some o := ⟨_, Array.getElem?_eq_getElem hlt⟩
    rw [← Nat.add_assoc]
    exact Nat.le_trans (heap_mono n i (by omega)) (stepD_heap (tr _ o ho)).1
theorem heap_le {i : Nat} (h : i ≤ ops.size) : (s i).heap.length ≤ (s ops.size).heap.length := by
  have := heap_mono tr (ops.size - i) i (by omega)
  rwa [show i + (ops.size - i) = ops.size by omega] at this

theorem JD.start : JD ops s f (fun _ => False) (s 0).env ((s 0).heap ++ List.replicate ((s ops.size).heap.length - (s 0).heap.length) .pad) := by
  have hle := heap_le tr (Nat.zero_le _)
  refine ⟨by simp; omega, fun t i hi hw => ?_, fun id i hid hi hw => ?_⟩
  · have := env_const tr (t := t) i 0 (by omega) fun u _ h2 k => (hw u (by omega) k).1 (by omega)
    rw [Nat.zero_add] at this; exact this.symm
  · have := heap_const tr (id := id) i 0 (by omega) fun u _ h2 k => (hw u (by omega) k).1 (by omega)
    rw [Nat.zero_add] at this
    rw [this]
    by_cases h0 : id < (s 0).heap.length
    · rw [List.getElem?_append_left h0, List.getElem?_eq_getElem h0]; rfl
    · rw [List.getElem?_append_right (by omega), List.getElem?_replicate, if_pos (by simp at hid; omega), List.getElem?_eq_none (by omega)]; rfl

omit tr in
theorem JD.done {L : Nat → Prop} {env : List V} {g : H} (j : JD ops s f L env g) (hL : ∀ u, u < ops.size → L u) : env = (s ops.size).env ∧ g = (s ops.size).heap := by
  constructor
  · apply List.ext_getElem?; intro t
    exact j.env t ops.size (Nat.le_refl _) fun u hu _ => ⟨fun _ => hL u hu, fun _ => hu⟩
  · apply List.ext_getElem?; intro id
    by_cases h : id < g.length
    · rw [j.heap id ops.size h (Nat.le_refl _) fun u hu _ => ⟨fun _ => hL u hu, fun _ => hu⟩]
      rw [j.gl] at h
      rw [List.getElem?_eq_getElem h]; rfl
    · rw [List.getElem?_eq_none (by omega), List.getElem?_eq_none (by rw [← j.gl]; omega)]

/-- The operation i is next: all before it by the masks is done, none behind it. -/
structure Next' (ms : List Nat) (ops : Array Oper) (L : Nat → Prop) (i : Nat) : Prop where
  lt : i < ops.size
  not : ¬ L i
  down : ∀ j, ordB ms i j = true → L j
  up : ∀ j, L j → j < ops.size → ordB ms j i = false

omit tr in
theorem JD.look {ms : List Nat} (ok : OkD ms ops) {L : Nat → Prop} {env : List V} {g : H} (j : JD ops s f L env g) {i : Nat} {o : Oper} (ho : ops[i]? = some o) (nx : Next' ms ops L i) : ∀ t ∈ o.looksAt ops, env[t]? = (s i).env[t]? := by
  intro t ht
  refine j.env t i (Nat.le_of_lt nx.lt) fun u hu ⟨o', ho', hd⟩ => ?_
  constructor
  · intro hlt
    cases hm : ordB ms i u with
    | true => exact nx.down u hm
    | false => exact absurd ht (ok.apart i u o o' ho ho' hlt hm |>.1 t hd).1
  · intro hL
    apply Nat.lt_of_not_le; intro hle
    rcases Nat.eq_or_lt_of_le hle with rfl | hlt
    · exact nx.not hL
    · exact absurd ht ((ok.apart u i o' o ho' ho hlt (nx.up u hL hu)).2 t hd)

omit tr in
theorem JD.dst {ms : List Nat} (ok : OkD ms ops) {L : Nat → Prop} {i : Nat} {o : Oper} (ho : ops[i]? = some o) (nx : Next' ms ops L i) {t : Tmp} (ht : o.dst = some t) : ∀ u, u < ops.size → envW ops t u → (u < i ↔ L u) := by
  intro u hu ⟨o', ho', hd⟩
  constructor
  · intro hlt
    cases hm : ordB ms i u with
    | true => exact nx.down u hm
    | false => exact absurd ht (ok.apart i u o o' ho ho' hlt hm |>.1 t hd).2
  · intro hL
    apply Nat.lt_of_not_le; intro hle
    rcases Nat.eq_or_lt_of_le hle with rfl | hlt
    · exact nx.not hL
    · exact absurd hd ((ok.apart u i o' o ho' ho hlt (nx.up u hL hu)).1 t ht).2

omit tr in
theorem JD.touch {ms : List Nat} (hcl : ∀ i j, i < j → j < ops.size → clash (f i) (f j) = true → ordB ms j i = true) {L : Nat → Prop} {i : Nat} (nx : Next' ms ops L i) {id : Nat} (hid : id ∈ (f i).1) :
    ∀ u, u < ops.size → id ∈ (f u).2 → (u < i ↔ L u) := by
  intro u hu hw
  have c1 : clash (f u) (f i) = true := by
    simp only [clash, Bool.or_eq_true, List.any_eq_true]
    exact .inl ⟨id, hw, by simpa using hid⟩
  have c2 : clash (f i) (f u) = true := by
    simp only [clash, Bool.or_eq_true, List.any_eq_true]
    exact .inr ⟨id, hw, by simpa using hid⟩
  constructor
  · intro hlt; exact nx.down u (hcl u i hlt nx.lt c1)
  · intro hL
    apply Nat.lt_of_not_le; intro hle
    rcases Nat.eq_or_lt_of_le hle with rfl | hlt
    · exact nx.not hL
    · have := hcl i u hlt hu c2
      rw [nx.up u hL hu] at this; exact absurd this (by simp)

/-- What the step makes of the state. -/
theorem JD.step {ms : List Nat} (ok : OkD ms ops) (hcl : ∀ i j, i < j → j < ops.size → clash (f i) (f j) = true → ordB ms j i = true) {L L' : Nat → Prop} {env : List V} {g g' : H} (j : JD ops s f L env g) {i : Nat} {o : Oper} (ho : ops[i]? = some o) (nx : Next' ms ops L i)
    (hL' : ∀ u, L' u ↔ (u = i ∨ L u)) {v : V} (hv : (s (i + 1)).env = putV (s i).env o.dst v) (hlen : env.length = (s i).env.length) (hg : g'.length = g.length) (hgs : ∀ id, id < g.length → g'[id]? = if id ∈ (f i).2 then some (((s (i + 1)).heap[id]?).getD .pad) else g[id]?) :
    JD ops s f L' (putV env o.dst v) g' := by
  have hlt := nx.lt
  refine ⟨hg.trans j.gl, fun t k hk hw => ?_, fun id k hid hk hw => ?_⟩
  · by_cases hd : o.dst = some t
    · -- i wrote it
      have hik : i < k := (hw i hlt ⟨o, ho, hd⟩).2 ((hL' i).2 (.inl rfl))
      have hcond := JD.dst ok ho nx hd
      have hc : (s k).env[t]? = (s (i + 1)).env[t]? := by
        have := env_const tr (t := t) (k - (i + 1)) (i + 1) (by omega) fun u h1 h2 hwu => by
          have h3 := (hw u (by omega) hwu).1 (by omega)
          rcases (hL' u).1 h3 with rfl | h4
          · omega
          · have := (hcond u (by omega) hwu).2 h4; omega
        rwa [show i + 1 + (k - (i + 1)) = k by omega] at this
      rw [hc, hv, hd]
      simp only [putV]
      by_cases hb : t < env.length
      · rw [List.getElem?_set_self hb, List.getElem?_set_self (hlen ▸ hb)]
      · rw [List.getElem?_eq_none (by simpa using hb), List.getElem?_eq_none (by rw [List.length_set, ← hlen]; simpa using hb)]
    · rw [putV_other hd]
      refine j.env t k hk fun u hu hwu => ?_
      rw [hw u hu hwu, hL' u]
      constructor
      · rintro (rfl | h)
        · obtain ⟨o', ho', hd'⟩ := hwu; rw [ho] at ho'; cases ho'; exact absurd hd' hd
        · exact h
      · exact .inr
  · rw [hg] at hid
    rw [hgs id hid]
    by_cases hW : id ∈ (f i).2
    · rw [if_pos hW]
      have hik : i < k := (hw i hlt hW).2 ((hL' i).2 (.inl rfl))
      have hcond := JD.touch hcl nx ((stepD_heap (tr i o ho)).2.2.1 id hW).1
      have := heap_const tr (id := id) (k - (i + 1)) (i + 1) (by omega) fun u h1 h2 hwu => by
        have h3 := (hw u (by omega) hwu).1 (by omega)
        rcases (hL' u).1 h3 with rfl | h4
        · omega
        · have := (hcond u (by omega) hwu).2 h4; omega
      rw [show i + 1 + (k - (i + 1)) = k by omega] at this
      rw [this]
    · rw [if_neg hW]
      refine j.heap id k hid hk fun u hu hwu => ?_
      rw [hw u hu hwu, hL' u]
      constructor
      · rintro (rfl | h)
        · exact absurd hwu hW
        · exact h
      · exact .inr
end trace
end

end Go.Pv
/-
  Regions that draw; all code; every member of the chain.
-/
set_option linter.unusedSimpArgs false
set_option linter.unusedVariables false
namespace Go.Pv
open Go

theorem count_set {p q : Nat → Bool} {i : Nat} (hp : p i = true) (hq : q i = false) (h : ∀ u, u ≠ i → q u = p u) : ∀ (l : List Nat), l.Nodup → i ∈ l → l.countP q + 1 = l.countP p
  | [], _, hm => by simp at hm
  | x :: l, nd, hm => by
    obtain ⟨n1, n2⟩ := List.nodup_cons.1 nd
    by_cases hx : x = i
    · subst hx
      have : l.countP q = l.countP p := List.countP_congr fun u hu => by rw [h u (by rintro rfl; exact n1 hu)]
      simp [List.countP_cons, hp, hq, this]
    · have hm' : i ∈ l := by simpa [Ne.symm hx] using hm
      have := count_set hp hq h l n2 hm'
      simp only [List.countP_cons, h x hx]
      omega

theorem putV_length (env : List V) (d : Option Tmp) (v : V) : (putV env d v).length = env.length := by cases d <;> simp [putV]

section
variable {C : Cx2} {G : FuncId → Code → Prop} {S : Sm} {fid : FuncId} {ops : Array Oper}

theorem down_all {ms : List Nat} (ok : OkD ms ops) {L : Nat → Prop} (hcl : ∀ (i : Nat) (o : Oper), ops[i]? = some o → L i → ∀ e ∈ o.after, Region.binds .any e = true → L e.on) : ∀ (k : Nat), k < ops.size → L k → ∀ j, ordB ms k j = true → L j := by
  intro k
  induction k using Nat.strongRecOn with
  | _ k ih =>
    intro hk hL j hj
    have hok : ops[k]? = some ops[k] := Array.getElem?_eq_getElem hk
    obtain ⟨e, he, hb, h⟩ := ok.mask k _ j hok hj
    have hlt := ok.edge k _ hok e he hb
    have hLe := hcl k _ hok hL e he hb
    rcases h with rfl | h
    · exact hLe
    · exact ih e.on hlt (by omega) hLe j h

theorem any_ok (hS : SmOk C G S) {ms : List Nat} (ok : OkD ms ops) {s : Nat → St} {f : Nat → List Nat × List Nat} (tr : ∀ (i : Nat) (o : Oper), ops[i]? = some o → StepD C S fid ops (s i) o (s (i + 1)) (f i))
    (hcl : ∀ i j, i < j → j < ops.size → clash (f i) (f j) = true → ordB ms j i = true) {n0 : Nat} {ρ : Option Nat} {Q : Exit → Act → World → Prop} :
    ∀ (fuel : Nat) (listed : Array Bool) (env : List V) (g : H) (a : Act) (w : World) (Δ : WT), listed.size = ops.size → (List.range ops.size).countP (fun i => !listed.getD i true) ≤ fuel →
      JD ops s f (fun u => listed.getD u false = true) env g → (∀ i, env.length = (s i).env.length ∨ ops.size < i) → (∀ (i : Nat) (o : Oper), ops[i]? = some o → listed.getD i false = true → ∀ e ∈ o.after, Region.binds .any e = true → listed.getD e.on false = true) →
      At C G n0 ρ ⟨env, g⟩ Δ a w → (∀ a' w' Δ', Inv Δ' (s ops.size).heap w' → RepL Δ' (s ops.size).env a'.tmps.toList → a'.defers = a.defers → Step Δ g w Δ' (s ops.size).heap w' → Q .normal a' w') →
      wpAnyIn (FW ρ) 0 C.P .any ops Q fuel listed a w := by
  intro fuel
  have getD_eq : ∀ (listed : Array Bool) (u : Nat), listed.size = ops.size → u < ops.size → listed.getD u true = listed.getD u false := by
    intro listed u h1 h2
    simp [Array.getD_eq_getD_getElem?, Array.getElem?_eq_getElem (h1 ▸ h2)]
  -- all done
  have done : ∀ (listed : Array Bool) (env : List V) (g : H) (a : Act) (w : World) (Δ : WT), JD ops s f (fun u => listed.getD u false = true) env g → At C G n0 ρ ⟨env, g⟩ Δ a w →
      (∀ a' w' Δ', Inv Δ' (s ops.size).heap w' → RepL Δ' (s ops.size).env a'.tmps.toList → a'.defers = a.defers → Step Δ g w Δ' (s ops.size).heap w' → Q .normal a' w') → (∀ u, u < ops.size → listed.getD u false = true) → Q .normal a w := by
    intro listed env g a w Δ j k hq hall
    obtain ⟨rfl, rfl⟩ := j.done hall
    exact hq a w Δ k.inv k.env rfl (.refl _ _ _)
  have none_ready : ∀ (listed : Array Bool), listed.size = ops.size → Region.ready .any ops listed = [] → ∀ u, u < ops.size → listed.getD u false = true := by
    intro listed hsz hr u
    induction u using Nat.strongRecOn with
    | _ u ih =>
      intro hu
      cases hl : listed.getD u false with
      | true => rfl
      | false =>
        have hou : ops[u]? = some ops[u] := Array.getElem?_eq_getElem hu
        have : u ∈ Region.ready .any ops listed := mem_ready.2 ⟨by rw [getD_eq listed u hsz hu]; exact hl, _, hou, fun e he hb => ih e.on (ok.edge u _ hou e he hb) (by have := ok.edge u _ hou e he hb; omega)⟩
        rw [hr] at this; simp at this
  induction fuel with
  | zero =>
    intro listed env g a w Δ hsz hcnt j hlen hdown k hq
    have hall : ∀ u, u < ops.size → listed.getD u false = true := by
      intro u hu
      have h0 : (List.range ops.size).countP (fun i => !listed.getD i true) = 0 := by omega
      have := List.countP_eq_zero.1 h0 u (List.mem_range.2 hu)
      rw [← getD_eq listed u hsz hu]; simpa using this
    refine ⟨?_, done listed env g a w Δ j k hq hall⟩
    apply List.eq_nil_iff_forall_not_mem.2
    intro u hu
    obtain ⟨h1, o, ho, _⟩ := mem_ready.1 hu
    have hlt := (Array.getElem?_eq_some_iff.1 ho).1
    rw [getD_eq listed u hsz hlt, hall u hlt] at h1
    exact absurd h1 (by simp)
  | succ fuel ih =>
    intro listed env g a w Δ hsz hcnt j hlen hdown k hq
    refine ⟨fun hr => done listed env g a w Δ j k hq (none_ready listed hsz hr), fun i hi => ?_⟩
    obtain ⟨h1, o, ho, hedge⟩ := mem_ready.1 hi
    have hlt := (Array.getElem?_eq_some_iff.1 ho).1
    have hlti : i < listed.size := by omega
    have hni : listed.getD i false = false := by rw [← getD_eq listed i hsz hlt]; exact h1
    have nx : Next' ms ops (fun u => listed.getD u false = true) i := by
      refine ⟨hlt, by simp [hni], fun u hu => ?_, fun u hL hu => ?_⟩
      · obtain ⟨e, he, hb, h⟩ := ok.mask i o u ho hu
        have hLe := hedge e he hb
        rcases h with rfl | h
        · exact hLe
        · exact down_all ok hdown e.on (by have := ok.edge i o ho e he hb; omega) hLe u h
      · cases hm : ordB ms u i with
        | false => rfl
        | true =>
          have := down_all ok hdown u hu hL i hm
          rw [hni] at this; exact absurd this (by simp)
    have hL' : ∀ u, (listed.setIfInBounds i true).getD u false = true ↔ (u = i ∨ listed.getD u false = true) := by
      intro u
      simp only [Array.getD_eq_getD_getElem?, Array.getElem?_setIfInBounds]
      by_cases hu : i = u
      · subst hu; simp [hlti]
      · simp [hu, Ne.symm hu]
    have hcnt' : (List.range ops.size).countP (fun u => !(listed.setIfInBounds i true).getD u true) ≤ fuel := by
      have := count_set (p := fun u => !listed.getD u true) (q := fun u => !(listed.setIfInBounds i true).getD u true) (i := i) (by simp [h1]) (by simp [Array.getD_eq_getD_getElem?, hlti])
        (fun u hu => by simp [Array.getD_eq_getD_getElem?, Array.getElem?_setIfInBounds, Ne.symm hu]) (List.range ops.size) List.nodup_range (List.mem_range.2 hlt)
      omega
    have hdown' : ∀ (i' : Nat) (o' : Oper), ops[i']? = some o' → (listed.setIfInBounds i true).getD i' false = true → ∀ e ∈ o'.after, Region.binds .any e = true → (listed.setIfInBounds i true).getD e.on false = true := by
      intro i' o' ho' hL e he hb
      rw [hL']
      rcases (hL' i').1 hL with rfl | h
      · rw [ho] at ho'; cases ho'; exact .inr (hedge e he hb)
      · exact .inr (hdown i' o' ho' h e he hb)
    have hlook := JD.look ok j ho nx
    have hgd : guardV ops env o = guardV ops (s i).env o := guardV_congr hlook
    have hlen_i : env.length = (s i).env.length := (hlen i).resolve_right (by omega)
    have hlen' : ∀ v i', (putV env o.dst v).length = (s i').env.length ∨ ops.size < i' := fun v i' => by rw [putV_length]; exact hlen i'
    have hsz' : (listed.setIfInBounds i true).size = ops.size := by simpa using hsz
    -- on with the rest
    have rest : ∀ (v : V) (g' : H), JD ops s f (fun u => (listed.setIfInBounds i true).getD u false = true) (putV env o.dst v) g' → ∀ a' w' Δ', Inv Δ' g' w' → RepL Δ' (putV env o.dst v) a'.tmps.toList → a'.defers = a.defers → Step Δ g w Δ' g' w' →
        wpAnyIn (FW ρ) 0 C.P .any ops Q fuel (listed.setIfInBounds i true) a' w' := by
      intro v g' j' a' w' Δ' q1 q2 q3 q4
      have k' : At C G n0 ρ ⟨putV env o.dst v, g'⟩ Δ' a' w' := k.step (st' := ⟨putV env o.dst v, g'⟩) q1 q2 q4 q3
      exact ih _ _ _ _ _ _ hsz' hcnt' j' (hlen' v) hdown' k' fun a'' w'' Δ'' p1 p2 p3 p4 => hq a'' w'' Δ'' p1 p2 (p3.trans q3) (q4.trans p4)
    unfold wpOpIn
    simp only [ho]
    rcases tr i o ho with ⟨hg, hst, hf⟩ | ⟨hg, v, hr, he⟩
    · rw [guard_ok (hgd.trans hg) k.env]
      simp only [Bool.false_eq_true, if_false]
      refine ⟨fun _ _ => trivial, ?_⟩
      refine rest (.tup []) g ?_ _ w Δ k.inv (put_rep k.env o.dst (undef_tup _)) (put_defers _ _ _) (.refl _ _ _)
      refine j.step tr ok hcl ho nx hL' (by rw [hst]) hlen_i rfl fun id _ => ?_
      rw [hf]; simp
    · rw [guard_ok (hgd.trans hg) k.env]
      simp only [if_true]
      obtain ⟨b1, b2, b3, b4, b5⟩ := runT_local _ hr
      have hle : (s (i + 1)).heap.length ≤ g.length := by rw [j.gl]; exact heap_le tr (by omega)
      obtain ⟨g', c1, c2, c3⟩ := b5 g hle (fun id hid hlt' => j.heap id i hlt' (by omega) (JD.touch hcl nx hid))
      have hcong : stepHP C S fid env o = stepHP C S fid (s i).env o := stepHP_congr fun x hx => ev_congr fun t ht => hlook t (by subst ht; exact mem_looksAt_op hx)
      rw [← hcong] at c1
      exact stepHP_ok hS c1 k.G k.inv k.gl k.env (rest v g' (j.step tr ok hcl ho nx hL' he hlen_i c2 c3))

theorem env_len {s : Nat → St} {f : Nat → List Nat × List Nat} (tr : ∀ (i : Nat) (o : Oper), ops[i]? = some o → StepD C S fid ops (s i) o (s (i + 1)) (f i)) : ∀ i, i ≤ ops.size → (s i).env.length = (s 0).env.length
  | 0, _ => rfl
  | i + 1, h => by
    obtain ⟨v, hv⟩ := stepD_env (tr i ops[i] (Array.getElem?_eq_getElem (by omega)))
    rw [hv, putV_length]; exact env_len tr i (by omega)

theorem At.drawn {n0 : Nat} {ρ : Option Nat} {st : St} {Δ : WT} {a : Act} {w : World} (k : At C G n0 ρ st Δ a w) (d : Nat) : At C G n0 ρ st Δ a { w with drawn := d } ∧ Step Δ st.heap w Δ st.heap { w with drawn := d } :=
  ⟨⟨k.G, ⟨k.inv.ι, k.inv.σ, k.inv.N, fun id o ho => (k.inv.ob id o ho).keep (.refl _) rfl rfl (fun _ _ _ _ => ⟨rfl, fun _ => rfl⟩), k.inv.dis⟩, k.gl, k.env, k.marks, k.n0, k.round⟩, ⟨.refl _, rfl, rfl, rfl, Nat.le_refl _, fun _ _ _ => rfl, fun _ _ h => h, fun _ _ _ _ => rfl, fun _ r h => ⟨r, h⟩⟩⟩

theorem draw_ok (hm : C.P.follows .mixedOrders = true) (hS : SmOk C G S) {id : Nat} (hok : okD (C.befo fid id) ops = true) {st st' : St} {fs : List (List Nat × List Nat)} (e : runD C S fid ops ops.toList st = some (st', fs))
    (hc : clashes (fun i j => ((C.befo fid id).getD j 0).testBit i) 0 fs = true) : CodeOk C G (.region id ops true) st .normal st' := by
  intro n0 ρ Δ a w k
  have ok := okD_spec hok
  obtain ⟨s, f, h0, hn, hfs, tr'⟩ := runD_trace _ e
  have hl : ops.toList.length = ops.size := by simp
  rw [hl] at hn hfs
  have tr : ∀ (i : Nat) (o : Oper), ops[i]? = some o → StepD C S fid ops (s i) o (s (i + 1)) (f i) := fun i o ho => tr' i o (by simpa using ho)
  have hcl : ∀ i j, i < j → j < ops.size → clash (f i) (f j) = true → ordB (C.befo fid id) j i = true := by
    intro i j hij hj hcij
    have := clashes_spec fs 0 hc i j (f i) (f j) hij (by rw [hfs]; simp [List.getElem?_range (show i < ops.size by omega)]) (by rw [hfs]; simp [List.getElem?_range hj]) hcij
    simpa [ordB] using this
  refine wpIn_region_any hm ?_
  obtain ⟨k1, s1⟩ := k.drawn (w.drawn + 1)
  obtain ⟨i2, s2⟩ := pad_ok k1.inv ((s ops.size).heap.length - (s 0).heap.length)
  have k2 : At C G n0 ρ ⟨st.env, st.heap ++ List.replicate ((s ops.size).heap.length - (s 0).heap.length) .pad⟩ (Δ.pad ((s ops.size).heap.length - (s 0).heap.length)) a { w with drawn := w.drawn + 1 } :=
    k1.step (st' := ⟨st.env, st.heap ++ List.replicate ((s ops.size).heap.length - (s 0).heap.length) .pad⟩) i2 (k1.env.ext s2.ext) s2 rfl
  have j0 := JD.start tr
  rw [h0] at j0
  have hemp : ∀ u, (Array.replicate ops.size false).getD u false = false := fun u => by simp [Array.getD_eq_getD_getElem?, Array.getElem?_replicate]; split <;> rfl
  refine any_ok hS ok tr hcl (n0 := n0) ops.size _ st.env _ a _ _ (by simp) ?_ ?_ (fun i => ?_) (fun i o _ hL => by rw [hemp] at hL; simp at hL) k2 ?_
  · exact Nat.le_trans List.countP_le_length (by simp)
  · rw [show (fun u => (Array.replicate ops.size false).getD u false = true) = fun _ => False from funext fun u => by simp [hemp u]]
    rw [h0]; exact j0
  · by_cases h : i ≤ ops.size
    · exact .inl (by rw [env_len tr i h, h0])
    · exact .inr (by omega)
  · intro a' w' Δ' q1 q2 q3 q4
    have s3 := (s1.trans s2).trans q4
    rw [hn] at q1 q2 s3
    exact ⟨rfl, Δ', q1, q2, q3 ▸ k.marks.step k.inv s3, s3⟩
end

end Go.Pv
/-
  Every member of the chain is sound.
-/
set_option linter.unusedSimpArgs false
set_option linter.unusedVariables false
namespace Go.Pv
open Go

/-- Code whose drawn regions are in order. -/
def gd (C : Cx2) (fid : FuncId) : Code → Bool
  | .region id ops d => !d || okD (C.befo fid id) ops
  | .seq a b => gd C fid a && gd C fid b
  | .cond _ a b => gd C fid a && gd C fid b
  | .block _ a => gd C fid a
  | .loop a => gd C fid a
  | .rangeFunc _ _ a b => gd C fid a && gd C fid b
  | .scope a => gd C fid a
  | _ => true
def GD (C : Cx2) (fid : FuncId) (c : Code) : Prop := gd C fid c = true

section
variable {C : Cx2}

theorem forget_rep {Δ : WT} : ∀ (l : List Nat) {env : List V} {vs : List Value}, RepL Δ env vs → RepL Δ (forget l env) vs
  | [], env, vs, h => h
  | t :: ts, env, vs, h => by
    refine forget_rep ts ⟨by simpa using h.1, fun i x v hx hv => ?_⟩
    rw [List.getElem?_set] at hx
    split at hx
    · split at hx
      · simp at hx; subst hx; exact .unk _
      · simp at hx
    · exact h.2 i x v hx hv
theorem forget_ok {G : FuncId → Code → Prop} {c : Code} {st st' : St} {e : Ex} (l : List Nat) (h : CodeOk C G c st e st') : CodeOk C G c st e (forgetS l st') := by
  intro n0 ρ Δ a w k
  refine wpIn_mono (h n0 ρ Δ a w k) ?_
  rintro x a' w' ⟨rfl, Δ', k1, k2, k3, k4⟩
  exact ⟨rfl, Δ', k1, forget_rep l k2, k3, k4⟩
theorem forget_at {G : FuncId → Code → Prop} {c : Code} {st st' : St} {e : Ex} (l : List Nat) (h : CodeOk C G c (forgetS l st) e st') : CodeOk C G c st e st' :=
  fun n0 ρ Δ a w k => h n0 ρ Δ a w ⟨k.G, k.inv, k.gl, forget_rep l k.env, k.marks, k.n0, k.round⟩

theorem gd_jump : ∀ f e c, jumpOf e = some c → GD C f c := by
  intro f e c h
  cases e <;> simp [jumpOf] at h <;> subst h <;> rfl

theorem codeF_ok (hm : C.P.follows .mixedOrders = true) {n : Nat} (hall : ∀ m, m ≤ n → SmOk C (GD C) (iter C m)) {fid : FuncId} {c : Code} {st st' : St} {e : Ex} (h : codeF C (iter C n) fid c st = some (e, st')) (hg : GD C fid c) : CodeOk C (GD C) c st e st' := by
  have hS := hall n (Nat.le_refl _)
  cases c with
  | skip =>
    simp only [codeF, Option.some.injEq, Prod.mk.injEq] at h
    obtain ⟨rfl, rfl⟩ := h
    exact fun n0 ρ Δ a w k => wpIn_skip ⟨rfl, Δ, k.inv, k.env, k.marks, .refl _ _ _⟩
  | label l =>
    simp only [codeF, Option.some.injEq, Prod.mk.injEq] at h
    obtain ⟨rfl, rfl⟩ := h
    exact fun n0 ρ Δ a w k => wpIn_label ⟨rfl, Δ, k.inv, k.env, k.marks, .refl _ _ _⟩
  | exit id =>
    simp only [codeF, Option.some.injEq, Prod.mk.injEq] at h
    obtain ⟨rfl, rfl⟩ := h
    exact fun n0 ρ Δ a w k => wpIn_exit ⟨rfl, Δ, k.inv, k.env, k.marks, .refl _ _ _⟩
  | ret =>
    simp only [codeF, Option.some.injEq, Prod.mk.injEq] at h
    obtain ⟨rfl, rfl⟩ := h
    exact fun n0 ρ Δ a w k => wpIn_ret ⟨rfl, Δ, k.inv, k.env, k.marks, .refl _ _ _⟩
  | region id ops d =>
    simp only [codeF] at h
    cases d with
    | false =>
      simp only [Bool.false_eq_true, if_false] at h
      cases er : runL C (iter C n) fid ops ops.toList st with
      | none => rw [er] at h; simp at h
      | some st1 =>
        rw [er] at h
        simp only [Option.map_some, Option.some.injEq, Prod.mk.injEq] at h
        obtain ⟨rfl, rfl⟩ := h
        exact forget_ok _ (region_ok hS gd_jump er)
    | true =>
      simp only [if_true] at h
      cases er : runD C (iter C n) fid ops ops.toList st with
      | none => rw [er] at h; simp at h
      | some r =>
        obtain ⟨st1, fs⟩ := r
        rw [er] at h
        simp only [Option.bind_some] at h
        split at h
        · rename_i hc
          simp only [Option.some.injEq, Prod.mk.injEq] at h
          obtain ⟨rfl, rfl⟩ := h
          exact forget_ok _ (draw_ok hm hS (by simpa [GD, gd] using hg) er hc)
        · simp at h
  | seq a b =>
    simp only [GD, gd, Bool.and_eq_true] at hg
    simp only [codeF] at h
    cases er : (iter C n).code fid a st with
    | none => rw [er] at h; simp at h
    | some r =>
      obtain ⟨x, st1⟩ := r
      rw [er] at h
      simp only [Option.bind_some] at h
      have h1 := hS.code fid a st x st1 er hg.1
      cases x with
      | normal => exact seq_ok h1 (hS.code fid b st1 e st' h hg.2)
      | exit id => simp only [Option.some.injEq, Prod.mk.injEq] at h; obtain ⟨rfl, rfl⟩ := h; exact seq_out h1 (by simp)
      | ret => simp only [Option.some.injEq, Prod.mk.injEq] at h; obtain ⟨rfl, rfl⟩ := h; exact seq_out h1 (by simp)
  | cond x a b =>
    simp only [GD, gd, Bool.and_eq_true] at hg
    simp only [codeF] at h
    split at h
    · rename_i t ht
      intro n0 ρ Δ ac w k
      have hv : ac.eval x = .bool t := by
        have := ev_rep k.gl k.env x
        rw [ht] at this
        generalize ac.eval x = u at this
        cases this; rfl
      refine wpIn_cond hv ?_
      cases t with
      | true => exact hS.code fid a st e st' h hg.1 n0 ρ Δ ac w k
      | false => exact hS.code fid b st e st' h hg.2 n0 ρ Δ ac w k
    · simp at h
  | block id a =>
    simp only [GD, gd] at hg
    simp only [codeF] at h
    cases er : (iter C n).code fid a st with
    | none => rw [er] at h; simp at h
    | some r =>
      obtain ⟨x, st1⟩ := r
      rw [er] at h
      simp only [Option.map_some, Option.some.injEq] at h
      have h1 := block_ok (id := id) (hS.code fid a st x st1 er hg)
      cases x with
      | normal => simp only [Prod.mk.injEq] at h; obtain ⟨rfl, rfl⟩ := h; exact h1
      | ret => simp only [Prod.mk.injEq] at h; obtain ⟨rfl, rfl⟩ := h; exact h1
      | exit id' =>
        simp only at h h1
        split at h
        · rename_i hid; simp only [Prod.mk.injEq] at h; obtain ⟨rfl, rfl⟩ := h; rw [if_pos hid] at h1; exact h1
        · rename_i hid; simp only [Prod.mk.injEq] at h; obtain ⟨rfl, rfl⟩ := h; rw [if_neg hid] at h1; exact h1
  | loop a =>
    have hga : GD C fid a := hg
    refine loop_ok (fun m st => m ≤ n ∧ codeF C (iter C m) fid (.loop a) st = some (e, st')) ?_ (m := n) ⟨Nat.le_refl _, h⟩
    rintro m st ⟨hmn, h⟩
    simp only [codeF] at h
    cases er : (iter C m).code fid a (forgetS (C.deadL fid ((keyOf a).getD 0)) st) with
    | none => rw [er] at h; simp at h
    | some r =>
      obtain ⟨x, st1⟩ := r
      rw [er] at h
      simp only [Option.bind_some] at h
      have h1 := forget_at _ ((hall m hmn).code fid a _ x st1 er hga)
      cases x with
      | normal =>
        cases m with
        | zero => simp [iter] at h
        | succ m => exact .inl ⟨st1, m, h1, Nat.lt_succ_self _, by omega, h⟩
      | exit id => simp only [Option.some.injEq, Prod.mk.injEq] at h; obtain ⟨rfl, rfl⟩ := h; exact .inr ⟨by simp, h1⟩
      | ret => simp only [Option.some.injEq, Prod.mk.injEq] at h; obtain ⟨rfl, rfl⟩ := h; exact .inr ⟨by simp, h1⟩
  | rangeFunc g ps as bo =>
    simp only [GD, gd, Bool.and_eq_true] at hg
    simp only [codeF] at h
    exact range_ok hS gd_jump hg.1 hg.2 h
  | scope a =>
    simp only [codeF] at h
    exact scope_ok (hS.code fid a st e st' h hg)
  | _ => simp [codeF] at h

theorem iter_ok (hm : C.P.follows .mixedOrders = true) (hp : PrimsOk C (GD C)) (hb : BodiesOk C (GD C)) : ∀ n, SmOk C (GD C) (iter C n) := by
  intro n
  induction n using Nat.strongRecOn with
  | _ n ih =>
    cases n with
    | zero => exact ⟨fun g args h v h' e => by simp [iter] at e, fun fid c st e st' h => by simp [iter] at h⟩
    | succ n =>
      have hall : ∀ m, m ≤ n → SmOk C (GD C) (iter C m) := fun m hm => ih m (by omega)
      exact ⟨fun g args h v h' e => callF_ok (hall n (Nat.le_refl _)) hp hb e, fun fid c st e st' h hg => codeF_ok hm hall h hg⟩
end

end Go.Pv
/-
  What the evaluator answers, the program's function returns.
-/
set_option linter.unusedSimpArgs false
set_option linter.unusedVariables false
namespace Go.Pv
open Go

/-- A world, none of it ours. -/
def WT.of (C : Cx2) (w : World) : WT :=
  { ι := fun b o => w.cell? (at_ b o), σ := fun b => match w.heap[b]? with | some (.cells arr _ _) => some arr.size | _ => none, μ := fun _ => none, ν := fun _ => 0, N := 0, G := GD C }
theorem of_inv (C : Cx2) (w : World) : Inv (WT.of C w) [] w := by
  refine ⟨fun b o v h => h, fun b S h => ?_, rfl, fun id o ho => by simp at ho, fun id _ o _ _ _ _ ho => by simp at ho⟩
  simp only [WT.of] at h
  split at h
  · rename_i arr e fr hh; simp at h; exact ⟨arr, e, fr, hh, h⟩
  · simp at h

/-- What a run leaves of the world. -/
structure Left' (w w' : World) : Prop where
  os : w'.os = w.os
  tape : w'.tape = w.tape
  output : w'.output = w.output
  size : w.heap.size ≤ w'.heap.size
  block : ∀ b, b < w.heap.size → w'.heap[b]? = w.heap[b]?

theorem top_call {C : Cx2} (hm : C.P.follows .mixedOrders = true) (hp : PrimsOk C (GD C)) (hb : BodiesOk C (GD C)) {g : FuncId} {args : List V} {h h' : H} {v : V} (e : (top C).call g args h = some (v, h')) : CallOk C (GD C) g args h v h' := by
  obtain ⟨n, hn⟩ := ((top_good C).call g args h (v, h')).1 e
  exact (iter_ok hm hp hb n).call g args h v h' hn

theorem top_calls {C : Cx2} (hm : C.P.follows .mixedOrders = true) (hp : PrimsOk C (GD C)) (hb : BodiesOk C (GD C)) {g : FuncId} {args : List V} {h' : H} {v : V} (e : (top C).call g args [] = some (v, h')) {w : World} {vs : Array Value}
    (hg : GOk C.toCx (WT.of C w)) (hr : RepL (WT.of C w) args vs.toList) : Calls C.P g vs w fun e w' => ∃ val Δ', e = .returned val ∧ Rep Δ' v val ∧ Left' w w' := by
  have k := (top_call hm hp hb e).2 (WT.of C w) w vs rfl (of_inv C w) hg hr
  have k2 : CallsIn Fence.wide 0 C.P g vs w (CallEnd v h' (WT.of C w) [] w) := k
  refine (callsIn_wide.1 k2).mono ?_
  rintro e w' ⟨val, Δ', rfl, inv, hv, s⟩
  exact ⟨val, Δ', rfl, hv, ⟨s.os, s.tape, s.output, s.size, fun b hb => s.block b hb not_ob_nil⟩⟩

/-- A function of plain data that answers one bool. -/
theorem top_bool {C : Cx2} (hm : C.P.follows .mixedOrders = true) (hp : PrimsOk C (GD C)) (hb : BodiesOk C (GD C)) {g : FuncId} {args : List V} {h' : H} {b : Bool} (e : (top C).call g args [] = some (.sc (.bool b), h')) {w : World} {vs : Array Value}
    (hg : GOk C.toCx (WT.of C w)) (hr : RepL (WT.of C w) args vs.toList) : Calls C.P g vs w fun e w' => e = .returned (.bool b) ∧ Left' w w' := by
  refine (top_calls hm hp hb e hg hr).mono ?_
  rintro e w' ⟨val, Δ', rfl, hv, hl⟩
  cases hv
  exact ⟨rfl, hl⟩

end Go.Pv
/-
  The evaluator's equations, for use.
-/
set_option linter.unusedSimpArgs false
set_option linter.unusedVariables false
namespace Go.Pv
open Go
section
variable (C : Cx2)
theorem code_skip (f : FuncId) (st : St) : (top C).code f .skip st = some (.normal, st) := (top_sol C).code ..
theorem code_label (f : FuncId) (l : Nat) (st : St) : (top C).code f (.label l) st = some (.normal, st) := (top_sol C).code ..
theorem code_exit (f : FuncId) (l : Nat) (st : St) : (top C).code f (.exit l) st = some (.exit l, st) := (top_sol C).code ..
theorem code_ret (f : FuncId) (st : St) : (top C).code f .ret st = some (.ret, st) := (top_sol C).code ..
theorem code_region (f : FuncId) (i : Nat) (ops : Array Oper) (st : St) : (top C).code f (.region i ops false) st = (runL C (top C) f ops ops.toList st).map fun st => (.normal, forgetS (C.dead f i) st) := (top_sol C).code ..
theorem code_draw (f : FuncId) (i : Nat) (ops : Array Oper) (st : St) : (top C).code f (.region i ops true) st = (runD C (top C) f ops ops.toList st).bind fun r => if clashes (fun k j => ((C.befo f i).getD j 0).testBit k) 0 r.2 then some (.normal, forgetS (C.dead f i) r.1) else none := (top_sol C).code ..
theorem code_seq (f : FuncId) (a b : Code) (st : St) : (top C).code f (.seq a b) st = ((top C).code f a st).bind fun r => match r.1 with | .normal => (top C).code f b r.2 | e => some (e, r.2) := (top_sol C).code ..
theorem code_cond (f : FuncId) (x : Operand) (a b : Code) (st : St) : (top C).code f (.cond x a b) st = match ev C.toCx st.env x with | .sc (.bool t) => if t then (top C).code f a st else (top C).code f b st | _ => none := (top_sol C).code ..
theorem code_block (f : FuncId) (i : Nat) (a : Code) (st : St) : (top C).code f (.block i a) st = ((top C).code f a st).map fun r => match r.1 with | .exit id' => if id' = i then (.normal, r.2) else r | _ => r := (top_sol C).code ..
theorem code_loop (f : FuncId) (a : Code) (st : St) : (top C).code f (.loop a) st = ((top C).code f a (forgetS (C.deadL f ((keyOf a).getD 0)) st)).bind fun r => match r.1 with | .normal => (top C).code f (.loop a) r.2 | e => some (e, r.2) := (top_sol C).code ..
theorem code_range (f : FuncId) (g : Operand) (ps : Array Tmp) (a b : Code) (st : St) : (top C).code f (.rangeFunc g ps a b) st = rangeV C (top C) f g ps a b st := (top_sol C).code ..
/-- A call of a function, its arguments plain data. -/
theorem call_D {g : FuncId} {fn : Func} {body : Code} {args args' : List V} {h h1 : H} (hp : C.prim g = none) (hf : C.P.funcs[g]? = some fn) (hb : fn.body = some body) (hn : (fn.name == "runtime.NumGoroutine") = false)
    (ha : (argsHP C g fn.params.toList args).run h = some (args', h1)) (hd : args'.all isArg = true) :
    (top C).call g args h = (bodyV C (top C) g fn body args' []).map fun r => retD h1 (selR (C.keep g) r) := by
  rw [(top_sol C).call, callF, hp]; simp only [hf, hb, hn, ha, Option.bind_some, hd, if_true, Bool.false_eq_true, if_false]
/-- A call of a function, some argument leading to an object. -/
theorem call_R {g : FuncId} {fn : Func} {body : Code} {args args' : List V} {h h1 : H} (hp : C.prim g = none) (hf : C.P.funcs[g]? = some fn) (hb : fn.body = some body) (hn : (fn.name == "runtime.NumGoroutine") = false)
    (ha : (argsHP C g fn.params.toList args).run h = some (args', h1)) (hd : args'.all isArg = false) :
    (top C).call g args h = (bodyV C (top C) g fn body args' h1).map fun r =>
              if r.1.all (V.ltN h1.length) then (tupOf r.1, gc h1.length r.2) else (tupOf r.1, r.2) := by
  rw [(top_sol C).call, callF, hp]; simp only [hf, hb, hn, ha, Option.bind_some, hd, if_true, Bool.false_eq_true, if_false]
theorem call_prim {g : FuncId} {p : List V → H → Option (V × H)} (hp : C.prim g = some p) (args : List V) (h : H) : (top C).call g args h = p args h := by
  rw [(top_sol C).call, callF, hp]
end

/-! ### The plain operations, at scalars -/
section
variable (P : Program) (t : TypeId) (x y : Operand) (k : IntKind) (a b : Int)
theorem binOpV_add : binOpV P .add t x y (.sc (.int k a)) (.sc (.int k b)) = .ret (.sc (.int k (k.wrap (a + b)))) := by simp [binOpV, pureV, V.toVal, eqGuard, binOp, pureRun_bind, pureRun_pure, Op.intArith, ofVal]
theorem binOpV_sub : binOpV P .sub t x y (.sc (.int k a)) (.sc (.int k b)) = .ret (.sc (.int k (k.wrap (a - b)))) := by simp [binOpV, pureV, V.toVal, eqGuard, binOp, pureRun_bind, pureRun_pure, Op.intArith, ofVal]
theorem binOpV_mul : binOpV P .mul t x y (.sc (.int k a)) (.sc (.int k b)) = .ret (.sc (.int k (k.wrap (a * b)))) := by simp [binOpV, pureV, V.toVal, eqGuard, binOp, pureRun_bind, pureRun_pure, Op.intArith, ofVal]
theorem binOpV_quo (h : ¬ b = 0) : binOpV P .quo t x y (.sc (.int k a)) (.sc (.int k b)) = .ret (.sc (.int k (k.wrap (a.tdiv b)))) := by simp [binOpV, pureV, V.toVal, eqGuard, binOp, pureRun_bind, pureRun_pure, Op.intDiv, ofVal, h]
theorem binOpV_rem (h : ¬ b = 0) : binOpV P .rem t x y (.sc (.int k a)) (.sc (.int k b)) = .ret (.sc (.int k (a.tmod b))) := by simp [binOpV, pureV, V.toVal, eqGuard, binOp, pureRun_bind, pureRun_pure, Op.intDiv, ofVal, h]
theorem binOpV_lss : binOpV P .lss t x y (.sc (.int k a)) (.sc (.int k b)) = .ret (.sc (.bool (decide (a < b)))) := by simp [binOpV, pureV, V.toVal, eqGuard, binOp, pureRun_bind, pureRun_pure, Op.intCmp, ofVal]
theorem binOpV_leq : binOpV P .leq t x y (.sc (.int k a)) (.sc (.int k b)) = .ret (.sc (.bool (decide (a ≤ b)))) := by simp [binOpV, pureV, V.toVal, eqGuard, binOp, pureRun_bind, pureRun_pure, Op.intCmp, ofVal]
theorem binOpV_gtr : binOpV P .gtr t x y (.sc (.int k a)) (.sc (.int k b)) = .ret (.sc (.bool (decide (b < a)))) := by simp [binOpV, pureV, V.toVal, eqGuard, binOp, pureRun_bind, pureRun_pure, Op.intCmp, ofVal]
theorem binOpV_geq : binOpV P .geq t x y (.sc (.int k a)) (.sc (.int k b)) = .ret (.sc (.bool (decide (b ≤ a)))) := by simp [binOpV, pureV, V.toVal, eqGuard, binOp, pureRun_bind, pureRun_pure, Op.intCmp, ofVal]
theorem beq_dec (a b : Int) : (a == b) = decide (a = b) := by rw [Bool.eq_iff_iff]; simp
theorem binOpV_eql : binOpV P .eql t x y (.sc (.int k a)) (.sc (.int k b)) = .ret (.sc (.bool (decide (a = b)))) := by simp [binOpV, pureV, V.toVal, eqGuard, binOp, pureRun_bind, pureRun_pure, Op.intCmp, ofVal, beq_dec]
theorem binOpV_neq : binOpV P .neq t x y (.sc (.int k a)) (.sc (.int k b)) = .ret (.sc (.bool (!decide (a = b)))) := by simp [binOpV, pureV, V.toVal, eqGuard, binOp, pureRun_bind, pureRun_pure, Op.intCmp, ofVal, bne, beq_dec]
theorem unOpV_neg : unOpV P .neg (.sc (.int k a)) = .ret (.sc (.int k (k.wrap (-a)))) := by simp [unOpV, pureV, V.toVal, Op.unary, Op.intArith, pureRun_pure, ofVal]
theorem unOpV_not (c : Bool) : unOpV P .not (.sc (.bool c)) = .ret (.sc (.bool (!c))) := by simp [unOpV, pureV, V.toVal, Op.unary, pureRun_pure, ofVal]
end
theorem wrap64_of {x : Int} (h : -9223372036854775808 ≤ x) (k : x ≤ 9223372036854775807) : IntKind.i64.wrap x = x := by
  have e1 : ((2 : Int) ^ IntKind.i64.bits) = 18446744073709551616 := by decide
  have e2 : ((2 : Int) ^ (IntKind.i64.bits - 1)) = 9223372036854775808 := by decide
  simp only [IntKind.wrap, e1, e2, IntKind.signed, Bool.true_and, decide_eq_true_eq]
  split <;> omega
end Go.Pv
/-
  Long environments, sixteen by sixteen.
-/
set_option linter.unusedVariables false
namespace Go.Pv
open Go
section
variable (C : Cx) (a0 a1 a2 a3 a4 a5 a6 a7 a8 a9 a10 a11 a12 a13 a14 a15 v : V) (r : List V) (n : Nat)
@[simp] theorem unks_16 : unks (n + 16) = c16 .unk .unk .unk .unk .unk .unk .unk .unk .unk .unk .unk .unk .unk .unk .unk .unk (unks n) := rfl
@[simp] theorem unks_0l : unks 0 = [] := rfl
@[simp] theorem unks_1l : unks 1 = [.unk] := rfl
@[simp] theorem unks_2l : unks 2 = [.unk, .unk] := rfl
@[simp] theorem unks_3l : unks 3 = [.unk, .unk, .unk] := rfl
@[simp] theorem unks_4l : unks 4 = [.unk, .unk, .unk, .unk] := rfl
@[simp] theorem unks_5l : unks 5 = [.unk, .unk, .unk, .unk, .unk] := rfl
@[simp] theorem unks_6l : unks 6 = [.unk, .unk, .unk, .unk, .unk, .unk] := rfl
@[simp] theorem unks_7l : unks 7 = [.unk, .unk, .unk, .unk, .unk, .unk, .unk] := rfl
@[simp] theorem unks_8l : unks 8 = [.unk, .unk, .unk, .unk, .unk, .unk, .unk, .unk] := rfl
@[simp] theorem unks_9l : unks 9 = [.unk, .unk, .unk, .unk, .unk, .unk, .unk, .unk, .unk] := rfl
@[simp] theorem unks_10l : unks 10 = [.unk, .unk, .unk, .unk, .unk, .unk, .unk, .unk, .unk, .unk] := rfl
@[simp] theorem unks_11l : unks 11 = [.unk, .unk, .unk, .unk, .unk, .unk, .unk, .unk, .unk, .unk, .unk] := rfl
@[simp] theorem unks_12l : unks 12 = [.unk, .unk, .unk, .unk, .unk, .unk, .unk, .unk, .unk, .unk, .unk, .unk] := rfl
@[simp] theorem unks_13l : unks 13 = [.unk, .unk, .unk, .unk, .unk, .unk, .unk, .unk, .unk, .unk, .unk, .unk, .unk] := rfl
@[simp] theorem unks_14l : unks 14 = [.unk, .unk, .unk, .unk, .unk, .unk, .unk, .unk, .unk, .unk, .unk, .unk, .unk, .unk] := rfl
@[simp] theorem unks_15l : unks 15 = [.unk, .unk, .unk, .unk, .unk, .unk, .unk, .unk, .unk, .unk, .unk, .unk, .unk, .unk, .unk] := rfl
@[simp high] theorem envOf_0 : envOf (n + 16) [] = c16 .unk .unk .unk .unk .unk .unk .unk .unk .unk .unk .unk .unk .unk .unk .unk .unk (unks n) := rfl
@[simp high] theorem envOf_1 : envOf (n + 16) [a0] = c16 a0 .unk .unk .unk .unk .unk .unk .unk .unk .unk .unk .unk .unk .unk .unk .unk (unks n) := rfl
@[simp high] theorem envOf_2 : envOf (n + 16) [a0, a1] = c16 a0 a1 .unk .unk .unk .unk .unk .unk .unk .unk .unk .unk .unk .unk .unk .unk (unks n) := rfl
@[simp high] theorem envOf_3 : envOf (n + 16) [a0, a1, a2] = c16 a0 a1 a2 .unk .unk .unk .unk .unk .unk .unk .unk .unk .unk .unk .unk .unk (unks n) := rfl
@[simp high] theorem envOf_4 : envOf (n + 16) [a0, a1, a2, a3] = c16 a0 a1 a2 a3 .unk .unk .unk .unk .unk .unk .unk .unk .unk .unk .unk .unk (unks n) := rfl
@[simp high] theorem envOf_5 : envOf (n + 16) [a0, a1, a2, a3, a4] = c16 a0 a1 a2 a3 a4 .unk .unk .unk .unk .unk .unk .unk .unk .unk .unk .unk (unks n) := rfl
@[simp high] theorem envOf_6 : envOf (n + 16) [a0, a1, a2, a3, a4, a5] = c16 a0 a1 a2 a3 a4 a5 .unk .unk .unk .unk .unk .unk .unk .unk .unk .unk (unks n) := rfl
@[simp high] theorem envOf_7 : envOf (n + 16) [a0, a1, a2, a3, a4, a5, a6] = c16 a0 a1 a2 a3 a4 a5 a6 .unk .unk .unk .unk .unk .unk .unk .unk .unk (unks n) := rfl
@[simp high] theorem envOf_8 : envOf (n + 16) [a0, a1, a2, a3, a4, a5, a6, a7] = c16 a0 a1 a2 a3 a4 a5 a6 a7 .unk .unk .unk .unk .unk .unk .unk .unk (unks n) := rfl
@[simp high] theorem envOf_9 : envOf (n + 16) [a0, a1, a2, a3, a4, a5, a6, a7, a8] = c16 a0 a1 a2 a3 a4 a5 a6 a7 a8 .unk .unk .unk .unk .unk .unk .unk (unks n) := rfl
@[simp high] theorem envOf_10 : envOf (n + 16) [a0, a1, a2, a3, a4, a5, a6, a7, a8, a9] = c16 a0 a1 a2 a3 a4 a5 a6 a7 a8 a9 .unk .unk .unk .unk .unk .unk (unks n) := rfl
@[simp high] theorem envOf_11 : envOf (n + 16) [a0, a1, a2, a3, a4, a5, a6, a7, a8, a9, a10] = c16 a0 a1 a2 a3 a4 a5 a6 a7 a8 a9 a10 .unk .unk .unk .unk .unk (unks n) := rfl
@[simp high] theorem envOf_12 : envOf (n + 16) [a0, a1, a2, a3, a4, a5, a6, a7, a8, a9, a10, a11] = c16 a0 a1 a2 a3 a4 a5 a6 a7 a8 a9 a10 a11 .unk .unk .unk .unk (unks n) := rfl
theorem envOf_small (args : List V) : envOf n args = args ++ unks (n - args.length) := rfl
@[simp] theorem c16_get_0 : (c16 a0 a1 a2 a3 a4 a5 a6 a7 a8 a9 a10 a11 a12 a13 a14 a15 r)[0]? = some a0 := rfl
@[simp high] theorem c16_ev_0 : ev C (c16 a0 a1 a2 a3 a4 a5 a6 a7 a8 a9 a10 a11 a12 a13 a14 a15 r) (.tmp 0) = a0 := rfl
@[simp] theorem c16_set_0 : (c16 a0 a1 a2 a3 a4 a5 a6 a7 a8 a9 a10 a11 a12 a13 a14 a15 r).set 0 v = c16 v a1 a2 a3 a4 a5 a6 a7 a8 a9 a10 a11 a12 a13 a14 a15 r := rfl
@[simp] theorem c16_get_1 : (c16 a0 a1 a2 a3 a4 a5 a6 a7 a8 a9 a10 a11 a12 a13 a14 a15 r)[1]? = some a1 := rfl
@[simp high] theorem c16_ev_1 : ev C (c16 a0 a1 a2 a3 a4 a5 a6 a7 a8 a9 a10 a11 a12 a13 a14 a15 r) (.tmp 1) = a1 := rfl
@[simp] theorem c16_set_1 : (c16 a0 a1 a2 a3 a4 a5 a6 a7 a8 a9 a10 a11 a12 a13 a14 a15 r).set 1 v = c16 a0 v a2 a3 a4 a5 a6 a7 a8 a9 a10 a11 a12 a13 a14 a15 r := rfl
@[simp] theorem c16_get_2 : (c16 a0 a1 a2 a3 a4 a5 a6 a7 a8 a9 a10 a11 a12 a13 a14 a15 r)[2]? = some a2 := rfl
@[simp high] theorem c16_ev_2 : ev C (c16 a0 a1 a2 a3 a4 a5 a6 a7 a8 a9 a10 a11 a12 a13 a14 a15 r) (.tmp 2) = a2 := rfl
@[simp] theorem c16_set_2 : (c16 a0 a1 a2 a3 a4 a5 a6 a7 a8 a9 a10 a11 a12 a13 a14 a15 r).set 2 v = c16 a0 a1 v a3 a4 a5 a6 a7 a8 a9 a10 a11 a12 a13 a14 a15 r := rfl
@[simp] theorem c16_get_3 : (c16 a0 a1 a2 a3 a4 a5 a6 a7 a8 a9 a10 a11 a12 a13 a14 a15 r)[3]? = some a3 := rfl
@[simp high] theorem c16_ev_3 : ev C (c16 a0 a1 a2 a3 a4 a5 a6 a7 a8 a9 a10 a11 a12 a13 a14 a15 r) (.tmp 3) = a3 := rfl
@[simp] theorem c16_set_3 : (c16 a0 a1 a2 a3 a4 a5 a6 a7 a8 a9 a10 a11 a12 a13 a14 a15 r).set 3 v = c16 a0 a1 a2 v a4 a5 a6 a7 a8 a9 a10 a11 a12 a13 a14 a15 r := rfl
@[simp] theorem c16_get_4 : (c16 a0 a1 a2 a3 a4 a5 a6 a7 a8 a9 a10 a11 a12 a13 a14 a15 r)[4]? = some a4 := rfl
@[simp high] theorem c16_ev_4 : ev C (c16 a0 a1 a2 a3 a4 a5 a6 a7 a8 a9 a10 a11 a12 a13 a14 a15 r) (.tmp 4) = a4 := rfl
@[simp] theorem c16_set_4 : (c16 a0 a1 a2 a3 a4 a5 a6 a7 a8 a9 a10 a11 a12 a13 a14 a15 r).set 4 v = c16 a0 a1 a2 a3 v a5 a6 a7 a8 a9 a10 a11 a12 a13 a14 a15 r := rfl
@[simp] theorem c16_get_5 : (c16 a0 a1 a2 a3 a4 a5 a6 a7 a8 a9 a10 a11 a12 a13 a14 a15 r)[5]? = some a5 := rfl
@[simp high] theorem c16_ev_5 : ev C (c16 a0 a1 a2 a3 a4 a5 a6 a7 a8 a9 a10 a11 a12 a13 a14 a15 r) (.tmp 5) = a5 := rfl
@[simp] theorem c16_set_5 : (c16 a0 a1 a2 a3 a4 a5 a6 a7 a8 a9 a10 a11 a12 a13 a14 a15 r).set 5 v = c16 a0 a1 a2 a3 a4 v a6 a7 a8 a9 a10 a11 a12 a13 a14 a15 r := rfl
@[simp] theorem c16_get_6 : (c16 a0 a1 a2 a3 a4 a5 a6 a7 a8 a9 a10 a11 a12 a13 a14 a15 r)[6]? = some a6 := rfl
@[simp high] theorem c16_ev_6 : ev C (c16 a0 a1 a2 a3 a4 a5 a6 a7 a8 a9 a10 a11 a12 a13 a14 a15 r) (.tmp 6) = a6 := rfl
@[simp] theorem c16_set_6 : (c16 a0 a1 a2 a3 a4 a5 a6 a7 a8 a9 a10 a11 a12 a13 a14 a15 r).set 6 v = c16 a0 a1 a2 a3 a4 a5 v a7 a8 a9 a10 a11 a12 a13 a14 a15 r := rfl
@[simp] theorem c16_get_7 : (c16 a0 a1 a2 a3 a4 a5 a6 a7 a8 a9 a10 a11 a12 a13 a14 a15 r)[7]? = some a7 := rfl
@[simp high] theorem c16_ev_7 : ev C (c16 a0 a1 a2 a3 a4 a5 a6 a7 a8 a9 a10 a11 a12 a13 a14 a15 r) (.tmp 7) = a7 := rfl
@[simp] theorem c16_set_7 : (c16 a0 a1 a2 a3 a4 a5 a6 a7 a8 a9 a10 a11 a12 a13 a14 a15 r).set 7 v = c16 a0 a1 a2 a3 a4 a5 a6 v a8 a9 a10 a11 a12 a13 a14 a15 r := rfl
@[simp] theorem c16_get_8 : (c16 a0 a1 a2 a3 a4 a5 a6 a7 a8 a9 a10 a11 a12 a13 a14 a15 r)[8]? = some a8 := rfl
@[simp high] theorem c16_ev_8 : ev C (c16 a0 a1 a2 a3 a4 a5 a6 a7 a8 a9 a10 a11 a12 a13 a14 a15 r) (.tmp 8) = a8 := rfl
@[simp] theorem c16_set_8 : (c16 a0 a1 a2 a3 a4 a5 a6 a7 a8 a9 a10 a11 a12 a13 a14 a15 r).set 8 v = c16 a0 a1 a2 a3 a4 a5 a6 a7 v a9 a10 a11 a12 a13 a14 a15 r := rfl
@[simp] theorem c16_get_9 : (c16 a0 a1 a2 a3 a4 a5 a6 a7 a8 a9 a10 a11 a12 a13 a14 a15 r)[9]? = some a9 := rfl
@[simp high] theorem c16_ev_9 : ev C (c16 a0 a1 a2 a3 a4 a5 a6 a7 a8 a9 a10 a11 a12 a13 a14 a15 r) (.tmp 9) = a9 := rfl
@[simp] theorem c16_set_9 : (c16 a0 a1 a2 a3 a4 a5 a6 a7 a8 a9 a10 a11 a12 a13 a14 a15 r).set 9 v = c16 a0 a1 a2 a3 a4 a5 a6 a7 a8 v a10 a11 a12 a13 a14 a15 r := rfl
@[simp] theorem c16_get_10 : (c16 a0 a1 a2 a3 a4 a5 a6 a7 a8 a9 a10 a11 a12 a13 a14 a15 r)[10]? = some a10 := rfl
@[simp high] theorem c16_ev_10 : ev C (c16 a0 a1 a2 a3 a4 a5 a6 a7 a8 a9 a10 a11 a12 a13 a14 a15 r) (.tmp 10) = a10 := rfl
@[simp] theorem c16_set_10 : (c16 a0 a1 a2 a3 a4 a5 a6 a7 a8 a9 a10 a11 a12 a13 a14 a15 r).set 10 v = c16 a0 a1 a2 a3 a4 a5 a6 a7 a8 a9 v a11 a12 a13 a14 a15 r := rfl
@[simp] theorem c16_get_11 : (c16 a0 a1 a2 a3 a4 a5 a6 a7 a8 a9 a10 a11 a12 a13 a14 a15 r)[11]? = some a11 := rfl
@[simp high] theorem c16_ev_11 : ev C (c16 a0 a1 a2 a3 a4 a5 a6 a7 a8 a9 a10 a11 a12 a13 a14 a15 r) (.tmp 11) = a11 := rfl
@[simp] theorem c16_set_11 : (c16 a0 a1 a2 a3 a4 a5 a6 a7 a8 a9 a10 a11 a12 a13 a14 a15 r).set 11 v = c16 a0 a1 a2 a3 a4 a5 a6 a7 a8 a9 a10 v a12 a13 a14 a15 r := rfl
@[simp] theorem c16_get_12 : (c16 a0 a1 a2 a3 a4 a5 a6 a7 a8 a9 a10 a11 a12 a13 a14 a15 r)[12]? = some a12 := rfl
@[simp high] theorem c16_ev_12 : ev C (c16 a0 a1 a2 a3 a4 a5 a6 a7 a8 a9 a10 a11 a12 a13 a14 a15 r) (.tmp 12) = a12 := rfl
@[simp] theorem c16_set_12 : (c16 a0 a1 a2 a3 a4 a5 a6 a7 a8 a9 a10 a11 a12 a13 a14 a15 r).set 12 v = c16 a0 a1 a2 a3 a4 a5 a6 a7 a8 a9 a10 a11 v a13 a14 a15 r := rfl
@[simp] theorem c16_get_13 : (c16 a0 a1 a2 a3 a4 a5 a6 a7 a8 a9 a10 a11 a12 a13 a14 a15 r)[13]? = some a13 := rfl
@[simp high] theorem c16_ev_13 : ev C (c16 a0 a1 a2 a3 a4 a5 a6 a7 a8 a9 a10 a11 a12 a13 a14 a15 r) (.tmp 13) = a13 := rfl
@[simp] theorem c16_set_13 : (c16 a0 a1 a2 a3 a4 a5 a6 a7 a8 a9 a10 a11 a12 a13 a14 a15 r).set 13 v = c16 a0 a1 a2 a3 a4 a5 a6 a7 a8 a9 a10 a11 a12 v a14 a15 r := rfl
@[simp] theorem c16_get_14 : (c16 a0 a1 a2 a3 a4 a5 a6 a7 a8 a9 a10 a11 a12 a13 a14 a15 r)[14]? = some a14 := rfl
@[simp high] theorem c16_ev_14 : ev C (c16 a0 a1 a2 a3 a4 a5 a6 a7 a8 a9 a10 a11 a12 a13 a14 a15 r) (.tmp 14) = a14 := rfl
@[simp] theorem c16_set_14 : (c16 a0 a1 a2 a3 a4 a5 a6 a7 a8 a9 a10 a11 a12 a13 a14 a15 r).set 14 v = c16 a0 a1 a2 a3 a4 a5 a6 a7 a8 a9 a10 a11 a12 a13 v a15 r := rfl
@[simp] theorem c16_get_15 : (c16 a0 a1 a2 a3 a4 a5 a6 a7 a8 a9 a10 a11 a12 a13 a14 a15 r)[15]? = some a15 := rfl
@[simp high] theorem c16_ev_15 : ev C (c16 a0 a1 a2 a3 a4 a5 a6 a7 a8 a9 a10 a11 a12 a13 a14 a15 r) (.tmp 15) = a15 := rfl
@[simp] theorem c16_set_15 : (c16 a0 a1 a2 a3 a4 a5 a6 a7 a8 a9 a10 a11 a12 a13 a14 a15 r).set 15 v = c16 a0 a1 a2 a3 a4 a5 a6 a7 a8 a9 a10 a11 a12 a13 a14 v r := rfl
@[simp] theorem c16_get_s : (c16 a0 a1 a2 a3 a4 a5 a6 a7 a8 a9 a10 a11 a12 a13 a14 a15 r)[n + 16]? = r[n]? := rfl
@[simp high] theorem c16_ev_s : ev C (c16 a0 a1 a2 a3 a4 a5 a6 a7 a8 a9 a10 a11 a12 a13 a14 a15 r) (.tmp (n + 16)) = ev C r (.tmp n) := rfl
@[simp] theorem c16_set_s : (c16 a0 a1 a2 a3 a4 a5 a6 a7 a8 a9 a10 a11 a12 a13 a14 a15 r).set (n + 16) v = c16 a0 a1 a2 a3 a4 a5 a6 a7 a8 a9 a10 a11 a12 a13 a14 a15 (r.set n v) := rfl
end
end Go.Pv
namespace Go.Pv
open Go
/-- Some temporaries, the others forgotten. -/
def envAt (n : Nat) (l : List (Nat × V)) : List V := l.foldl (fun e p => e.set p.1 p.2) (unks n)
theorem envAt_def (n : Nat) (l : List (Nat × V)) : envAt n l = l.foldl (fun e p => e.set p.1 p.2) (unks n) := rfl
end Go.Pv
namespace Go.Pv
open Go
/-- What comes behind is looked at once what comes first is known. -/
@[congr] theorem obind_congr {α β : Type} {x y : Option α} {f : α → Option β} (h : x = y) : x.bind f = y.bind f := by rw [h]
@[congr] theorem omap_congr {α β : Type} {x y : Option α} {f : α → β} (h : x = y) : x.map f = y.map f := by rw [h]
@[congr] theorem hbind_congr {α β : Type} {x y : HP α} {f : α → HP β} (h : x = y) : x.bind f = y.bind f := by rw [h]
end Go.Pv
namespace Go.Pv
open Go
theorem clash_nil_left (b : List Nat × List Nat) : clash ([], []) b = false := by simp [clash]
theorem clash_nil_right (a : List Nat × List Nat) : clash a ([], []) = false := by simp [clash]
theorem clash_reads (a b : List Nat) : clash (a, []) (b, []) = false := by simp [clash]
theorem clashes_skip (ord : Nat → Nat → Bool) (i : Nat) (r : List (List Nat × List Nat)) : clashes ord i (([], []) :: r) = clashes ord (i + 1) r := by
  rw [clashes]
  simp [clash_nil_left]
theorem clashes_nil (ord : Nat → Nat → Bool) (i : Nat) : clashes ord i [] = true := rfl
theorem clashes_cons (ord : Nat → Nat → Bool) (i : Nat) (a : List Nat × List Nat) (r : List (List Nat × List Nat)) : clashes ord i (a :: r) = ((r.zipIdx (i + 1)).all (fun b => !clash a b.1 || ord i b.2) && clashes ord (i + 1) r) := rfl
attribute [simp high] clash_nil_left clash_nil_right clash_reads clashes_skip
attribute [simp] clashes_nil clashes_cons
end Go.Pv

namespace Go.Pv
open Go
theorem c16_all (a0 a1 a2 a3 a4 a5 a6 a7 a8 a9 a10 a11 a12 a13 a14 a15 : V) (r : List V) (p : V → Bool) : (c16 a0 a1 a2 a3 a4 a5 a6 a7 a8 a9 a10 a11 a12 a13 a14 a15 r).all p = (p a0 && p a1 && p a2 && p a3 && p a4 && p a5 && p a6 && p a7 && p a8 && p a9 && p a10 && p a11 && p a12 && p a13 && p a14 && p a15 && r.all p) := by simp [c16, Bool.and_assoc]
end Go.Pv
/-
  The equations, what comes behind kept closed until what comes first is known.
-/
set_option linter.unusedVariables false
namespace Go.Pv
open Go
section
variable (C : Cx2)
noncomputable def kSeq (f : FuncId) (b : Code) (r : Ex × St) : Option (Ex × St) := match r.1 with | .normal => (top C).code f b r.2 | e => some (e, r.2)
theorem kSeq_normal (f : FuncId) (b : Code) (st : St) : kSeq C f b (.normal, st) = (top C).code f b st := rfl
theorem kSeq_exit (f : FuncId) (b : Code) (i : Nat) (st : St) : kSeq C f b (.exit i, st) = some (.exit i, st) := rfl
theorem kSeq_ret (f : FuncId) (b : Code) (st : St) : kSeq C f b (.ret, st) = some (.ret, st) := rfl
theorem k_seq (f : FuncId) (a b : Code) (st : St) : (top C).code f (.seq a b) st = ((top C).code f a st).bind (kSeq C f b) := (top_sol C).code ..
def kReg (f : FuncId) (i : Nat) (st : St) : Ex × St := (.normal, forgetS (C.dead f i) st)
theorem kReg_mk (f : FuncId) (i : Nat) (e : List V) (h : H) : kReg C f i ⟨e, h⟩ = (.normal, ⟨forget (C.dead f i) e, h⟩) := rfl
theorem k_region (f : FuncId) (i : Nat) (ops : Array Oper) (st : St) : (top C).code f (.region i ops false) st = (runL C (top C) f ops ops.toList st).map (kReg C f i) := (top_sol C).code ..
def kDraw (f : FuncId) (i : Nat) (r : St × List (List Nat × List Nat)) : Option (Ex × St) := if clashes (fun k j => ((C.befo f i).getD j 0).testBit k) 0 r.2 then some (.normal, forgetS (C.dead f i) r.1) else none
theorem kDraw_mk (f : FuncId) (i : Nat) (e : List V) (h : H) (l : List (List Nat × List Nat)) : kDraw C f i (⟨e, h⟩, l) = if clashes (fun k j => ((C.befo f i).getD j 0).testBit k) 0 l then some (.normal, ⟨forget (C.dead f i) e, h⟩) else none := rfl
theorem k_draw (f : FuncId) (i : Nat) (ops : Array Oper) (st : St) : (top C).code f (.region i ops true) st = (runD C (top C) f ops ops.toList st).bind (kDraw C f i) := (top_sol C).code ..
theorem k_cond (f : FuncId) (x : Operand) (a b : Code) (e : List V) (h : H) : (top C).code f (.cond x a b) ⟨e, h⟩ = match ev C.toCx e x with | .sc (.bool t) => if t then (top C).code f a ⟨e, h⟩ else (top C).code f b ⟨e, h⟩ | _ => none := (top_sol C).code ..
def kBlock (i : Nat) (r : Ex × St) : Ex × St := match r.1 with | .exit id' => if id' = i then (.normal, r.2) else r | _ => r
theorem kBlock_normal (i : Nat) (st : St) : kBlock i (.normal, st) = (.normal, st) := rfl
theorem kBlock_ret (i : Nat) (st : St) : kBlock i (.ret, st) = (.ret, st) := rfl
theorem kBlock_exit (i j : Nat) (st : St) : kBlock i (.exit j, st) = if j = i then (.normal, st) else (.exit j, st) := rfl
theorem k_block (f : FuncId) (i : Nat) (a : Code) (st : St) : (top C).code f (.block i a) st = ((top C).code f a st).map (kBlock i) := (top_sol C).code ..
noncomputable def kLoop (f : FuncId) (a : Code) (r : Ex × St) : Option (Ex × St) := match r.1 with | .normal => (top C).code f (.loop a) r.2 | e => some (e, r.2)
theorem kLoop_normal (f : FuncId) (a : Code) (st : St) : kLoop C f a (.normal, st) = (top C).code f (.loop a) st := rfl
theorem kLoop_exit (f : FuncId) (a : Code) (i : Nat) (st : St) : kLoop C f a (.exit i, st) = some (.exit i, st) := rfl
theorem kLoop_ret (f : FuncId) (a : Code) (st : St) : kLoop C f a (.ret, st) = some (.ret, st) := rfl
theorem k_loop (f : FuncId) (a : Code) (e : List V) (h : H) : (top C).code f (.loop a) ⟨e, h⟩ = ((top C).code f a ⟨forget (C.deadL f ((Pv.keyOf a).getD 0)) e, h⟩).bind (kLoop C f a) := (top_sol C).code ..
theorem k_scope (f : FuncId) (a : Code) (st : St) : (top C).code f (.scope a) st = (top C).code f a st := (top_sol C).code ..
variable (S : Sm)
def kPut (env : List V) (d : Option Tmp) (r : V × H) : St := ⟨putV env d r.1, r.2⟩
theorem kPut_mk (env : List V) (d : Option Tmp) (v : V) (h : H) : kPut env d (v, h) = ⟨putV env d v, h⟩ := rfl
theorem runL_nil (f : FuncId) (ops : Array Oper) (st : St) : runL C S f ops [] st = some st := rfl
theorem runL_cons (f : FuncId) (ops : Array Oper) (o : Oper) (os : List Oper) (st : St) : runL C S f ops (o :: os) st = (stepO C S f ops o st).bind (runL C S f ops os) := rfl
/-- An operation whose guard holds. -/
def stepT (f : FuncId) (o : Oper) (env : List V) (h : H) : Option St :=
  match o.op with
  | .call c =>
    match c.callee with
    | .value g => (callVal S (ev C.toCx env g) (c.args.toList.map (ev C.toCx env)) h).map (kPut env o.dst)
    | _ => ((opHP C.toCx (C.own f) env o).run h).map (kPut env o.dst)
  | _ => ((opHP C.toCx (C.own f) env o).run h).map (kPut env o.dst)
theorem stepO_mk (f : FuncId) (ops : Array Oper) (o : Oper) (env : List V) (h : H) : stepO C S f ops o ⟨env, h⟩ = match guardV ops env o with | none => none | some false => some ⟨putV env o.dst (.tup []), h⟩ | some true => stepT C S f o env h := by
  unfold stepO stepT
  rfl
def kCons (t : List Nat × List Nat) (r : St × List (List Nat × List Nat)) : St × List (List Nat × List Nat) := (r.1, t :: r.2)
theorem kCons_mk (t : List Nat × List Nat) (s : St) (l : List (List Nat × List Nat)) : kCons t (s, l) = (s, t :: l) := rfl
def kD (f : FuncId) (ops : Array Oper) (os : List Oper) (env : List V) (d : Option Tmp) (r : V × H × List Nat × List Nat) : Option (St × List (List Nat × List Nat)) := (runD C S f ops os ⟨putV env d r.1, r.2.1⟩).map (kCons r.2.2)
theorem kD_mk (f : FuncId) (ops : Array Oper) (os : List Oper) (env : List V) (d : Option Tmp) (v : V) (h : H) (t : List Nat × List Nat) : kD C S f ops os env d (v, h, t) = (runD C S f ops os ⟨putV env d v, h⟩).map (kCons t) := rfl
theorem runD_nil (f : FuncId) (ops : Array Oper) (st : St) : runD C S f ops [] st = some (st, []) := rfl
theorem runD_cons (f : FuncId) (ops : Array Oper) (o : Oper) (os : List Oper) (env : List V) (h : H) : runD C S f ops (o :: os) ⟨env, h⟩ = match guardV ops env o with | none => none | some false => (runD C S f ops os ⟨putV env o.dst (.tup []), h⟩).map (kCons ([], [])) | some true => ((stepHP C S f env o).runT h).bind (kD C S f ops os env o.dst) := by
  rfl
def kBody (g : FuncId) (fn : Func) (r : Ex × St) : Option (List V × H) :=
  match r.1 with
  | .exit _ => none
  | _ => ((resultsV C.P r.2.env fn.results.toList).bind fun vs => if C.keep g then .ret vs else normVs C.P fn.resultTypes.toList vs).run r.2.heap
theorem kBody_normal (g : FuncId) (fn : Func) (e : List V) (h : H) : kBody C g fn (.normal, ⟨e, h⟩) = ((resultsV C.P e fn.results.toList).bind fun vs => if C.keep g then .ret vs else normVs C.P fn.resultTypes.toList vs).run h := rfl
theorem kBody_ret (g : FuncId) (fn : Func) (e : List V) (h : H) : kBody C g fn (.ret, ⟨e, h⟩) = ((resultsV C.P e fn.results.toList).bind fun vs => if C.keep g then .ret vs else normVs C.P fn.resultTypes.toList vs).run h := rfl
theorem k_body (g : FuncId) (fn : Func) (body : Code) (args : List V) (h : H) : bodyV C S g fn body args h = (S.code g body ⟨envOf fn.ntmps args, h⟩).bind (kBody C g fn) := by
  rfl
/-- The way back of a call of plain data. -/
def kRetD (k : Bool) (h : H) (r : List V × H) : V × H := retD h (selR k r)
theorem kRetD_keep (h : H) (l : List V) (h' : H) : kRetD true h (l, h') = retD h ((selV l h').getD (l, h')) := rfl
theorem retD_mk (h : H) (l : List V) (h' : H) : retD h (l, h') = if l.all isArg then (tupOf l, h) else (tupOf (l.map (V.shift h.length)), h ++ h'.map (Ob.shift h.length)) := rfl
theorem kRetD_mk (h : H) (l : List V) (h' : H) : kRetD false h (l, h') = if l.all isArg then (tupOf l, h) else (tupOf (l.map (V.shift h.length)), h ++ h'.map (Ob.shift h.length)) := rfl
def kRetR (h : H) (r : List V × H) : V × H := if r.1.all (V.ltN h.length) then (tupOf r.1, gc h.length r.2) else (tupOf r.1, r.2)
theorem kRetR_mk (h : H) (l : List V) (h' : H) : kRetR h (l, h') = if l.all (V.ltN h.length) then (tupOf l, gc h.length h') else (tupOf l, h') := rfl
theorem k_D {g : FuncId} {fn : Func} {body : Code} {args args' : List V} {h h1 : H} (hp : C.prim g = none) (hf : C.P.funcs[g]? = some fn) (hb : fn.body = some body) (hn : (fn.name == "runtime.NumGoroutine") = false)
    (ha : (argsHP C g fn.params.toList args).run h = some (args', h1)) (hd : args'.all isArg = true) :
    (top C).call g args h = (bodyV C (top C) g fn body args' []).map (kRetD (C.keep g) h1) := call_D C hp hf hb hn ha hd
theorem k_R {g : FuncId} {fn : Func} {body : Code} {args args' : List V} {h h1 : H} (hp : C.prim g = none) (hf : C.P.funcs[g]? = some fn) (hb : fn.body = some body) (hn : (fn.name == "runtime.NumGoroutine") = false)
    (ha : (argsHP C g fn.params.toList args).run h = some (args', h1)) (hd : args'.all isArg = false) :
    (top C).call g args h = (bodyV C (top C) g fn body args' h1).map (kRetR h1) := call_R C hp hf hb hn ha hd
end
/-! ### Reading and writing -/
section
def kWith {α : Type} (h : H) (x : α) : α × H := (x, h)
theorem kWith_mk {α : Type} (h : H) (x : α) : kWith h x = (x, h) := rfl
def kWithT {α : Type} (h : H) (t : List Nat) (x : α) : α × H × List Nat × List Nat := (x, h, t, [])
theorem kWithT_mk {α : Type} (h : H) (t : List Nat) (x : α) : kWithT h t x = (x, h, t, []) := rfl
def takeIn (k n : Nat) (x : List V) : Option (List V) := takeAt x k n
theorem takeIn_mk (k n : Nat) (x : List V) : takeIn k n x = takeAt x k n := rfl
def rdRef (off n : Nat) : Option Ob → Option (List V)
  | some (.cells _ c) => takeAt c off n
  | _ => none
theorem rdRef_mk (off n : Nat) (bt : TypeId) (c : List V) : rdRef off n (some (.cells bt c)) = takeAt c off n := rfl
theorem read_ref (id off n : Nat) (h : H) : (readAt (.ref id off) n).run h = (rdRef off n h[id]?).map (kWith h) := by
  simp only [readAt, HP.run]
  cases h[id]? with
  | none => rfl
  | some o => cases o <;> simp only [rdRef, HP.run, Option.map_none] ; rename_i c; cases takeAt c off n <;> rfl
theorem read_refT (id off n : Nat) (h : H) : (readAt (.ref id off) n).runT h = (rdRef off n h[id]?).map (kWithT h [id]) := by
  simp only [readAt, HP.runT]
  cases h[id]? with
  | none => rfl
  | some o => cases o <;> simp only [rdRef, HP.runT, Option.map_none] ; rename_i c; cases takeAt c off n <;> rfl
theorem read_pptr (sz : Nat) (xs : List (List V)) (i k n : Nat) (h : H) : (readAt (.pptr sz xs i k) n).run h = ((xs[i]?).bind (takeIn k n)).map (kWith h) := by
  simp only [readAt, HP.run_ofOption]; rfl
theorem read_pptrT (sz : Nat) (xs : List (List V)) (i k n : Nat) (h : H) : (readAt (.pptr sz xs i k) n).runT h = ((xs[i]?).bind (takeIn k n)).map (kWithT h []) := by
  simp only [readAt]
  show (HP.ofOption ((xs[i]?).bind (takeIn k n))).runT h = _
  cases (xs[i]?).bind (takeIn k n) <;> rfl
def rdEref (ver sz i k n : Nat) : Option Ob → Option (List V)
  | some (.arr ver' _ sz' xs) => if ver = ver' ∧ sz = sz' then (xs[i]?).bind (takeIn k n) else none
  | _ => none
theorem rdEref_mk (ver sz i k n ver' wm sz' : Nat) (xs : List (List V)) : rdEref ver sz i k n (some (.arr ver' wm sz' xs)) = if ver = ver' ∧ sz = sz' then (xs[i]?).bind (takeIn k n) else none := rfl
theorem read_eref (id ver sz i k n : Nat) (h : H) : (readAt (.eref id ver sz i k) n).run h = (rdEref ver sz i k n h[id]?).map (kWith h) := by
  simp only [readAt, HP.run]
  cases h[id]? with
  | none => rfl
  | some o =>
    cases o <;> simp only [rdEref, HP.run, Option.map_none]
    rename_i ver' wm sz' xs
    split
    · show (HP.ofOption ((xs[i]?).bind (takeIn k n))).run h = _
      cases (xs[i]?).bind (takeIn k n) <;> rfl
    · rfl
theorem read_erefT (id ver sz i k n : Nat) (h : H) : (readAt (.eref id ver sz i k) n).runT h = (rdEref ver sz i k n h[id]?).map (kWithT h [id]) := by
  simp only [readAt, HP.runT]
  cases h[id]? with
  | none => rfl
  | some o =>
    cases o <;> simp only [rdEref, HP.runT, Option.map_none]
    rename_i ver' wm sz' xs
    split
    · show ((HP.ofOption ((xs[i]?).bind (takeIn k n))).runT h).map _ = _
      cases (xs[i]?).bind (takeIn k n) <;> rfl
    · rfl
def wrRef (off : Nat) (cs : List V) : Option Ob → Option Ob
  | some (.cells bt c) => (putAt c off cs).map (.cells bt)
  | _ => none
theorem wrRef_mk (off : Nat) (cs : List V) (bt : TypeId) (c : List V) : wrRef off cs (some (.cells bt c)) = (putAt c off cs).map (.cells bt) := rfl
def kSet (h : H) (id : Nat) (o : Ob) : Unit × H := ((), h.set id o)
theorem kSet_mk (h : H) (id : Nat) (o : Ob) : kSet h id o = ((), h.set id o) := rfl
def kSetT (h : H) (id : Nat) (o : Ob) : Unit × H × List Nat × List Nat := ((), h.set id o, [id, id], [id])
theorem kSetT_mk (h : H) (id : Nat) (o : Ob) : kSetT h id o = ((), h.set id o, [id, id], [id]) := rfl
theorem write_ref (id off : Nat) (cs : List V) (h : H) : (writeAt (.ref id off) cs).run h = (wrRef off cs h[id]?).map (kSet h id) := by
  simp only [writeAt, HP.run]
  cases hh : h[id]? with
  | none => rfl
  | some o =>
    have hl : id < h.length := (List.getElem?_eq_some_iff.1 hh).1
    cases o <;> simp only [wrRef, HP.run, Option.map_none]
    rename_i bt c
    cases putAt c off cs with
    | none => rfl
    | some c' => simp [HP.run, hl, kSet]
theorem write_refT (id off : Nat) (cs : List V) (h : H) : (writeAt (.ref id off) cs).runT h = (wrRef off cs h[id]?).map (kSetT h id) := by
  simp only [writeAt, HP.runT]
  cases hh : h[id]? with
  | none => rfl
  | some o =>
    have hl : id < h.length := (List.getElem?_eq_some_iff.1 hh).1
    cases o <;> simp only [wrRef, HP.runT, Option.map_none]
    rename_i bt c
    cases putAt c off cs with
    | none => rfl
    | some c' => simp [HP.runT, hl, kSetT]
def wrEref (ver sz i k : Nat) (cs : List V) : Option Ob → Option Ob
  | some (.arr ver' wm sz' xs) => if ver = ver' ∧ sz = sz' ∧ wm ≤ i then ((xs[i]?).bind fun x => putAt x k cs).map fun x' => .arr ver' wm sz' (xs.set i x') else none
  | _ => none
theorem wrEref_mk (ver sz i k ver' wm sz' : Nat) (cs : List V) (xs : List (List V)) : wrEref ver sz i k cs (some (.arr ver' wm sz' xs)) = if ver = ver' ∧ sz = sz' ∧ wm ≤ i then ((xs[i]?).bind fun x => putAt x k cs).map fun x' => .arr ver' wm sz' (xs.set i x') else none := rfl
theorem write_eref (id ver sz i k : Nat) (cs : List V) (h : H) : (writeAt (.eref id ver sz i k) cs).run h = (wrEref ver sz i k cs h[id]?).map (kSet h id) := by
  simp only [writeAt, HP.run]
  cases hh : h[id]? with
  | none => rfl
  | some o =>
    have hl : id < h.length := (List.getElem?_eq_some_iff.1 hh).1
    cases o <;> simp only [wrEref, HP.run, Option.map_none]
    rename_i ver' wm sz' xs
    split
    · cases (xs[i]?).bind fun x => putAt x k cs with
      | none => rfl
      | some c' => simp [HP.run, hl, kSet]
    · rfl
end
theorem takeAt_def (x : List V) (k n : Nat) : takeAt x k n = if ((x.drop k).take n).length = n then some ((x.drop k).take n) else none := rfl
theorem putAt_def (x : List V) (k : Nat) (cs : List V) : putAt x k cs = if k + cs.length ≤ x.length then some (x.take k ++ cs ++ x.drop (k + cs.length)) else none := rfl
theorem sliceOp_ref (P : Program) (t : TypeId) (id off : Nat) (lo hi : Option V) : sliceOp P t (.ref id off) lo hi = .ofOption (sliceV P t (.ref id off) lo hi) := rfl
theorem sliceOp_list (P : Program) (t : TypeId) (sz : Nat) (xs : List (List V)) (tk : Tk) (lo hi : Option V) : sliceOp P t (.list sz xs tk) lo hi = .ofOption (sliceV P t (.list sz xs tk) lo hi) := rfl
theorem sliceOp_sl (P : Program) (t : TypeId) (id ver sz off len : Nat) (lo hi : Option V) : sliceOp P t (.sl id ver sz off len) lo hi = .ofOption (sliceV P t (.sl id ver sz off len) lo hi) := rfl
theorem sliceOp_csl (P : Program) (t : TypeId) (id off len : Nat) (lo hi : Option V) : sliceOp P t (.csl id off len) lo hi = .ofOption (sliceV P t (.csl id off len) lo hi) := rfl
theorem builtin_copy (P : Program) (own : Bool) (ty t : TypeId) (ts : List TypeId) (d s : V) : builtinV P own ty .copy ⟨t :: ts⟩ [d, s] = copyV P t d s := rfl
end Go.Pv
/-
  The operations at the forms in which they come.
-/
set_option linter.unusedSimpArgs false
set_option linter.unusedVariables false
namespace Go.Pv
open Go
theorem pureRun_underlying {P : Program} {t : TypeId} {d : TypeDesc} (h : P.underlying t = some d) : pureRun P (underlying t) = some d := by
  simp [underlying, pureRun_bind, pureRun_program, h, pureRun_pure]
def isSlT (P : Program) (t : TypeId) : Bool := match P.underlying t with | some (.slice _) => true | _ => false
theorem isSlT_spec {P : Program} {t : TypeId} (h : isSlT P t = true) : ∃ e, P.underlying t = some (.slice e) := by
  unfold isSlT at h; split at h
  · rename_i e he; exact ⟨e, he⟩
  · simp at h
section
variable {P : Program} {own : Bool}
theorem conv_int {s d : TypeId} {k k1 k2 : IntKind} (hs : P.underlying s = some (.int k1)) (hd : P.underlying d = some (.int k2)) (a : Int) : convertV P own s d (.sc (.int k a)) = .ret (.sc (.int k2 (k2.wrap a))) := by
  have : pureRun P (convert s d (.int k a)) = some (.int k2 (k2.wrap a)) := by
    simp only [convert, pureRun_bind, pureRun_underlying hs, pureRun_underlying hd, Option.bind_some, Conv.intToInt, pureRun_pure]
  simp [convertV, hs, hd, V.toVal, pureV, this, ofVal]
theorem len_str {ty t : TypeId} (ht : P.underlying t = some .string) (s : ByteArray) : builtinV P own ty .len #[t] [.sc (.string s)] = .ret (.sc (.int .i64 s.size)) := by
  have : pureRun P (Builtin.len_ #[t] ty #[.string s]) = some (.int .i64 s.size) := by
    simp [Builtin.len_, pureRun_bind, pureRun_underlying ht, pureRun_pure, goInt]
  simp [builtinV, lenV, V.toVal, pureV, this, ofVal]
theorem len_list {ty t : TypeId} (ht' : isSlT P t = true) (sz : Nat) (xs : List (List V)) (tk : Tk) : builtinV P own ty .len #[t] [.list sz xs tk] = .ret (.sc (.int .i64 xs.length)) := by
  obtain ⟨e, ht⟩ := isSlT_spec ht'
  simp [builtinV, lenV, ht]
theorem len_sl {ty t : TypeId} (ht' : isSlT P t = true) (id ver sz off len : Nat) : builtinV P own ty .len #[t] [.sl id ver sz off len] = .ret (.sc (.int .i64 len)) := by
  obtain ⟨e, ht⟩ := isSlT_spec ht'
  simp [builtinV, lenV, ht]
theorem len_csl {ty t : TypeId} (ht' : isSlT P t = true) (id off len : Nat) : builtinV P own ty .len #[t] [.csl id off len] = .ret (.sc (.int .i64 len)) := by
  obtain ⟨e, ht⟩ := isSlT_spec ht'
  simp [builtinV, lenV, ht]
theorem len_nil {ty t : TypeId} (ht' : isSlT P t = true) (a : Option Addr) (n c : Nat) : builtinV P own ty .len #[t] [.sc (.slice a n c)] = .ret (.sc (.int .i64 n)) := by
  obtain ⟨e, ht⟩ := isSlT_spec ht'
  have : pureRun P (Builtin.len_ #[t] ty #[.slice a n c]) = some (.int .i64 n) := by
    simp [Builtin.len_, pureRun_bind, pureRun_underlying ht, pureRun_pure, goInt]
  cases a with
  | none =>
    cases n with
    | zero => cases c with
      | zero => simp [builtinV, lenV, V.toVal, pureV, this, ofVal, ht]
      | succ c => simp [builtinV, lenV, V.toVal, pureV, this, ofVal, ht]
    | succ n => simp [builtinV, lenV, V.toVal, pureV, this, ofVal, ht]
  | some a => simp [builtinV, lenV, V.toVal, pureV, this, ofVal, ht]
theorem binOpV_cat (t : TypeId) (x y : Operand) (a b : ByteArray) (h : a.size + b.size ≤ 9223372036854775807) : binOpV P .add t x y (.sc (.string a)) (.sc (.string b)) = .ret (.sc (.string (a ++ b))) := by
  have h' : ¬ (9223372036854775807 : Int) < ↑a.size + ↑b.size := by omega
  simp [binOpV, pureV, V.toVal, eqGuard, binOp, pureRun_bind, pureRun_pure, Op.stringOp, ofVal, h']
theorem toList_beq (a b : ByteArray) : (a.toList == b.toList) = decide (a = b) := by
  rw [Bool.eq_iff_iff]
  simp only [beq_iff_eq, decide_eq_true_eq]
  constructor
  · intro h
    rw [Lib.toList_data, Lib.toList_data] at h
    cases a; cases b
    simp only [ByteArray.mk.injEq] at *
    exact Array.ext' h
  · rintro rfl; rfl
theorem binOpV_seq (t : TypeId) (x y : Operand) (a b : ByteArray) : binOpV P .eql t x y (.sc (.string a)) (.sc (.string b)) = .ret (.sc (.bool (decide (a = b)))) := by
  simp [binOpV, pureV, V.toVal, eqGuard, binOp, pureRun_bind, pureRun_pure, Op.stringOp, ofVal, toList_beq]
theorem binOpV_sne (t : TypeId) (x y : Operand) (a b : ByteArray) : binOpV P .neq t x y (.sc (.string a)) (.sc (.string b)) = .ret (.sc (.bool (!decide (a = b)))) := by
  simp [binOpV, pureV, V.toVal, eqGuard, binOp, pureRun_bind, pureRun_pure, Op.stringOp, ofVal, toList_beq]
/-! ### Bits -/
theorem binOpV_and (t : TypeId) (x y : Operand) (k : IntKind) (a b : Int) : binOpV P .and t x y (.sc (.int k a)) (.sc (.int k b)) = .ret (.sc (.int k (k.wrap (BitVec.ofInt k.bits a &&& BitVec.ofInt k.bits b).toNat))) := by
  simp [binOpV, pureV, V.toVal, eqGuard, binOp, pureRun_bind, pureRun_pure, Op.intBits, ofVal]
theorem binOpV_or (t : TypeId) (x y : Operand) (k : IntKind) (a b : Int) : binOpV P .or t x y (.sc (.int k a)) (.sc (.int k b)) = .ret (.sc (.int k (k.wrap (BitVec.ofInt k.bits a ||| BitVec.ofInt k.bits b).toNat))) := by
  simp [binOpV, pureV, V.toVal, eqGuard, binOp, pureRun_bind, pureRun_pure, Op.intBits, ofVal]
theorem binOpV_xor (t : TypeId) (x y : Operand) (k : IntKind) (a b : Int) : binOpV P .xor t x y (.sc (.int k a)) (.sc (.int k b)) = .ret (.sc (.int k (k.wrap (BitVec.ofInt k.bits a ^^^ BitVec.ofInt k.bits b).toNat))) := by
  simp [binOpV, pureV, V.toVal, eqGuard, binOp, pureRun_bind, pureRun_pure, Op.intBits, ofVal]
theorem binOpV_shl (t : TypeId) (x y : Operand) (k k' : IntKind) (a b : Int) (h : ¬ b < 0) : binOpV P .shl t x y (.sc (.int k a)) (.sc (.int k' b)) = .ret (.sc (.int k (k.wrap (a * 2 ^ min b.toNat k.bits)))) := by
  simp [binOpV, pureV, V.toVal, eqGuard, binOp, pureRun_bind, pureRun_pure, Op.shift, ofVal, h]
theorem binOpV_shr (t : TypeId) (x y : Operand) (k k' : IntKind) (a b : Int) (h : ¬ b < 0) : binOpV P .shr t x y (.sc (.int k a)) (.sc (.int k' b)) = .ret (.sc (.int k (a.fdiv (2 ^ min b.toNat k.bits)))) := by
  simp [binOpV, pureV, V.toVal, eqGuard, binOp, pureRun_bind, pureRun_pure, Op.shift, ofVal, h]
theorem unOpV_xor (k : IntKind) (a : Int) : unOpV P .xor (.sc (.int k a)) = .ret (.sc (.int k (k.wrap (BitVec.ofInt k.bits (if k.signed then -1 else k.max) ^^^ BitVec.ofInt k.bits a).toNat))) := by
  simp [unOpV, pureV, V.toVal, Op.unary, Op.intBits, pureRun_bind, pureRun_pure, ofVal]
theorem min_int {ty : TypeId} {ts : Array TypeId} (k k' : IntKind) (a b : Int) : builtinV P own ty .min ts [.sc (.int k a), .sc (.int k' b)] = .ret (.sc (.int k (if b < a then b else a))) := by
  have : pureRun P (Builtin.min_ ts ty #[.int k a, .int k' b]) = some (.int k (if b < a then b else a)) := by
    simp [Builtin.min_, Builtin.min2, pureRun_bind, pureRun_pure]
  simp [builtinV, V.toVal, pureV, this, ofVal]
/-! ### Parts of a string -/
theorem pureRun_map {α β : Type} (f : α → β) (x : Sem α) : pureRun P (f <$> x) = (pureRun P x).map f := by
  rw [map_eq_pure_bind, pureRun_bind]
  cases pureRun P x <;> rfl
theorem slice_str_hi {t : TypeId} (ht : P.underlying t = some .string) (s : ByteArray) (k : IntKind) (n : Int) (h0 : 0 ≤ n) (h1 : n ≤ s.size) : sliceOp P t (.sc (.string s)) none (some (.sc (.int k n))) = .ret (.sc (.string (s.extract 0 n.toNat))) := by
  have : pureRun P (Instr.sliceAt t (.string s) none (some (.int k n)) none) = some (.string (s.extract 0 n.toNat)) := by
    simp [Instr.sliceAt, Instr.slice, pureRun_bind, pureRun_underlying ht, pureRun_pure, Instr.sliceBounds, pureRun_map, Instr.sliceBound, asIntOf, h0, h1]
  simp [sliceOp, optVal, V.toVal, pureV, this, ofVal]
theorem slice_str_lo {t : TypeId} (ht : P.underlying t = some .string) (s : ByteArray) (k : IntKind) (n : Int) (h0 : 0 ≤ n) (h1 : n ≤ s.size) : sliceOp P t (.sc (.string s)) (some (.sc (.int k n))) none = .ret (.sc (.string (s.extract n.toNat s.size))) := by
  have : pureRun P (Instr.sliceAt t (.string s) (some (.int k n)) none none) = some (.string (s.extract n.toNat s.size)) := by
    simp [Instr.sliceAt, Instr.slice, pureRun_bind, pureRun_underlying ht, pureRun_pure, Instr.sliceBounds, pureRun_map, Instr.sliceBound, asIntOf, h0, h1]
  simp [sliceOp, optVal, V.toVal, pureV, this, ofVal]
/-! ### append -/
def szOk (P : Program) (e : TypeId) (n : Nat) : Prop := sizeOk P e n = true
theorem builtin_append {ty t0 t1 el : TypeId} (h0 : P.underlying t0 = some (.slice el)) (h1 : (∃ e, P.underlying t1 = some (.slice e)) ∨ P.underlying t1 = some .string) (he : elOk P el = true) (s x : V) :
    builtinV P own ty .append #[t0, t1] [s, x] = (rowsOf x).bind fun ys => if ys.all fun y => y.length = P.cellsOf el then appendV P own el s ys else .fail := by
  rcases h1 with ⟨e, h1⟩ | h1 <;> simp [builtinV, h0, h1, he]
theorem append_nil_slice {e : TypeId} (ys : List (List V)) (hy : ys.isEmpty = false) (hs : sizeOk P e ys.length = true) :
    appendV P false e (.sc (.slice none 0 0)) ys = .new (.tail e ys.length) fun id => .ret (.list (P.cellsOf e) ys (.tail id)) := by
  simp [appendV, hy, hs]
theorem append_full {e : TypeId} (xs ys : List (List V)) (hy : ys.isEmpty = false) (hs : sizeOk P e (xs.length + ys.length) = true) :
    appendV P false e (.list (P.cellsOf e) xs .full) ys = .new (.tail e (xs.length + ys.length)) fun id => .ret (.list (P.cellsOf e) (xs ++ ys) (.tail id)) := by
  simp [appendV, hy, hs]
theorem append_tail_runT {e : TypeId} (xs ys : List (List V)) (id : Nat) (hs : sizeOk P e (xs.length + ys.length) = true) (h : H) (ho : h[id]? = some (.tail e xs.length)) :
    (appendV P own e (.list (P.cellsOf e) xs (.tail id)) ys).runT h = some (.list (P.cellsOf e) (xs ++ ys) (.tail id), h.set id (.tail e (xs.length + ys.length)), [id, id], [id]) := by
  have hlt : id < h.length := (List.getElem?_eq_some_iff.1 ho).1
  simp only [appendV, HP.runT, ho]
  simp [HP.runT, hs, hlt]
theorem append_tail_run {e : TypeId} (xs ys : List (List V)) (id : Nat) (hs : sizeOk P e (xs.length + ys.length) = true) (h : H) (ho : h[id]? = some (.tail e xs.length)) :
    (appendV P own e (.list (P.cellsOf e) xs (.tail id)) ys).run h = some (.list (P.cellsOf e) (xs ++ ys) (.tail id), h.set id (.tail e (xs.length + ys.length))) := by
  have hlt : id < h.length := (List.getElem?_eq_some_iff.1 ho).1
  simp only [appendV, HP.run, ho]
  simp [HP.run, hs, hlt]
end
end Go.Pv
/-
  Answers that are known already.
-/
set_option linter.unusedSimpArgs false
set_option linter.unusedVariables false
namespace Go.Pv
open Go
def Cx2.with (C : Cx2) (pr : FuncId → Option (List V → H → Option (V × H))) : Cx2 := { C with prim := pr }
theorem codeF_with (C : Cx2) (pr : FuncId → Option (List V → H → Option (V × H))) (S : Sm) (f : FuncId) (c : Code) (st : St) : codeF (C.with pr) S f c st = codeF C S f c st := by
  have hL : ∀ (f : FuncId) (ops : Array Oper) (os : List Oper) (st : St), runL (C.with pr) S f ops os st = runL C S f ops os st := by
    intro f ops os
    induction os with
    | nil => intro st; rfl
    | cons o os ih =>
      intro st
      simp only [runL]
      have : stepO (C.with pr) S f ops o st = stepO C S f ops o st := rfl
      rw [this]
      cases stepO C S f ops o st with
      | none => rfl
      | some s => exact ih s
  have hD : ∀ (f : FuncId) (ops : Array Oper) (os : List Oper) (st : St), runD (C.with pr) S f ops os st = runD C S f ops os st := by
    intro f ops os
    induction os with
    | nil => intro st; rfl
    | cons o os ih =>
      intro st
      simp only [runD]
      have : stepHP (C.with pr) S f st.env o = stepHP C S f st.env o := rfl
      rw [this]
      split
      · rfl
      · rw [ih]
      · congr 1; funext r; rw [ih]
  cases c
  case region id ops d => simp only [codeF, hL, hD]; rfl
  all_goals rfl
theorem callF_with (C : Cx2) (pr : FuncId → Option (List V → H → Option (V × H))) (S : Sm) (g : FuncId) (a : List V) (h : H) (h1 : pr g = none) (h2 : C.prim g = none) : callF (C.with pr) S g a h = callF C S g a h := by
  unfold callF
  have h1' : (C.with pr).prim g = none := h1
  rw [h1', h2]
  rfl
theorem memo_le {C : Cx2} (pr : FuncId → Option (List V → H → Option (V × H))) (hp : ∀ g p args h r, pr g = some p → p args h = some r → (top C).call g args h = some r) (h0 : ∀ g, pr g = none → C.prim g = none) :
    ∀ n, Le (iter (C.with pr) n) (top C) := by
  intro n
  induction n with
  | zero => exact ⟨fun f c st r e => by simp [iter] at e, fun g a h r e => by simp [iter] at e⟩
  | succ n ih =>
    refine ⟨fun f c st r e => ?_, fun g a h r e => ?_⟩
    · have e' : codeF (C.with pr) (iter (C.with pr) n) f c st = some r := e
      rw [codeF_with] at e'
      rw [(top_sol C).code]
      exact codeF_mono C ih f c st r e'
    · have e' : callF (C.with pr) (iter (C.with pr) n) g a h = some r := e
      cases hg : pr g with
      | some p =>
        unfold callF at e'
        have h1' : (C.with pr).prim g = some p := hg
        rw [h1'] at e'
        exact hp g p a h r hg e'
      | none =>
        rw [callF_with C pr _ g a h hg (h0 g hg)] at e'
        rw [(top_sol C).call]
        exact callF_mono C ih g a h r e'

theorem call_norm {C : Cx2} {g : FuncId} {fn : Func} {body : Code} {args args' : List V} {h h1 : H} (hp : C.prim g = none) (hf : C.P.funcs[g]? = some fn) (hb : fn.body = some body) (hn : (fn.name == "runtime.NumGoroutine") = false)
    (ha : (argsHP C g fn.params.toList args).run h = some (args', h1)) (ha' : (argsHP C g fn.params.toList args').run h1 = some (args', h1)) (hd : args'.all isArg = true) : (top C).call g args h = (top C).call g args' h1 := by
  rw [k_D C hp hf hb hn ha hd, k_D C hp hf hb hn ha' hd]
theorem gd_with (C : Cx2) (pr : FuncId → Option (List V → H → Option (V × H))) (f : FuncId) (c : Code) : gd (C.with pr) f c = gd C f c := by
  induction c with
  | region id ops d => rfl
  | seq a b ha hb => simp only [gd, ha, hb]
  | cond x a b ha hb => simp only [gd, ha, hb]
  | block id a ha => simp only [gd, ha]
  | loop a ha => simp only [gd, ha]
  | rangeFunc g ps a b ha hb => simp only [gd, ha, hb]
  | scope a ha => simp only [gd, ha]
  | _ => rfl
theorem GD_with (C : Cx2) (pr : FuncId → Option (List V → H → Option (V × H))) : GD (C.with pr) = GD C := by
  funext f c
  simp only [GD, gd_with]
end Go.Pv
