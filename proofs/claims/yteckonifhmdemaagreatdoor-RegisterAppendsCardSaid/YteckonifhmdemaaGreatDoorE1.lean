/-
  what functions of the digest and the register answer.
-/
import Derived.Test.YteckonifhmdemaaGreatDoorB2
import Derived.Test.YteckonifhmdemaaGreatDoorB1
set_option linter.all false
/-
  The law's small functions: pick, Key, Entry, Same.
-/
namespace Go.Rg
open Go Go.Pv Go.Proofs.Tryz
set_option maxRecDepth 100000
set_option linter.unusedSimpArgs false
set_option maxHeartbeats 4000000
def i64Ok (n : Int) : Prop := -9223372036854775808 ≤ n ∧ n ≤ 9223372036854775807
/-- pick -/
def pickL (c n : Int) : Int := (if c < 0 then -(c + 1) else c).tmod n
theorem pick_53 (c n : Int) (h : H) (hn : 0 < n) (hc : i64Ok c) : T.call 53 [.sc (.int .i64 c), .sc (.int .i64 n)] h = some (.sc (.int .i64 (pickL c n)), h) := by
  obtain ⟨h1, h2⟩ := hc
  have n0 : ¬ n = 0 := by omega
  have w1 : c < 0 → IntKind.i64.wrap (c + 1) = c + 1 := fun h => wrap64_of (by omega) (by omega)
  have w2 : c < 0 → IntKind.i64.wrap (-(c + 1)) = -(c + 1) := fun h => wrap64_of (by omega) (by omega)
  rw [k_D C18 rfl func53 (body := _) rfl (by decide +kernel) (args' := [.sc (.int .i64 c), .sc (.int .i64 n)]) (h1 := h) (by simp [f53]) (by simp)]
  by_cases hc : c < 0
  · simp [f53, hc, w1 hc, w2 hc, binOpV_rem _ _ _ _ _ _ _ n0, pickL]
  · simp [f53, hc, binOpV_rem _ _ _ _ _ _ _ n0, pickL]
theorem pick_16 (c n : Int) (h : H) (hn : 0 < n) (hc : i64Ok c) : T.call 16 [.sc (.int .i64 c), .sc (.int .i64 n)] h = some (.sc (.int .i64 (pickL c n)), h) := by
  obtain ⟨h1, h2⟩ := hc
  have n0 : ¬ n = 0 := by omega
  have w1 : c < 0 → IntKind.i64.wrap (c + 1) = c + 1 := fun h => wrap64_of (by omega) (by omega)
  have w2 : c < 0 → IntKind.i64.wrap (-(c + 1)) = -(c + 1) := fun h => wrap64_of (by omega) (by omega)
  rw [k_D C18 rfl func16 (body := _) rfl (by decide +kernel) (args' := [.sc (.int .i64 c), .sc (.int .i64 n)]) (h1 := h) (by simp [f16]) (by simp)]
  by_cases hc : c < 0
  · simp [f16, hc, w1 hc, w2 hc, binOpV_rem _ _ _ _ _ _ _ n0, pickL]
  · simp [f16, hc, binOpV_rem _ _ _ _ _ _ _ n0, pickL]
theorem pickL_lt (c n : Int) (hn : 0 < n) : 0 ≤ pickL c n ∧ pickL c n < n := by
  unfold pickL
  split
  · exact ⟨Int.tmod_nonneg _ (by omega), Int.tmod_lt_of_pos _ hn⟩
  · exact ⟨Int.tmod_nonneg _ (by omega), Int.tmod_lt_of_pos _ hn⟩
theorem wrap8_of {x : Int} (h : 0 ≤ x) (k : x ≤ 255) : IntKind.u8.wrap x = x := by
  have e1 : ((2 : Int) ^ IntKind.u8.bits) = 256 := by decide
  simp only [IntKind.wrap, e1, IntKind.signed, Bool.false_and, Bool.false_eq_true, if_false]
  omega
theorem strOfNums_size' (l : List Int) : (strOfNums l).size = l.length := by simp [strOfNums, ByteArray.size]
/-- The entry of a number. -/
def entryL (n : Int) : ByteArray := strOfNums [97 + (pickL n 676).tmod 26] ++ (strOfNums [97 + (pickL n 676).tdiv 26]).extract 0 ((pickL n 676).tmod 2).toNat
theorem entry_size (n : Int) : (entryL n).size ≤ 2 := by
  unfold entryL
  rw [ByteArray.size_append, ByteArray.size_extract, strOfNums_size', strOfNums_size']
  simp; omega
theorem entry_51 (n : Int) (h : H) (hn : i64Ok n) : T.call 51 [.sc (.int .i64 n)] h = some (.sc (.string (entryL n)), h) := by
  obtain ⟨p1, p2⟩ := pickL_lt n 676 (by decide)
  rw [k_D C18 rfl func51 (body := _) rfl (by decide +kernel) (args' := [.sc (.int .i64 n)]) (h1 := h) (by simp [f51]) (by simp)]
  have hp : ∀ h, T.call 53 [.sc (.int .i64 n), .sc (.int .i64 676)] h = some (.sc (.int .i64 (pickL n 676)), h) := fun h => pick_53 n 676 h (by decide) hn
  unfold entryL
  generalize pickL n 676 = c at p1 p2 hp
  have q1 : 0 ≤ c.tmod 26 ∧ c.tmod 26 < 26 := ⟨Int.tmod_nonneg _ p1, Int.tmod_lt_of_pos _ (by decide)⟩
  have q2 : 0 ≤ c.tdiv 26 ∧ c.tdiv 26 < 26 := ⟨Int.tdiv_nonneg p1 (by decide), by rw [Int.tdiv_eq_ediv_of_nonneg p1]; omega⟩
  have q3 : 0 ≤ c.tmod 2 ∧ c.tmod 2 < 2 := ⟨Int.tmod_nonneg _ p1, Int.tmod_lt_of_pos _ (by decide)⟩
  have w1 : IntKind.i64.wrap (97 + c.tmod 26) = 97 + c.tmod 26 := wrap64_of (by omega) (by omega)
  have w2 : IntKind.i64.wrap (c.tdiv 26) = c.tdiv 26 := wrap64_of (by omega) (by omega)
  have w3 : IntKind.i64.wrap (97 + c.tdiv 26) = 97 + c.tdiv 26 := wrap64_of (by omega) (by omega)
  have w4 : IntKind.u8.wrap (97 + c.tmod 26) = 97 + c.tmod 26 := wrap8_of (by omega) (by omega)
  have w5 : IntKind.u8.wrap (97 + c.tdiv 26) = 97 + c.tdiv 26 := wrap8_of (by omega) (by omega)
  have sl : sliceOp prog 9 (.sc (.string (strOfNums [97 + c.tdiv 26]))) none (some (.sc (.int .i64 (c.tmod 2)))) = .ret (.sc (.string ((strOfNums [97 + c.tdiv 26]).extract 0 (c.tmod 2).toNat))) :=
    slice_str_hi un9 _ _ _ q3.1 (by rw [strOfNums_size']; simp; omega)
  have ct : ∀ x y, binOpV prog .add 9 x y (.sc (.string (strOfNums [97 + c.tmod 26]))) (.sc (.string ((strOfNums [97 + c.tdiv 26]).extract 0 (c.tmod 2).toNat))) = .ret (.sc (.string (strOfNums [97 + c.tmod 26] ++ (strOfNums [97 + c.tdiv 26]).extract 0 (c.tmod 2).toNat))) := fun x y =>
    binOpV_cat 9 x y _ _ (by rw [strOfNums_size', ByteArray.size_extract, strOfNums_size']; simp; omega)
  simp [f51, callVal, callFn, hp, binOpV_rem, binOpV_quo, w1, w2, w3, w4, w5, sl, ct, numsOf]
/-- Strings as rows. -/
def strs (x : List ByteArray) : List (List V) := x.map fun s => [.sc (.string s)]
@[simp] theorem strs_length (x : List ByteArray) : (strs x).length = x.length := by simp [strs]
theorem strs_get (x : List ByteArray) (i : Nat) (h : i < x.length) : (strs x)[i]? = some [.sc (.string x[i])] := by simp [strs, h]
@[simp] theorem strs_getE (x : List ByteArray) (i : Nat) (h : i < (strs x).length) : (strs x)[i] = [.sc (.string (x[i]'(by simpa using h)))] := by simp [strs]
theorem strs_append (x y : List ByteArray) : strs x ++ strs y = strs (x ++ y) := by simp [strs]
theorem strs_take (x : List ByteArray) (n : Nat) : (strs x).take n = strs (x.take n) := by simp [strs, List.map_take]
theorem strs_drop (x : List ByteArray) (n : Nat) : (strs x).drop n = strs (x.drop n) := by simp [strs, List.map_drop]
theorem textsOf_strs (x : List ByteArray) : textsOf (strs x) = some x := by
  induction x with
  | nil => rfl
  | cons a x ih => simp only [strs, List.map_cons, textsOf] at ih ⊢; rw [ih]; rfl
/-- The keys of carriers. -/
def keyL (c : Int) : ByteArray := strOfNums (List.replicate 32 (IntKind.u8.wrap (100 + c)))
def rows1 (l : List V) : List (List V) := l.map fun v => [v]
@[simp] theorem rows1_length (l : List V) : (rows1 l).length = l.length := by simp [rows1]
theorem rows1_take (l : List V) (n : Nat) : (rows1 l).take n = rows1 (l.take n) := by simp [rows1, List.map_take]
theorem rows1_get (l : List V) (i : Nat) (h : i < l.length) : (rows1 l)[i]? = some [l[i]] := by simp [rows1, h]
theorem rows1_set (l : List V) (i : Nat) (v : V) : (rows1 l).set i [v] = rows1 (l.set i v) := by simp [rows1, List.map_set]
theorem key_loop (c x : Int) (hx : IntKind.u8.wrap (IntKind.i64.wrap (100 + c)) = x) : ∀ (d i : Nat) (R : List V), i + d = 32 → R.length = 32 →
    T.code 15 (.loop (lp f15 0)) ⟨envAt 20 [(0, .sc (.int .i64 c)), (3, .sl 0 0 1 0 32), (4, .sc (.int .i64 i))], [.arr 0 0 1 (rows1 R)]⟩ =
      some (.exit 0, ⟨envAt 20 [(0, .sc (.int .i64 c)), (3, .sl 0 0 1 0 32), (4, .sc (.int .i64 32)), (9, .sc (.bool false))], [.arr 0 0 1 (rows1 (R.take i ++ List.replicate d (.sc (.int .u8 x))))]⟩) := by
  intro d
  induction d with
  | zero =>
    intro i R hi hR
    obtain rfl : i = 32 := by omega
    rw [k_loop]
    have : R.take 32 = R := List.take_of_length_le (by omega)
    simp [lp, f15, loopsOf, this]
  | succ d ih =>
    intro i R hi hR
    have key := ih (i + 1) (R.set i (.sc (.int .u8 x))) (by omega) (by simpa using hR)
    have e : (R.set i (V.sc (.int .u8 x))).take (i + 1) ++ List.replicate d (.sc (.int .u8 x)) = R.take i ++ List.replicate (d + 1) (.sc (.int .u8 x)) := by
      rw [List.take_add_one, List.getElem?_set_self (by omega), List.take_set_of_le (by omega)]
      simp [List.replicate_succ]
    rw [e] at key
    generalize hRR : some (Ex.exit 0, (_ : St)) = RR at key ⊢
    have hlt : (i : Int) < 32 := by omega
    have hlt' : i < 32 := by omega
    have hg := rows1_get R i (by omega)
    rw [k_loop]
    simp [lp, f15, loopsOf, hlt, hlt', hg, hx, rows1_set, wrapN i (by omega)]
    exact key
theorem numsOf_reps (n : Nat) (a : Int) : numsOf (rows1 (List.replicate n (.sc (.int .u8 a)))) = some (List.replicate n a) := by
  induction n with
  | zero => rfl
  | succ n ih => simp only [rows1, List.replicate_succ, List.map_cons] at ih ⊢; simp only [numsOf, ih]; rfl
theorem key_15 (c : Int) (h : H) (h1 : -1000 ≤ c) (h2 : c ≤ 1000) : T.call 15 [.sc (.int .i64 c)] h = some (.sc (.string (keyL c)), h) := by
  have hw : IntKind.i64.wrap (100 + c) = 100 + c := wrap64_of (by omega) (by omega)
  rw [k_D C18 rfl func15 (body := _) rfl (by decide +kernel) (args' := [.sc (.int .i64 c)]) (h1 := h) (by simp [f15]) (by simp)]
  have hz : List.replicate 32 [V.sc (.int .u8 0)] = rows1 (List.replicate 32 (.sc (.int .u8 0))) := by simp [rows1]
  simp [f15, -List.reduceReplicate]
  rw [hz]
  generalize hx : T.code 15 (.loop _) _ = y
  obtain rfl := hx.symm.trans (key_loop c _ rfl 32 0 (List.replicate 32 (.sc (.int .u8 0))) rfl (by simp))
  clear hx
  simp [-List.reduceReplicate, hw, numsOf_reps, keyL, rows1_take]
end Go.Rg
/-
  Same, Valid.
-/
namespace Go.Rg
open Go Go.Pv Go.Proofs.Tryz
set_option maxRecDepth 100000
set_option linter.unusedSimpArgs false
set_option maxHeartbeats 4000000
theorem same_loop (a b : List ByteArray) (hl : a.length = b.length) (ha : a.length < 1000000000000) : ∀ (d i : Nat), i + d = a.length → a.take i = b.take i →
    T.code 39 (.loop (lp f39 0)) ⟨envAt 26 [(0, .list 1 (strs a) .no), (1, .list 1 (strs b) .no), (5, .sc (.int .i64 i))], []⟩ =
      if a = b then some (.exit 0, ⟨envAt 26 [(0, .list 1 (strs a) .no), (1, .list 1 (strs b) .no), (5, .sc (.int .i64 a.length)), (14, .sc (.bool false))], []⟩)
      else some (.ret, ⟨envAt 26 [(4, .sc (.bool false))], []⟩) := by
  intro d
  induction d with
  | zero =>
    intro i hi he
    obtain rfl : i = a.length := by omega
    have hab : a = b := by
      rw [List.take_length] at he
      rw [he, hl, List.take_length]
    rw [if_pos hab, k_loop]
    simp [lp, f39, loopsOf]
  | succ d ih =>
    intro i hi he
    have hlt : i < a.length := by omega
    have hltb : i < b.length := by omega
    have ga := strs_get a i hlt
    have gb := strs_get b i hltb
    rw [k_loop]
    by_cases hx : a[i] = b[i]
    · have he' : a.take (i + 1) = b.take (i + 1) := by
        rw [List.take_succ_eq_append_getElem hlt, List.take_succ_eq_append_getElem hltb, he, hx]
      have key := ih (i + 1) (by omega) he'
      generalize hR : (if a = b then some (Ex.exit 0, (_ : St)) else some (.ret, _)) = R at key ⊢
      simp [lp, f39, loopsOf, hlt, hltb, hx, wrapN i (by omega)]
      exact key
    · have hab : ¬ a = b := fun h => hx (by subst h; rfl)
      rw [if_neg hab]
      simp [lp, f39, loopsOf, hlt, hltb, hx]
theorem same_39 (a b : List ByteArray) (ha : a.length < 1000000000000) (h : H) : T.call 39 [.list 1 (strs a) .no, .list 1 (strs b) .no] h = some (.sc (.bool (decide (a = b))), h) := by
  rw [k_D C18 rfl func39 (body := _) rfl (by decide +kernel) (args' := [.list 1 (strs a) .no, .list 1 (strs b) .no]) (h1 := h) (by simp [f39]) (by simp)]
  by_cases hl : a.length = b.length
  · have hl' : (a.length : Int) = b.length := by omega
    simp [f39, hl]
    generalize hx : T.code 39 (.loop _) _ = y
    obtain rfl := hx.symm.trans (same_loop a b hl ha a.length 0 (by omega) rfl)
    clear hx
    by_cases hab : a = b
    · simp [hab]
    · simp [hab]
  · have hab : ¬ a = b := fun h => hl (by rw [h])
    have hl' : ¬ (a.length : Int) = b.length := by omega
    simp [f39, hl, hl', hab]
theorem within_73 (n lo hi : Int) (h : H) : T.call 73 [.sc (.int .i64 n), .sc (.int .i64 lo), .sc (.int .i64 hi)] h = some (.sc (.bool (decide (lo ≤ n) && decide (n ≤ hi))), h) := by
  rw [k_D C18 rfl func73 (body := _) rfl (by decide +kernel) (args' := [.sc (.int .i64 n), .sc (.int .i64 lo), .sc (.int .i64 hi)]) (h1 := h) (by simp [f73]) (by simp)]
  by_cases h1 : lo ≤ n
  · simp [f73, h1]
  · simp [f73, h1]
theorem isKey_63 (s : ByteArray) (h : H) : T.call 63 [.sc (.string s)] h = some (.sc (.bool (decide (s.size = 32))), h) := by
  rw [k_D C18 rfl func63 (body := _) rfl (by decide +kernel) (args' := [.sc (.string s)]) (h1 := h) (by simp [f63]) (by simp)]
  have : decide ((s.size : Int) = 32) = decide (s.size = 32) := by rw [Bool.eq_iff_iff]; simp; omega
  simp [f63, un9]
  omega
theorem long_80 (s : ByteArray) (h : H) : T.call 80 [.sc (.string s)] h = some (.sc (.bool (decide (1000 < s.size))), h) := by
  rw [k_D C18 rfl func80 (body := _) rfl (by decide +kernel) (args' := [.sc (.string s)]) (h1 := h) (by simp [f80]) (by simp)]
  have : decide ((1000 : Int) < s.size) = decide (1000 < s.size) := by rw [Bool.eq_iff_iff]; simp; omega
  simp [f80, un9]
  omega
/-- slices.IndexFunc, from an index on. -/
def idxL (p : ByteArray → Bool) : List ByteArray → Nat → Int
  | [], _ => -1
  | s :: r, i => if p s then (i : Int) else idxL p r (i + 1)
theorem idxL_any (p : ByteArray → Bool) : ∀ (l : List ByteArray) (i : Nat), decide (0 ≤ idxL p l i) = l.any p
  | [], i => rfl
  | s :: r, i => by
    unfold idxL
    cases hp : p s with
    | true => simp [hp]
    | false => simp [hp, ← idxL_any p r (i + 1)]
theorem index_loop (a : List ByteArray) (g : Nat) (p : ByteArray → Bool) (hg : ∀ s ∈ a, ∀ h, T.call g [.sc (.string s)] h = some (.sc (.bool (p s)), h)) (ha : a.length < 1000000000000) : ∀ (d i : Nat), i + d = a.length →
    T.code 111 (.loop (lp f111 0)) ⟨envAt 19 [(0, .list 1 (strs a) .no), (1, .sc (.func (.func g) ⟨[]⟩ ⟨[]⟩)), (7, .sc (.int .i64 a.length)), (8, .sc (.int .i64 i))], []⟩ =
      if (a.drop i).any p then some (.ret, ⟨envAt 19 [(4, .sc (.int .i64 (idxL p (a.drop i) i)))], []⟩)
      else some (.exit 0, ⟨envAt 19 [(0, .list 1 (strs a) .no), (1, .sc (.func (.func g) ⟨[]⟩ ⟨[]⟩)), (7, .sc (.int .i64 a.length)), (8, .sc (.int .i64 a.length)), (9, .sc (.bool false))], []⟩) := by
  intro d
  induction d with
  | zero =>
    intro i hi
    obtain rfl : i = a.length := by omega
    have : a.drop a.length = [] := List.drop_eq_nil_of_le (Nat.le_refl _)
    rw [k_loop, this]
    simp [lp, f111, loopsOf]
  | succ d ih =>
    intro i hi
    have hlt : i < a.length := by omega
    have hc := hg a[i] (List.getElem_mem hlt)
    have hd : a.drop i = a[i] :: a.drop (i + 1) := List.drop_eq_getElem_cons hlt
    have key := ih (i + 1) (by omega)
    rw [hd]
    cases hp : p a[i] with
    | true =>
      rw [hp] at hc
      have e1 : (a[i] :: a.drop (i + 1)).any p = true := by rw [List.any_cons, hp, Bool.true_or]
      have e2 : idxL p (a[i] :: a.drop (i + 1)) i = i := by rw [idxL, if_pos hp]
      rw [if_pos e1, e2, k_loop]
      simp [lp, f111, loopsOf, hlt, callVal, callFn, hc]
    | false =>
      rw [hp] at hc
      have e1 : (a[i] :: a.drop (i + 1)).any p = (a.drop (i + 1)).any p := by rw [List.any_cons, hp, Bool.false_or]
      have e2 : idxL p (a[i] :: a.drop (i + 1)) i = idxL p (a.drop (i + 1)) (i + 1) := by rw [idxL, if_neg (by rw [hp]; simp)]
      rw [e1, e2]
      generalize hR : (if (a.drop (i + 1)).any p = true then some (Ex.ret, (_ : St)) else some (.exit 0, _)) = R at key ⊢
      rw [k_loop]
      simp [lp, f111, loopsOf, hlt, callVal, callFn, hc, wrapN i (by omega)]
      exact key
theorem index_111 (a : List ByteArray) (g : Nat) (p : ByteArray → Bool) (hg : ∀ s ∈ a, ∀ h, T.call g [.sc (.string s)] h = some (.sc (.bool (p s)), h)) (ha : a.length < 1000000000000) (h : H) :
    T.call 111 [.list 1 (strs a) .no, .sc (.func (.func g) ⟨[]⟩ ⟨[]⟩)] h = some (.sc (.int .i64 (idxL p a 0)), h) := by
  rw [k_D C18 rfl func111 (body := _) rfl (by decide +kernel) (args' := [.list 1 (strs a) .no, .sc (.func (.func g) ⟨[]⟩ ⟨[]⟩)]) (h1 := h) (by simp [f111]) (by simp)]
  simp [f111]
  generalize hx : T.code 111 (.loop _) _ = y
  have key := index_loop a g p hg ha a.length 0 (by omega)
  rw [List.drop_zero] at key
  obtain rfl := hx.symm.trans key
  clear hx key
  have hany := idxL_any p a 0
  by_cases hp : a.any p = true
  · rw [if_pos hp]
    simp
  · rw [if_neg hp]
    have hn : ∀ (l : List ByteArray) (i : Nat), l.any p = false → idxL p l i = -1 := by
      intro l
      induction l with
      | nil => intro i _; rfl
      | cons s r ih =>
        intro i hl
        simp only [List.any_cons, Bool.or_eq_false_iff] at hl
        simp [idxL, hl.1, ih (i + 1) hl.2]
    simp [hn a 0 (by simpa using hp)]
theorem contains_81 (a : List ByteArray) (g : Nat) (p : ByteArray → Bool) (hg : ∀ s ∈ a, ∀ h, T.call g [.sc (.string s)] h = some (.sc (.bool (p s)), h)) (ha : a.length < 1000000000000) (h : H) :
    T.call 81 [.list 1 (strs a) .no, .sc (.func (.func g) ⟨[]⟩ ⟨[]⟩)] h = some (.sc (.bool (a.any p)), h) := by
  rw [k_D C18 rfl func81 (body := _) rfl (by decide +kernel) (args' := [.list 1 (strs a) .no, .sc (.func (.func g) ⟨[]⟩ ⟨[]⟩)]) (h1 := h) (by simp [f81]) (by simp)]
  have hc := fun h => index_111 a g p hg ha h
  have hd := idxL_any p a 0
  generalize idxL p a 0 = n at hc hd
  simp [f81, callVal, callFn, hc, hd]
/-- register.Valid. -/
def validL (c : Int) (l : List ByteArray) : Bool := (decide (0 ≤ c) && decide (c ≤ 7)) && decide (l.length ≤ 60) && !(l.any fun s => decide (1000 < s.size))
theorem valid_44 (c : Int) (l : List ByteArray) (hl : l.length < 1000000000000) (h : H) : T.call 44 [.agg [.sc (.int .i64 c), .list 1 (strs l) .no]] h = some (.sc (.bool (validL c l)), h) := by
  rw [k_D C18 rfl func44 (body := _) rfl (by decide +kernel) (args' := [.agg [.sc (.int .i64 c), .list 1 (strs l) .no]]) (h1 := h) (by simp [f44]) (by simp)]
  have hc := fun h => contains_81 l 80 (fun s => decide (1000 < s.size)) (fun s _ h => long_80 s h) hl h
  have hw := fun h => within_73 c 0 7 h
  unfold validL
  generalize (l.any fun s => decide (1000 < s.size)) = B at hc ⊢
  generalize (decide (0 ≤ c) && decide (c ≤ 7)) = A at hw ⊢
  cases A with
  | false => simp [f44, callVal, callFn, hw]
  | true =>
    by_cases hle : l.length ≤ 60
    · have hle' : (l.length : Int) ≤ 60 := by omega
      simp [f44, callVal, callFn, hw, hc, hle, hle']
    · have hle' : ¬ (l.length : Int) ≤ 60 := by omega
      simp [f44, callVal, callFn, hw, hle, hle']
end Go.Rg
/-
  Made.
-/
namespace Go.Rg
open Go Go.Pv Go.Proofs.Tryz
set_option maxRecDepth 100000
set_option linter.unusedSimpArgs false
set_option maxHeartbeats 4000000
def ints (x : List Int) : List (List V) := x.map fun n => [.sc (.int .i64 n)]
@[simp] theorem ints_length (x : List Int) : (ints x).length = x.length := by simp [ints]
theorem ints_get (x : List Int) (i : Nat) (h : i < x.length) : (ints x)[i]? = some [.sc (.int .i64 x[i])] := by simp [ints, h]
@[simp] theorem ints_getE (x : List Int) (i : Nat) (h : i < (ints x).length) : (ints x)[i] = [.sc (.int .i64 (x[i]'(by simpa using h)))] := by simp [ints]
theorem strs_one (s : ByteArray) : [[V.sc (.string s)]] = strs [s] := rfl
theorem app24 (s x : V) : builtinV prog false 24 .append ⟨[24, 24]⟩ [s, x] = (rowsOf x).bind fun ys => if ys.all fun y => y.length = 1 then appendV prog false 9 s ys else .fail :=
  builtin_append (P := prog) un24 (.inl ⟨_, un24⟩) eo9 s x
theorem appT_strs (x : List ByteArray) (s : ByteArray) (id : Nat) (hs : x.length < 1000000000) (h : H) (ho : h[id]? = some (.tail 9 x.length)) :
    (appendV prog false 9 (.list 1 (strs x) (.tail id)) [[.sc (.string s)]]).runT h = some (.list 1 (strs (x ++ [s])) (.tail id), h.set id (.tail 9 (x.length + 1)), [id, id], [id]) := by
  have := append_tail_runT (P := prog) (own := false) (e := 9) (strs x) [[.sc (.string s)]] id (by simp [sizeOk, lim]; omega) h (by simp [ho])
  rw [co9, strs_length, strs_one, strs_append] at this
  rw [strs_one, this]; rfl
theorem app_strs (x : List ByteArray) (s : ByteArray) (id : Nat) (hs : x.length < 1000000000) (h : H) (ho : h[id]? = some (.tail 9 x.length)) :
    (appendV prog false 9 (.list 1 (strs x) (.tail id)) [[.sc (.string s)]]).run h = some (.list 1 (strs (x ++ [s])) (.tail id), h.set id (.tail 9 (x.length + 1))) := by
  have := append_tail_run (P := prog) (own := false) (e := 9) (strs x) [[.sc (.string s)]] id (by simp [sizeOk, lim]; omega) h (by simp [ho])
  rw [co9, strs_length, strs_one, strs_append] at this
  rw [strs_one, this]; rfl
theorem app_nil9 (s : ByteArray) : appendV prog false 9 (.sc (.slice none 0 0)) [[.sc (.string s)]] = .new (.tail 9 1) fun id => .ret (.list 1 (strs [s]) (.tail id)) := by
  have := append_nil_slice (P := prog) (e := 9) [[.sc (.string s)]] rfl (by simp [sizeOk, lim])
  rw [co9] at this; exact this
theorem made_loop (c : Int) (R : List V) (x : List Int) (hx : ∀ n ∈ x, i64Ok n) : ∀ (d i : Nat), 1 ≤ i → i + d = min x.length 12 → 
    T.code 13 (.loop (lp f13 0)) ⟨envAt 31 [(1, .list 1 (ints x) .no), (4, .ref 0 0), (5, .ref 1 0), (6, .sc (.int .i64 i))], [.cells 26 R, .cells 26 [.sc (.int .i64 c), .list 1 (strs ((x.map entryL).take i)) (.tail 2)], .tail 9 i]⟩ =
      some (.exit 0, ⟨envAt 31 [(1, .list 1 (ints x) .no), (4, .ref 0 0), (5, .ref 1 0), (6, .sc (.int .i64 ((min x.length 12 : Nat) : Int))), (17, .sc (.bool false))], [.cells 26 R, .cells 26 [.sc (.int .i64 c), .list 1 (strs ((x.map entryL).take 12)) (.tail 2)], .tail 9 (min x.length 12)]⟩) := by
  intro d
  induction d with
  | zero =>
    intro i hi1 hi
    obtain rfl : i = min x.length 12 := by omega
    by_cases hl : x.length ≤ 12
    · have hm : min x.length 12 = x.length := by omega
      rw [k_loop, hm]
      simp [lp, f13, loopsOf, List.take_of_length_le, hl]
    · have hm : min x.length 12 = 12 := by omega
      have hl2 : (12 : Int) < x.length := by omega
      rw [k_loop, hm]
      simp [lp, f13, loopsOf, hl2]
  | succ d ih =>
    intro i hi1 hi
    have hlt : i < x.length := by omega
    have hlt' : (i : Int) < x.length := by omega
    have h12 : (i : Int) < 12 := by omega
    have hcall : ∀ h, T.call 51 [.sc (.int .i64 x[i])] h = some (.sc (.string (entryL x[i])), h) := fun h => entry_51 _ h (hx _ (List.getElem_mem hlt))
    have hst : ((x.map entryL).take i).length = i := by simp; omega
    have hap := appT_strs ((x.map entryL).take i) (entryL x[i]) 2 (by omega) [.cells 26 R, .cells 26 [.sc (.int .i64 c), .list 1 (strs ((x.map entryL).take i)) (.tail 2)], .tail 9 i] (by simp [hst])
    have hgi := ints_get x i hlt
    have key := ih (i + 1) (by omega) (by omega)
    have e : (x.map entryL).take (i + 1) = (x.map entryL).take i ++ [entryL x[i]] := by
      rw [List.take_add_one, List.getElem?_map, List.getElem?_eq_getElem hlt]; rfl
    rw [e] at key
    rw [hst] at hap
    generalize (x.map entryL).take i = y at hap key
    generalize hR : some (Ex.exit 0, (_ : St)) = RR at key ⊢
    rw [k_loop]
    simp [lp, f13, loopsOf, hlt, hlt', h12, hgi, func51, params51, callHP, isRes, hcall, app24, hap, wrapN i (by omega)]
    exact key
theorem made_start (c : Int) (R : List V) (b : Int) (r : List Int) (hx : ∀ n ∈ b :: r, i64Ok n) : 
    T.code 13 (.loop (lp f13 0)) ⟨envAt 31 [(1, .list 1 (ints (b :: r)) .no), (4, .ref 0 0), (5, .ref 1 0), (6, .sc (.int .i64 0))], [.cells 26 R, .cells 26 [.sc (.int .i64 c), .sc (.slice none 0 0)]]⟩ =
      some (.exit 0, ⟨envAt 31 [(1, .list 1 (ints (b :: r)) .no), (4, .ref 0 0), (5, .ref 1 0), (6, .sc (.int .i64 ((min (b :: r).length 12 : Nat) : Int))), (17, .sc (.bool false))], [.cells 26 R, .cells 26 [.sc (.int .i64 c), .list 1 (strs (((b :: r).map entryL).take 12)) (.tail 2)], .tail 9 (min (b :: r).length 12)]⟩) := by
  have hcall : ∀ h, T.call 51 [.sc (.int .i64 b)] h = some (.sc (.string (entryL b)), h) := fun h => entry_51 _ h (hx _ (by simp))
  have key := made_loop c R (b :: r) hx (min (b :: r).length 12 - 1) 1 (by omega) (by simp; omega)
  have e : ((b :: r).map entryL).take 1 = [entryL b] := by simp
  rw [e] at key
  have hgi := ints_get (b :: r) 0 (by simp)
  generalize hR : some (Ex.exit 0, (_ : St)) = RR at key ⊢
  rw [k_loop]
  simp [lp, f13, loopsOf, hgi, func51, params51, callHP, isRes, hcall, app24, app_nil9]
  exact key
theorem made_13 (c0 : Int) (x : List Int) (h : H) (hc : i64Ok c0) (hx : ∀ n ∈ x, i64Ok n) :
    T.call 13 [.sc (.int .i64 c0), .list 1 (ints x) .no] h = some (.agg [.sc (.int .i64 (pickL c0 8)), .list 1 (strs ((x.map entryL).take 12)) .no], h) := by
  have hp : ∀ h, T.call 53 [.sc (.int .i64 c0), .sc (.int .i64 8)] h = some (.sc (.int .i64 (pickL c0 8)), h) := fun h => pick_53 c0 8 h (by decide) hc
  rw [k_D C18 rfl func13 (body := _) rfl (by decide +kernel) (args' := [.sc (.int .i64 c0), .list 1 (ints x) .no]) (h1 := h) (by simp [f13]) (by simp)]
  simp [f13, callVal, callFn, hp]
  cases x with
  | nil =>
    rw [k_loop]
    simp [strs, ints]
  | cons b r =>
    generalize hy : T.code 13 (.loop _) _ = y
    have key := made_start (pickL c0 8) [.sc (.int .i64 0), .sc (.slice none 0 0)] b r hx
    obtain rfl := hy.symm.trans key
    clear key hy
    simp
end Go.Rg
/-
  Leaf and Node.
-/
namespace Go.Rg
open Go Go.Pv Go.Proofs.Tryz
set_option maxRecDepth 100000
set_option linter.unusedSimpArgs false
set_option maxHeartbeats 4000000
theorem gc_same (n : Nat) (h : H) (hl : h.length ≤ n) : gc n h = h := by
  unfold gc
  rw [List.take_of_length_le hl, ite_self]
def catL (l : List ByteArray) : ByteArray := l.foldr (fun a b => a ++ b) .empty
theorem sumT (s : ByteArray) (hs : s.size < 1000000000) (h : H) : T.call 104 [.sc (.string s)] h = some (.sc (.string (Sha.sum s)), h) := by
  rw [call_prim C18 (p := sumP) rfl]
  simp [sumP, hs, Sha.sumF_eq]
theorem joinT (l : List ByteArray) (hl : l.length < 4) (hs : (l.map (·.size)).sum < 1000000000) (h : H) : T.call 132 [.list 1 (strs l) .no, .sc (.string ⟨⟨[]⟩⟩)] h = some (.sc (.string (catL l)), h) := by
  rw [call_prim C18 (p := joinP) rfl]
  simp [joinP, textsOf_strs, hl, hs, catL]
theorem catL_size : ∀ l : List ByteArray, (catL l).size = (l.map (·.size)).sum
  | [] => rfl
  | a :: l => by simp only [catL, List.foldr_cons, ByteArray.size_append, List.map_cons, List.sum_cons]; rw [← catL_size l]; rfl
theorem marked_131 (m : ByteArray) (l : List ByteArray) (hm : m.size < 10) (hl : l.length < 4) (hs : (l.map (·.size)).sum < 900000000) :
    T.call 131 [.list 1 (strs l) .full, .ref 0 0] [.cells 9 [.sc (.string m)]] = some (.sc (.string (Sha.sum (m ++ catL l))), [.cells 9 [.sc (.string m)]]) := by
  have hc := catL_size l
  have h1 : ∀ h, _ := fun h => joinT l hl (by omega) h
  have h2 : ∀ h, _ := fun h => sumT (m ++ catL l) (by rw [ByteArray.size_append]; omega) h
  have ct : ∀ x y, binOpV prog .add 9 x y (.sc (.string m)) (.sc (.string (catL l))) = .ret (.sc (.string (m ++ catL l))) := fun x y =>
    binOpV_cat 9 x y _ _ (by omega)
  rw [k_R C18 rfl func131 (body := _) rfl (by decide +kernel) (args' := [.list 1 (strs l) .no, .ref 0 0]) (h1 := [.cells 9 [.sc (.string m)]]) (by simp [f131]) (by simp)]
  simp [f131, callHP, func132, params132, func104, params104, h1, h2, ct, isRes, gc_same]
theorem marked_119 (m : ByteArray) (h : H) : T.call 119 [.sc (.string m)] h = some (.fn (.func 131) [] [.ref h.length 0], h ++ [.cells 9 [.sc (.string m)]]) := by
  rw [k_D C18 rfl func119 (body := _) rfl (by decide +kernel) (args' := [.sc (.string m)]) (h1 := h) (by simp [f119]) (by simp)]
  simp [f119, V.shift, Ob.shift, V.shift0, V.shift1]
def leafH (s : ByteArray) : ByteArray := Sha.sum (⟨#[0]⟩ ++ s)
def nodeH (a b : ByteArray) : ByteArray := Sha.sum (⟨#[1]⟩ ++ (a ++ b))
theorem leaf_93 (s : ByteArray) (hs : s.size < 900000000) (h : H) : T.call 93 [.sc (.string s)] h = some (.sc (.string (leafH s)), h) := by
  have hm := marked_131 ⟨#[0]⟩ [s] (by decide) (by simp) (by simpa using hs)
  simp only [strs, List.map_cons, List.map_nil] at hm
  rw [k_D C18 rfl func93 (body := _) rfl (by decide +kernel) (args' := [.sc (.string s)]) (h1 := h) (by simp [f93]) (by simp)]
  simp [f93, callVal, callFn, marked_119, hm, leafH, catL]
theorem node_103 (a b : ByteArray) (hs : a.size + b.size < 900000000) (h : H) : T.call 103 [.sc (.string a), .sc (.string b)] h = some (.sc (.string (nodeH a b)), h) := by
  have hm := marked_131 ⟨#[1]⟩ [a, b] (by decide) (by simp) (by simpa using hs)
  simp only [strs, List.map_cons, List.map_nil] at hm
  rw [k_D C18 rfl func103 (body := _) rfl (by decide +kernel) (args' := [.sc (.string a), .sc (.string b)]) (h1 := h) (by simp [f103]) (by simp)]
  simp [f103, callVal, callFn, marked_119, hm, nodeH, catL]
end Go.Rg
/-
  Root: the stack.
-/
namespace Go.Rg
open Go Go.Pv Go.Proofs.Tryz
set_option maxRecDepth 100000
set_option linter.unusedSimpArgs false
set_option maxHeartbeats 4000000
theorem own24 (s x : V) : builtinV prog true 24 .append ⟨[24, 24]⟩ [s, x] = (rowsOf x).bind fun ys => if ys.all fun y => y.length = 1 then appendV prog true 9 s ys else .fail :=
  builtin_append (P := prog) un24 (.inl ⟨_, un24⟩) eo9 s x
theorem own22 (s x : V) : builtinV prog true 22 .append ⟨[22, 22]⟩ [s, x] = (rowsOf x).bind fun ys => if ys.all fun y => y.length = 1 then appendV prog true 3 s ys else .fail :=
  builtin_append (P := prog) un22 (.inl ⟨_, un22⟩) eo3 s x
theorem ownT9 (xs : List (List V)) (y : V) (id v m : Nat) (h : H) (ho : h[id]? = some (.arr v 0 1 xs)) (hm : m ≤ xs.length) (hs : m < 1000000000) :
    (appendV prog true 9 (.sl id v 1 0 m) [[y]]).runT h = some (.sl id (v + 1) 1 0 (m + 1), h.set id (.arr (v + 1) 0 1 (xs.take m ++ [[y]])), [id, id], [id]) := by
  have hlt : id < h.length := (List.getElem?_eq_some_iff.1 ho).1
  have hs' : m + 1 < 4294967296 := by omega
  simp only [appendV, HP.runT, ho]
  simp [HP.runT, hm, hlt, hs']
theorem ownR9 (xs : List (List V)) (y : V) (id v m : Nat) (h : H) (ho : h[id]? = some (.arr v 0 1 xs)) (hm : m ≤ xs.length) (hs : m < 1000000000) :
    (appendV prog true 9 (.sl id v 1 0 m) [[y]]).run h = some (.sl id (v + 1) 1 0 (m + 1), h.set id (.arr (v + 1) 0 1 (xs.take m ++ [[y]]))) := by
  have hlt : id < h.length := (List.getElem?_eq_some_iff.1 ho).1
  have hs' : m + 1 < 4294967296 := by omega
  simp only [appendV, HP.run, ho]
  simp [HP.run, hm, hlt, hs']
theorem ownT3 (xs : List (List V)) (y : V) (id v m : Nat) (h : H) (ho : h[id]? = some (.arr v 0 1 xs)) (hm : m ≤ xs.length) (hs : m < 1000000000) :
    (appendV prog true 3 (.sl id v 1 0 m) [[y]]).runT h = some (.sl id (v + 1) 1 0 (m + 1), h.set id (.arr (v + 1) 0 1 (xs.take m ++ [[y]])), [id, id], [id]) := by
  have hlt : id < h.length := (List.getElem?_eq_some_iff.1 ho).1
  have hs' : m + 1 < 4294967296 := by omega
  simp only [appendV, HP.runT, ho]
  simp [HP.runT, hm, hlt, hs']
theorem ownR3 (xs : List (List V)) (y : V) (id v m : Nat) (h : H) (ho : h[id]? = some (.arr v 0 1 xs)) (hm : m ≤ xs.length) (hs : m < 1000000000) :
    (appendV prog true 3 (.sl id v 1 0 m) [[y]]).run h = some (.sl id (v + 1) 1 0 (m + 1), h.set id (.arr (v + 1) 0 1 (xs.take m ++ [[y]]))) := by
  have hlt : id < h.length := (List.getElem?_eq_some_iff.1 ho).1
  have hs' : m + 1 < 4294967296 := by omega
  simp only [appendV, HP.run, ho]
  simp [HP.run, hm, hlt, hs']
theorem own9_nil (y : V) : appendV prog true 9 (.sc (.slice none 0 0)) [[y]] = .new (.arr 0 0 1 [[y]]) fun id => .ret (.sl id 0 1 0 1) := by simp [appendV]
theorem own3_nil (y : V) : appendV prog true 3 (.sc (.slice none 0 0)) [[y]] = .new (.arr 0 0 1 [[y]]) fun id => .ret (.sl id 0 1 0 1) := by simp [appendV]
theorem Sha_size (s : ByteArray) : (Sha.sum s).size = 32 := by
  simp [Sha.sum, Sha.sumB, Sha.S8.l, Sha.bytes4, ByteArray.size]
/-- Subtrees, the last one first. -/
abbrev Stk := List (ByteArray × Nat)
def norm1 (b : ByteArray) (q : Nat) : Stk → Stk
  | [] => [(b, q)]
  | (a, p) :: r => if p = q then norm1 (nodeH a b) (2 * q) r else (b, q) :: (a, p) :: r
def pushS (s : Stk) (x : ByteArray) : Stk := norm1 (leafH x) 1 s
def digs (s : Stk) : List ByteArray := (s.map (·.1)).reverse
def cnts (s : Stk) : List Int := (s.map fun e => ((e.2 : Nat) : Int)).reverse
theorem digs_cons (e : ByteArray × Nat) (s : Stk) : digs (e :: s) = digs s ++ [e.1] := by simp [digs]
theorem cnts_cons (e : ByteArray × Nat) (s : Stk) : cnts (e :: s) = cnts s ++ [((e.2 : Nat) : Int)] := by simp [cnts]
@[simp] theorem digs_length (s : Stk) : (digs s).length = s.length := by simp [digs]
@[simp] theorem cnts_length (s : Stk) : (cnts s).length = s.length := by simp [cnts]
def totS (s : Stk) : Nat := (s.map (·.2)).sum
def StkOk (s : Stk) : Prop := ∀ e ∈ s, e.1.size = 32
theorem inner_loop (L i : Int) (l : List (List V)) : ∀ (r : Stk) (b : ByteArray) (q v : Nat), StkOk r → b.size = 32 → totS r + q < 1000000000 → r.length < 1000000000 →
    ∃ v' : Nat, T.code 74 (.loop (lp f74 1)) ⟨envAt 96 [(2, .sc (.string ⟨#[]⟩)), (3, .sl 0 v 1 0 (r.length + 1)), (4, .sl 1 v 1 0 (r.length + 1)), (7, .sc (.int .i64 ((r.length + 1 : Nat) : Int))), (11, .list 1 l .no), (12, .sc (.int .i64 L)), (13, .sc (.int .i64 i))], [.arr v 0 1 (strs (digs r ++ [b])), .arr v 0 1 (ints (cnts r ++ [(q : Int)]))]⟩ =
      some (.exit 2, ⟨envAt 96 [(2, .sc (.string ⟨#[]⟩)), (3, .sl 0 v' 1 0 (norm1 b q r).length), (4, .sl 1 v' 1 0 (norm1 b q r).length), (7, .sc (.int .i64 (((norm1 b q r).length : Nat) : Int))), (11, .list 1 l .no), (12, .sc (.int .i64 L)), (13, .sc (.int .i64 i)), (41, .sc (.bool false))], [.arr v' 0 1 (strs (digs (norm1 b q r))), .arr v' 0 1 (ints (cnts (norm1 b q r)))]⟩) := by
  intro r
  induction r with
  | nil =>
    intro b q v _ _ _ _
    refine ⟨v, ?_⟩
    rw [k_loop]
    simp [lp, f74, loopsOf, norm1, digs, cnts]
  | cons e r ih =>
    intro b q v hs hb ht hl
    obtain ⟨a, p⟩ := e
    have ha : a.size = 32 := hs (a, p) (by simp)
    have hs' : StkOk r := fun e he => hs e (by simp [he])
    obtain ⟨k, hk⟩ : ∃ k, k = r.length := ⟨_, rfl⟩
    obtain ⟨k1, hk1⟩ : ∃ k1, k1 = r.length + 1 := ⟨_, rfl⟩
    obtain ⟨m, hm⟩ : ∃ m, m = r.length + 2 := ⟨_, rfl⟩
    simp only [List.length_cons] at hl ⊢
    have tt : totS ((a, p) :: r) = p + totS r := by simp [totS]
    have c1 : k < m := by omega
    have c2 : k1 < m := by omega
    have c3 : (1 : Int) < m := by omega
    have c4 : k ≤ m := by omega
    have w2 : IntKind.i64.wrap ((m : Int) - 2) = (k : Int) := by rw [wrap64_of] <;> omega
    have w1 : IntKind.i64.wrap ((m : Int) - 1) = (k1 : Int) := by rw [wrap64_of] <;> omega
    have g1 : (strs (digs ((a, p) :: r) ++ [b]))[k]? = some [.sc (.string a)] := by rw [digs_cons]; simp [strs, hk]
    have g2 : (strs (digs ((a, p) :: r) ++ [b]))[k1]? = some [.sc (.string b)] := by rw [digs_cons]; simp [strs, hk1]
    have g3 : (ints (cnts ((a, p) :: r) ++ [(q : Int)]))[k]? = some [.sc (.int .i64 (p : Int))] := by rw [cnts_cons]; simp [ints, hk]
    have g4 : (ints (cnts ((a, p) :: r) ++ [(q : Int)]))[k1]? = some [.sc (.int .i64 (q : Int))] := by rw [cnts_cons]; simp [ints, hk1]
    have t1 : (strs (digs ((a, p) :: r) ++ [b])).take k = strs (digs r) := by rw [digs_cons, strs_take, hk]; simp
    have t2 : (ints (cnts ((a, p) :: r) ++ [(q : Int)])).take k = ints (cnts r) := by rw [cnts_cons, hk]; simp [ints]
    have l1 : (strs (digs ((a, p) :: r) ++ [b])).length = m := by simp; omega
    have l2 : (ints (cnts ((a, p) :: r) ++ [(q : Int)])).length = m := by simp; omega
    rw [show r.length + 1 + 1 = m from by omega]
    generalize hD : strs (digs ((a, p) :: r) ++ [b]) = D at g1 g2 t1 l1 ⊢
    generalize hN : ints (cnts ((a, p) :: r) ++ [(q : Int)]) = N at g3 g4 t2 l2 ⊢
    by_cases hpq : p = q
    · subst hpq
      have en : norm1 b p ((a, p) :: r) = norm1 (nodeH a b) (2 * p) r := by rw [norm1, if_pos rfl]
      have hsz : (nodeH a b).size = 32 := Sha_size _
      obtain ⟨v', key⟩ := ih (nodeH a b) (2 * p) (v + 1) hs' hsz (by omega) (by omega)
      refine ⟨v', ?_⟩
      rw [en]
      have nd : ∀ h, _ := fun h => node_103 a b (by omega) h
      have wp : IntKind.i64.wrap (2 * (p : Int)) = ((2 * p : Nat) : Int) := by rw [wrap64_of] <;> omega
      have a1 := ownT9 D (.sc (.string (nodeH a b))) 0 v k [.arr v 0 1 D, .arr v 0 1 N] rfl (by omega) (by omega)
      have a2 := ownT3 N (.sc (.int .i64 ((2 * p : Nat) : Int))) 1 v k [.arr (v + 1) 0 1 (strs (digs r) ++ [[.sc (.string (nodeH a b))]]), .arr v 0 1 N] rfl (by omega) (by omega)
      rw [t1, show k + 1 = k1 from by omega] at a1
      rw [t2, show k + 1 = k1 from by omega] at a2
      rw [show r.length + 1 = k1 from hk1.symm, ← strs_append, show ints (cnts r ++ [((2 * p : Nat) : Int)]) = ints (cnts r) ++ [[.sc (.int .i64 ((2 * p : Nat) : Int))]] from by simp [ints]] at key
      rw [← strs_one] at key
      generalize ((2 * p : Nat) : Int) = P2 at wp a2 key
      generalize hR : some (Ex.exit 2, (_ : St)) = RR at key ⊢
      rw [k_loop]
      simp [lp, f74, loopsOf, c1, c2, c3, c4, w1, w2, g1, g2, g3, g4, wp, callHP, func103, params103, nd, isRes, own24, own22, a1, a2]
      exact key
    · have en : norm1 b q ((a, p) :: r) = (b, q) :: (a, p) :: r := by rw [norm1, if_neg hpq]
      refine ⟨v, ?_⟩
      have hpq' : ¬ (p : Int) = q := by omega
      have d1 : strs (digs ((b, q) :: (a, p) :: r)) = D := by rw [digs_cons]; exact hD
      have d2 : ints (cnts ((b, q) :: (a, p) :: r)) = N := by rw [cnts_cons]; exact hN
      rw [en, d1, d2, show ((b, q) :: (a, p) :: r).length = m from by simp; omega]
      rw [k_loop]
      simp [lp, f74, loopsOf, c1, c2, c3, c4, w1, w2, g1, g2, g3, g4, hpq, hpq']
end Go.Rg
/-
  Root: all leaves.
-/
namespace Go.Rg
open Go Go.Pv Go.Proofs.Tryz
set_option maxRecDepth 100000
set_option linter.unusedSimpArgs false
set_option maxHeartbeats 4000000
theorem norm1_ok : ∀ (r : Stk) (b : ByteArray) (q : Nat), StkOk r → b.size = 32 → StkOk (norm1 b q r) ∧ totS (norm1 b q r) = totS r + q ∧ norm1 b q r ≠ [] ∧ (norm1 b q r).length ≤ r.length + 1
  | [], b, q, _, hb => by
    refine ⟨?_, by simp [norm1, totS], by simp [norm1], by simp [norm1]⟩
    intro e he
    simp only [norm1, List.mem_singleton] at he
    subst he; exact hb
  | (a, p) :: r, b, q, hs, hb => by
    have hs' : StkOk r := fun e he => hs e (by simp [he])
    by_cases hpq : p = q
    · rw [norm1, if_pos hpq]
      obtain ⟨h1, h2, h3, h4⟩ := norm1_ok r (nodeH a b) (2 * q) hs' (Sha_size _)
      refine ⟨h1, ?_, h3, by simp; omega⟩
      rw [h2]; simp [totS]; omega
    · rw [norm1, if_neg hpq]
      refine ⟨?_, by simp [totS]; omega, by simp, by simp⟩
      intro e he
      simp only [List.mem_cons] at he
      rcases he with rfl | rfl | he
      · exact hb
      · exact hs _ (by simp)
      · exact hs' e he
theorem pushS_ok (s : Stk) (x : ByteArray) (h : StkOk s) : StkOk (pushS s x) ∧ totS (pushS s x) = totS s + 1 ∧ pushS s x ≠ [] ∧ (pushS s x).length ≤ s.length + 1 :=
  norm1_ok s (leafH x) 1 h (Sha_size _)
theorem outer_loop (l : List ByteArray) (hl : ∀ x ∈ l, x.size < 900000000) (hn : l.length < 1000000000) : ∀ (d i : Nat) (s : Stk) (v : Nat), i + d = l.length → StkOk s → totS s = i → s.length ≤ i → s ≠ [] →
    ∃ v' : Nat, T.code 74 (.loop (lp f74 0)) ⟨envAt 96 [(2, .sc (.string ⟨#[]⟩)), (3, .sl 0 v 1 0 s.length), (4, .sl 1 v 1 0 s.length), (11, .list 1 (strs l) .no), (12, .sc (.int .i64 (l.length : Int))), (13, .sc (.int .i64 i))], [.arr v 0 1 (strs (digs s)), .arr v 0 1 (ints (cnts s))]⟩ =
      some (.exit 0, ⟨envAt 96 [(2, .sc (.string ⟨#[]⟩)), (3, .sl 0 v' 1 0 ((l.drop i).foldl pushS s).length), (4, .sl 1 v' 1 0 ((l.drop i).foldl pushS s).length), (11, .list 1 (strs l) .no), (12, .sc (.int .i64 (l.length : Int))), (13, .sc (.int .i64 (l.length : Int))), (14, .sc (.bool false))], [.arr v' 0 1 (strs (digs ((l.drop i).foldl pushS s))), .arr v' 0 1 (ints (cnts ((l.drop i).foldl pushS s)))]⟩) := by
  intro d
  induction d with
  | zero =>
    intro i s v hi _ _ _ _
    obtain rfl : i = l.length := by omega
    refine ⟨v, ?_⟩
    rw [k_loop, List.drop_length]
    simp [lp, f74, loopsOf]
  | succ d ih =>
    intro i s v hi hs ht hle hne
    have hlt : i < l.length := by omega
    have hx := hl l[i] (List.getElem_mem hlt)
    have hd : l.drop i = l[i] :: l.drop (i + 1) := List.drop_eq_getElem_cons hlt
    obtain ⟨p1, p2, p3, p4⟩ := pushS_ok s l[i] hs
    obtain ⟨v1, kin⟩ := inner_loop (l.length : Int) (i : Int) (strs l) s (leafH l[i]) 1 (v + 1) hs (Sha_size _) (by omega) (by omega)
    obtain ⟨v2, key⟩ := ih (i + 1) (pushS s l[i]) v1 (by omega) p1 (by omega) (by omega) p3
    refine ⟨v2, ?_⟩
    rw [hd, List.foldl_cons]
    have hg := strs_get l i hlt
    have lf : ∀ h, _ := fun h => leaf_93 l[i] hx h
    have d1 : strs (digs s ++ [leafH l[i]]) = strs (digs s) ++ [[.sc (.string (leafH l[i]))]] := by rw [strs_one, strs_append]
    have d2 : ints (cnts s ++ [((1 : Nat) : Int)]) = ints (cnts s) ++ [[.sc (.int .i64 1)]] := by simp [ints]
    rw [d1, d2] at kin
    have t1 : (strs (digs s)).take s.length = strs (digs s) := List.take_of_length_le (by simp)
    have t2 : (ints (cnts s)).take s.length = ints (cnts s) := List.take_of_length_le (by simp)
    have a1 := ownR9 (strs (digs s)) (.sc (.string (leafH l[i]))) 0 v s.length [.arr v 0 1 (strs (digs s)), .arr v 0 1 (ints (cnts s))] rfl (by simp) (by omega)
    have a2 := ownR3 (ints (cnts s)) (.sc (.int .i64 1)) 1 v s.length [.arr (v + 1) 0 1 (strs (digs s) ++ [[.sc (.string (leafH l[i]))]]), .arr v 0 1 (ints (cnts s))] rfl (by simp) (by omega)
    rw [t1] at a1
    rw [t2] at a2
    change T.code 74 (.loop (lp f74 1)) _ = _ at kin
    rw [show norm1 (leafH l[i]) 1 s = pushS s l[i] from rfl] at kin
    generalize pushS s l[i] = s' at kin key p1 p2 p3 p4 ⊢
    obtain ⟨m, hm⟩ : ∃ m, m = s.length + 1 := ⟨_, rfl⟩
    rw [← hm] at kin a1 a2
    generalize strs (digs s) ++ [[V.sc (Value.string (leafH l[i]))]] = D at kin a1 a2
    generalize ints (cnts s) ++ [[V.sc (Value.int IntKind.i64 1)]] = N at kin a2
    generalize hR : some (Ex.exit 0, (_ : St)) = RR at key ⊢
    rw [k_loop]
    simp [lp, f74, loopsOf, hlt, hg, lf, own24, own22, a1, a2, callVal, callFn]
    generalize hy : T.code 74 (.loop _) _ = y
    obtain rfl := hy.symm.trans kin
    clear hy
    simp [wrapN i (by omega)]
    exact key
end Go.Rg
/-
  Root.
-/
namespace Go.Rg
open Go Go.Pv Go.Proofs.Tryz
set_option maxRecDepth 100000
set_option linter.unusedSimpArgs false
set_option maxHeartbeats 4000000
theorem gc_get (n : Nat) (h : H) (i : Nat) (hi : i < n) : (gc n h)[i]? = h[i]? := by
  unfold gc
  split
  · rw [List.getElem?_take]; simp [hi]
  · rfl
theorem back_loop (yid id : Nat) (xs : List ByteArray) (hs : Nat → H) (hx : xs.length < 1000000000)
    (hy : ∀ (i : Nat) (hi : i < xs.length), yieldV T yid [.sc (.int .i64 (i : Int)), .sc (.string xs[i])] (hs (i + 1)) = some (.sc (.bool true), hs i))
    (hb : ∀ i, i ≤ xs.length → (hs i)[id]? = some (.cells 24 [.list 1 (strs xs) .no])) : ∀ (i : Nat), i ≤ xs.length →
    T.code 126 (.loop (lp f126 0)) ⟨envAt 19 [(0, .yld yid), (1, .ref id 0), (3, .sc (.int .i64 ((i : Int) - 1)))], hs i⟩ =
      some (.exit 0, ⟨envAt 19 [(0, .yld yid), (1, .ref id 0), (3, .sc (.int .i64 (-1))), (8, .sc (.bool false))], hs 0⟩) := by
  intro i
  induction i with
  | zero =>
    intro _
    rw [k_loop]
    simp [lp, f126, loopsOf]
  | succ i ih =>
    intro hi
    have key := ih (by omega)
    have hlt : i < xs.length := by omega
    have hy1 := hy i hlt
    have hb1 := hb (i + 1) hi
    have hg := strs_get xs i hlt
    have w1 : IntKind.i64.wrap ((i : Int) - 1) = (i : Int) - 1 := by rw [wrap64_of] <;> omega
    have e1 : (((i + 1 : Nat) : Int) - 1) = (i : Int) := by omega
    rw [e1]
    generalize hR : some (Ex.exit 0, (_ : St)) = RR at key ⊢
    rw [k_loop]
    simp [lp, f126, loopsOf, hb1, hg, hlt, callVal, hy1, w1]
    exact key
theorem back_105 (xs : List ByteArray) (h : H) : T.call 105 [.list 1 (strs xs) .no] h = some (.fn (.func 126) [] [.ref h.length 0], h ++ [.cells 24 [.list 1 (strs xs) .no]]) := by
  rw [k_D C18 rfl func105 (body := _) rfl (by decide +kernel) (args' := [.list 1 (strs xs) .no]) (h1 := h) (by simp [f105]) (by simp)]
  simp [f105, V.shift, Ob.shift, V.shift0, V.shift1]
theorem back_105s (id ver wm k : Nat) (D : List (List V)) (xs : List ByteArray) (h : H) (ho : h[id]? = some (.arr ver wm 1 D)) (hk : k ≤ D.length) (ht : D.take k = strs xs) :
    T.call 105 [.sl id ver 1 0 k] h = some (.fn (.func 126) [] [.ref h.length 0], h.set id (.arr ver (max wm k) 1 D) ++ [.cells 24 [.list 1 (strs xs) .no]]) := by
  have hlt : id < h.length := (List.getElem?_eq_some_iff.1 ho).1
  rw [k_D C18 rfl func105 (body := _) rfl (by decide +kernel) (args' := [.list 1 (strs xs) .no]) (h1 := h.set id (.arr ver (max wm k) 1 D)) (by simp [f105]; simp only [HP.run, ho]; simp [hk, ht, hlt, HP.run]) (by simp)]
  simp [f105, V.shift, Ob.shift, V.shift0, V.shift1]
theorem back_126 (yid id : Nat) (xs : List ByteArray) (hs : Nat → H) (hx : xs.length < 1000000000)
    (hy : ∀ (i : Nat) (hi : i < xs.length), yieldV T yid [.sc (.int .i64 (i : Int)), .sc (.string xs[i])] (hs (i + 1)) = some (.sc (.bool true), hs i))
    (hb : ∀ i, i ≤ xs.length → (hs i)[id]? = some (.cells 24 [.list 1 (strs xs) .no])) (hl : (hs 0).length = (hs xs.length).length) :
    T.call 126 [.yld yid, .ref id 0] (hs xs.length) = some (.tup [], hs 0) := by
  have key := back_loop yid id xs hs hx hy hb xs.length (Nat.le_refl _)
  have h0 := hb xs.length (Nat.le_refl _)
  have w1 : IntKind.i64.wrap ((xs.length : Int) - 1) = (xs.length : Int) - 1 := by rw [wrap64_of] <;> omega
  rw [k_R C18 rfl func126 (body := _) rfl (by decide +kernel) (args' := [.yld yid, .ref id 0]) (h1 := hs xs.length) (by simp [f126]) (by simp)]
  simp [f126, h0, w1]
  generalize hz : T.code 126 (.loop _) _ = y
  obtain rfl := hz.symm.trans key
  clear hz
  simp [gc_same, hl]
theorem first_step (l : List ByteArray) (b : ByteArray) (hb : b.size < 900000000) (hn : l.length < 1000000000) : ∃ v : Nat,
    T.code 74 (.loop (lp f74 0)) ⟨envAt 96 [(2, .sc (.string ⟨#[]⟩)), (3, .sc (.slice none 0 0)), (4, .sc (.slice none 0 0)), (11, .list 1 (strs (b :: l)) .no), (12, .sc (.int .i64 ((b :: l).length : Int))), (13, .sc (.int .i64 0))], []⟩ =
      T.code 74 (.loop (lp f74 0)) ⟨envAt 96 [(2, .sc (.string ⟨#[]⟩)), (3, .sl 0 v 1 0 (pushS [] b).length), (4, .sl 1 v 1 0 (pushS [] b).length), (11, .list 1 (strs (b :: l)) .no), (12, .sc (.int .i64 ((b :: l).length : Int))), (13, .sc (.int .i64 ((1 : Nat) : Int)))], [.arr v 0 1 (strs (digs (pushS [] b))), .arr v 0 1 (ints (cnts (pushS [] b)))]⟩ := by
  obtain ⟨v1, kin⟩ := inner_loop ((b :: l).length : Int) 0 (strs (b :: l)) [] (leafH b) 1 0 (fun e he => by simp at he) (Sha_size _) (by decide) (by decide)
  refine ⟨v1, ?_⟩
  have hg : ∀ h : 0 < (strs (b :: l)).length, (strs (b :: l))[0]'h = [.sc (.string b)] := fun _ => rfl
  have lf : ∀ h, _ := fun h => leaf_93 b hb h
  have hlt : (0 : Int) < ((b :: l).length : Int) := by simp
  have hSl : 0 < (strs (b :: l)).length := by simp
  rw [show norm1 (leafH b) 1 [] = pushS [] b from rfl, show strs (digs [] ++ [leafH b]) = [[.sc (.string (leafH b))]] from rfl, show ints (cnts [] ++ [((1 : Nat) : Int)]) = [[.sc (.int .i64 1)]] from rfl] at kin
  generalize pushS [] b = s' at kin ⊢
  generalize ((b :: l).length : Int) = L at kin hlt ⊢
  generalize strs (b :: l) = S at kin hg hSl ⊢
  change T.code 74 (.loop (lp f74 1)) ⟨envAt 96 [(2, .sc (.string ⟨#[]⟩)), (3, .sl 0 0 1 0 1), (4, .sl 1 0 1 0 1), (7, .sc (.int .i64 1)), _, _, _], _⟩ = _ at kin
  generalize hR : T.code 74 _ ⟨envAt 96 [_, (3, .sl 0 v1 1 0 _), _, _, _, _], _⟩ = RR
  rw [k_loop]
  simp [lp, f74, loopsOf, hlt, hg, hSl, lf, own24, own22, own9_nil, own3_nil, callVal, callFn]
  generalize hy : T.code 74 (.loop _) _ = y
  obtain rfl := hy.symm.trans kin
  clear hy
  simp
  exact hR
/-- digest.Root. -/
def rootH (l : List ByteArray) : ByteArray :=
  match l.foldl pushS [] with
  | [] => Sha.sum ⟨#[]⟩
  | (d, _) :: r => r.foldl (fun d e => nodeH e.1 d) d
theorem fold_ok : ∀ (l : List ByteArray) (s : Stk), StkOk s → s ≠ [] → StkOk (l.foldl pushS s) ∧ l.foldl pushS s ≠ [] ∧ (l.foldl pushS s).length ≤ s.length + l.length
  | [], s, h, hn => ⟨h, hn, by simp⟩
  | x :: l, s, h, _ => by
    obtain ⟨p1, _, p3, p4⟩ := pushS_ok s x h
    obtain ⟨q1, q2, q3⟩ := fold_ok l (pushS s x) p1 p3
    exact ⟨q1, q2, by simp only [List.foldl_cons, List.length_cons]; omega⟩
theorem root_74 (l : List ByteArray) (hl : ∀ x ∈ l, x.size < 900000000) (hn : l.length < 1000000000) (h : H) :
    T.call 74 [.list 1 (strs l) .no] h = some (.sc (.string (rootH l)), h) := by
  rw [k_D C18 rfl func74 (body := _) rfl (by decide +kernel) (args' := [.list 1 (strs l) .no]) (h1 := h) (by simp [f74]) (by simp)]
  cases l with
  | nil =>
    have h0 : ∀ h, _ := fun h => sumT ⟨#[]⟩ (by decide) h
    simp [f74]
    rw [k_loop]
    simp [callVal, callFn, h0, rootH]
  | cons b l =>
    simp [f74]
    generalize hy : T.code 74 (.loop _) _ = y
    obtain ⟨v, h1⟩ := first_step l b (hl b (by simp)) (by simp at hn; omega)
    obtain ⟨p1, p2, p3, p4⟩ := pushS_ok [] b (fun e he => by simp at he)
    obtain ⟨v', key⟩ := outer_loop (b :: l) hl hn l.length 1 (pushS [] b) v (by simp; omega) p1 (by rw [p2]; rfl) p4 p3
    have h2 := h1.trans key
    rw [List.drop_one, List.tail_cons] at h2
    obtain rfl := hy.symm.trans h2
    clear hy h1 h2 key
    obtain ⟨q1, q2, q3⟩ := fold_ok l (pushS [] b) p1 p3
    have hroot : rootH (b :: l) = match l.foldl pushS (pushS [] b) with | [] => Sha.sum ⟨#[]⟩ | (d, _) :: r => r.foldl (fun d e => nodeH e.1 d) d := rfl
    rw [hroot]
    generalize l.foldl pushS (pushS [] b) = s at q1 q2 q3 ⊢
    cases s with
    | nil => exact absurd rfl q2
    | cons e r =>
      obtain ⟨d, c⟩ := e
      simp only []
      have hr : r.length < 1000000000 := by simp at q3 p4 hn; omega
      obtain ⟨k, hk⟩ : ∃ k, k = r.length := ⟨_, rfl⟩
      obtain ⟨m, hm⟩ : ∃ m, m = r.length + 1 := ⟨_, rfl⟩
      rw [show ((d, c) :: r).length = m from by simp [hm]]
      have g1 : (strs (digs ((d, c) :: r)))[k]? = some [.sc (.string d)] := by rw [digs_cons]; simp [strs, hk]
      have t1 : (strs (digs ((d, c) :: r))).take k = strs (digs r) := by rw [digs_cons, strs_take, hk]; simp
      have w1 : IntKind.i64.wrap ((m : Int) - 1) = (k : Int) := by rw [wrap64_of] <;> omega
      have c1 : k < m := by omega
      have c4 : k ≤ m := by omega
      have c0 : ¬ (m : Int) = 0 := by omega
      have c0' : ¬ m = 0 := by omega
      have l1 : (strs (digs ((d, c) :: r))).length = m := by simp [hm]
      generalize strs (digs ((d, c) :: r)) = D at g1 t1 l1 ⊢
      generalize ints (cnts ((d, c) :: r)) = N
      have g1' : ∀ h : k < D.length, D[k]'h = [.sc (.string d)] := fun h => by rw [List.getElem?_eq_getElem h] at g1; exact Option.some.inj g1
      have b5 := back_105s 0 v' 0 k D (digs r) [.arr v' 0 1 D, .arr v' 0 1 N, .cells 9 [.sc (.string d)]] rfl (by omega) t1
      simp [g1, g1', t1, b5, rangeV, w1, c1, c4, c0, c0', l1, callVal, callFn, back_105]

      generalize hL : Ob.loop .ready none 74 _ _ _ _ = L
      generalize Ob.arr v' k 1 D = A
      generalize Ob.arr v' 0 1 N = B
      have hxs : ∀ x ∈ digs r, x.size = 32 := by
        intro x hx
        simp only [digs, List.mem_reverse, List.mem_map] at hx
        obtain ⟨e, he, rfl⟩ := hx
        exact q1 e (by simp [he])
      have hd32 : d.size = 32 := q1 (d, c) (by simp)
      have hsize : ∀ (l : List ByteArray) (d : ByteArray), d.size = 32 → (l.foldl (fun d x => nodeH x d) d).size = 32 := by
        intro l
        induction l with
        | nil => intro d hd; exact hd
        | cons x l ih => intro d _; exact ih _ (Sha_size _)
      let dv : Nat → ByteArray := fun i => ((digs r).drop i).reverse.foldl (fun d x => nodeH x d) d
      have dv0 : dv 0 = r.foldl (fun d e => nodeH e.1 d) d := by
        show ((digs r).drop 0).reverse.foldl (fun d x => nodeH x d) d = _
        rw [List.drop_zero, digs, List.reverse_reverse, List.foldl_map]
      have dvn : dv (digs r).length = d := by
        show ((digs r).drop (digs r).length).reverse.foldl (fun d x => nodeH x d) d = d
        rw [List.drop_length]; rfl
      have dvs : ∀ (i : Nat) (hi : i < (digs r).length), dv i = nodeH (digs r)[i] (dv (i + 1)) := by
        intro i hi
        show ((digs r).drop i).reverse.foldl (fun d x => nodeH x d) d = _
        rw [List.drop_eq_getElem_cons hi, List.reverse_cons, List.foldl_append]; rfl
      have dv32 : ∀ i, (dv i).size = 32 := fun i => hsize _ _ hd32
      have key := back_126 4 3 (digs r) (fun i => [A, B, .cells 9 [.sc (.string (dv i))], .cells 24 [.list 1 (strs (digs r)) .no], L]) (by simpa using hr) (by
        intro i hi
        have nd : ∀ h, _ := fun h => node_103 (digs r)[i] (dv (i + 1)) (by rw [dv32, hxs _ (List.getElem_mem hi)]; decide) h
        rw [dvs i hi]
        subst hL
        simp [yieldV, callVal, callFn, nd, setParams, jumpOf, gc_same]) (fun i hi => rfl) rfl
      rw [dvn, dv0] at key
      change (top C18).call 126 _ _ = _ at key
      rw [key]
      subst hL
      simp [gc_get]
end Go.Rg
/-
  PutInt.
-/
namespace Go.Rg
open Go Go.Pv Go.Proofs.Tryz
set_option maxRecDepth 100000
set_option linter.unusedSimpArgs false
set_option maxHeartbeats 4000000
theorem u64_nat (u : Nat) (h : u < 18446744073709551616) : IntKind.u64.wrap (u : Int) = (u : Int) := by
  have e1 : ((2 : Int) ^ IntKind.u64.bits) = 18446744073709551616 := by decide
  simp only [IntKind.wrap, e1, IntKind.signed, Bool.false_and, Bool.false_eq_true, if_false]
  omega
theorem bits64 : IntKind.u64.bits = 64 := rfl
theorem and127 (u : Nat) (h : u < 18446744073709551616) : IntKind.u64.wrap (BitVec.ofInt IntKind.u64.bits (u : Int) &&& BitVec.ofInt IntKind.u64.bits 127).toNat = ((u % 128 : Nat) : Int) := by
  have e : (BitVec.ofInt IntKind.u64.bits (u : Int) &&& BitVec.ofInt IntKind.u64.bits 127).toNat = u % 128 := by
    rw [BitVec.toNat_and]
    have h1 : (BitVec.ofInt IntKind.u64.bits (u : Int)).toNat = u := by
      rw [bits64, BitVec.toNat_ofInt]; omega
    have h2 : (BitVec.ofInt IntKind.u64.bits 127).toNat = 2 ^ 7 - 1 := by decide
    rw [h1, h2, Nat.and_two_pow_sub_one_eq_mod]
  rw [e, u64_nat _ (by omega)]
theorem or128 (g : Nat) (h : g < 128) : IntKind.u8.wrap (BitVec.ofInt IntKind.u8.bits (g : Int) ||| BitVec.ofInt IntKind.u8.bits 128).toNat = ((g + 128 : Nat) : Int) := by
  have key : ∀ g : Fin 128, IntKind.u8.wrap (BitVec.ofInt IntKind.u8.bits ((g : Nat) : Int) ||| BitVec.ofInt IntKind.u8.bits 128).toNat = (((g : Nat) + 128 : Nat) : Int) := by decide +kernel
  exact key ⟨g, h⟩
theorem shr7 (u : Nat) : (u : Int).fdiv (2 ^ min (7 : Int).toNat IntKind.u64.bits) = ((u / 128 : Nat) : Int) := by
  have e : ((2 : Int) ^ min (7 : Int).toNat IntKind.u64.bits) = 128 := by decide
  rw [e, Int.fdiv_eq_ediv_of_nonneg _ (by decide)]
  omega
def zz (n : Int) : Nat := if n < 0 then (-2 * n - 1).toNat else (2 * n).toNat
def okInt (n : Int) : Prop := -4611686018427387903 ≤ n ∧ n ≤ 4611686018427387903
theorem zz_lt (n : Int) (h : okInt n) : zz n < 9223372036854775808 := by
  obtain ⟨h1, h2⟩ := h
  unfold zz; split <;> omega
theorem zz_eq (n : Int) (h : okInt n) : IntKind.u64.wrap (BitVec.ofInt IntKind.u64.bits (IntKind.u64.wrap (IntKind.u64.wrap n * 2 ^ min (1 : Int).toNat IntKind.u64.bits)) ^^^ BitVec.ofInt IntKind.u64.bits (IntKind.u64.wrap (n.fdiv (2 ^ min (63 : Int).toNat IntKind.i64.bits)))).toNat = ((zz n : Nat) : Int) := by
  obtain ⟨h1, h2⟩ := h
  have e1 : ((2 : Int) ^ IntKind.u64.bits) = 18446744073709551616 := by decide
  have e2 : ((2 : Int) ^ min (1 : Int).toNat IntKind.u64.bits) = 2 := by decide
  have e3 : ((2 : Int) ^ min (63 : Int).toNat IntKind.i64.bits) = 9223372036854775808 := by decide
  have hw : ∀ x : Int, IntKind.u64.wrap x = x % 18446744073709551616 := by
    intro x
    simp only [IntKind.wrap, e1, IntKind.signed, Bool.false_and, Bool.false_eq_true, if_false]
  rw [e2, e3, Int.fdiv_eq_ediv_of_nonneg _ (by decide), hw n, hw (n / 9223372036854775808), hw (n % 18446744073709551616 * 2), bits64, BitVec.toNat_xor]
  rw [BitVec.toNat_ofInt, BitVec.toNat_ofInt]
  unfold zz
  by_cases hn : n < 0
  · rw [if_pos hn]
    have a1 : (n % 18446744073709551616 * 2 % 18446744073709551616 % ((2 ^ 64 : Nat) : Int)).toNat = (2 * n + 18446744073709551616).toNat := by omega
    have a2 : (n / 9223372036854775808 % 18446744073709551616 % ((2 ^ 64 : Nat) : Int)).toNat = 2 ^ 64 - 1 := by omega
    rw [a1, a2]
    have hlt : (2 * n + 18446744073709551616).toNat < 2 ^ 64 := by omega
    have a3 : (2 * n + 18446744073709551616).toNat ^^^ (2 ^ 64 - 1) = 2 ^ 64 - 1 - (2 * n + 18446744073709551616).toNat := by
      have := BitVec.toNat_not (x := BitVec.ofNat 64 (2 * n + 18446744073709551616).toNat)
      rw [BitVec.not_def, BitVec.toNat_xor, BitVec.toNat_allOnes, BitVec.toNat_ofNat, Nat.mod_eq_of_lt hlt, Nat.xor_comm] at this
      exact this
    rw [a3, u64_nat _ (by omega)]
    omega
  · rw [if_neg hn]
    have a1 : (n % 18446744073709551616 * 2 % 18446744073709551616 % ((2 ^ 64 : Nat) : Int)).toNat = (2 * n).toNat := by omega
    have a2 : (n / 9223372036854775808 % 18446744073709551616 % ((2 ^ 64 : Nat) : Int)).toNat = 0 := by omega
    rw [a1, a2, Nat.xor_zero, u64_nat _ (by omega)]
/-- Groups of seven bits, the lowest first. -/
def grp (u : Nat) : List Int := if h : u < 128 then [(u : Int)] else ((u % 128 + 128 : Nat) : Int) :: grp (u / 128)
termination_by u
decreasing_by omega
theorem grp_ne (u : Nat) : grp u ≠ [] := by
  rw [grp]; split <;> simp
def byteRows (l : List Int) : List (List V) := l.map fun n => [.sc (.int .u8 n)]
@[simp] theorem byteRows_length (l : List Int) : (byteRows l).length = l.length := by simp [byteRows]
theorem byteRows_append (a b : List Int) : byteRows a ++ byteRows b = byteRows (a ++ b) := by simp [byteRows]
theorem numsOf_bytes : ∀ l : List Int, numsOf (byteRows l) = some l
  | [] => rfl
  | a :: l => by simp only [byteRows, List.map_cons, numsOf]; rw [← byteRows, numsOf_bytes l]; rfl
theorem app88 (s x : V) : builtinV prog false 88 .append ⟨[88, 88]⟩ [s, x] = (rowsOf x).bind fun ys => if ys.all fun y => y.length = 1 then appendV prog false 5 s ys else .fail :=
  builtin_append (P := prog) un88 (.inl ⟨_, un88⟩) eo5 s x
theorem app88s (s x : V) : builtinV prog false 88 .append ⟨[88, 9]⟩ [s, x] = (rowsOf x).bind fun ys => if ys.all fun y => y.length = 1 then appendV prog false 5 s ys else .fail :=
  builtin_append (P := prog) un88 (.inr un9) eo5 s x
theorem app_bytes (x y : List Int) (id : Nat) (hs : x.length + y.length < 1000000000) (h : H) (ho : h[id]? = some (.tail 5 x.length)) :
    (appendV prog false 5 (.list 1 (byteRows x) (.tail id)) (byteRows y)).run h = some (.list 1 (byteRows (x ++ y)) (.tail id), h.set id (.tail 5 (x.length + y.length))) := by
  have := append_tail_run (P := prog) (own := false) (e := 5) (byteRows x) (byteRows y) id (by simp [sizeOk, lim]; omega) h (by simp [ho])
  rw [co5, byteRows_append, byteRows_length, byteRows_length] at this
  exact this
theorem app_nil5 (y : List Int) (hy : y ≠ []) (hs : y.length < 1000000000) : appendV prog false 5 (.sc (.slice none 0 0)) (byteRows y) = .new (.tail 5 y.length) fun id => .ret (.list 1 (byteRows y) (.tail id)) := by
  have := append_nil_slice (P := prog) (e := 5) (byteRows y) (by cases y with | nil => exact absurd rfl hy | cons a y => rfl) (by simp [sizeOk, lim]; omega)
  rw [co5, byteRows_length] at this; exact this
/-- The bytes so far, the number that is left, the caller's loop. -/
def obsP (x : List Int) (u : Int) (L : Ob) : H :=
  match x with
  | [] => [.cells 88 [.sc (.slice none 0 0)], .cells 150 [.sc (.int .u64 u)], L]
  | x => [.cells 88 [.list 1 (byteRows x) (.tail 3)], .cells 150 [.sc (.int .u64 u)], L, .tail 5 x.length]
theorem obsP_ne (x : List Int) (h : x ≠ []) (u : Int) (L : Ob) : obsP x u L = [.cells 88 [.list 1 (byteRows x) (.tail 3)], .cells 150 [.sc (.int .u64 u)], L, .tail 5 x.length] := by
  cases x with
  | nil => exact absurd rfl h
  | cons a x => rfl
theorem obsP_get1 (x : List Int) (u : Int) (L : Ob) : (obsP x u L)[1]? = some (.cells 150 [.sc (.int .u64 u)]) := by cases x <;> rfl
theorem obsP_set1 (x : List Int) (u u' : Int) (L : Ob) : (obsP x u L).set 1 (.cells 150 [.sc (.int .u64 u')]) = obsP x u' L := by cases x <;> rfl
theorem grp_loop (L : Ob) (hY : ∀ (g : Nat) (b : Bool) (x : List Int) (u : Int), g < 128 → x.length < 1000 →
      yieldV T 2 [.sc (.int .u8 (g : Int)), .sc (.bool b)] (obsP x u L) = some (.sc (.bool true), obsP (x ++ [if b then (g : Int) else ((g + 128 : Nat) : Int)]) u L)) :
    ∀ (k u : Nat) (x : List Int), u < 128 ^ k → u < 9223372036854775808 → x.length + k < 1000 → ∃ (u' : Int) (e : List V),
      T.code 155 (.loop (lp f155 0)) ⟨envAt 18 [(0, .yld 2), (1, .ref 1 0)], obsP x u L⟩ = some (.ret, ⟨e, obsP (x ++ grp u) u' L⟩) := by
  have hand : ∀ (u : Nat), u < 9223372036854775808 → ∀ a b, binOpV prog .and 150 a b (.sc (.int .u64 (u : Int))) (.sc (.int .u64 127)) = .ret (.sc (.int .u64 ((u % 128 : Nat) : Int))) :=
    fun u h a b => by rw [binOpV_and, and127 u (by omega)]
  have hshr : ∀ (u : Nat) a b, binOpV prog .shr 150 a b (.sc (.int .u64 (u : Int))) (.sc (.int .u64 7)) = .ret (.sc (.int .u64 ((u / 128 : Nat) : Int))) :=
    fun u a b => by rw [binOpV_shr _ _ _ _ _ _ _ (by decide), shr7 u]
  have small : ∀ (u : Nat) (x : List Int), u < 128 → x.length < 1000 → ∃ (u' : Int) (e : List V),
      T.code 155 (.loop (lp f155 0)) ⟨envAt 18 [(0, .yld 2), (1, .ref 1 0)], obsP x u L⟩ = some (.ret, ⟨e, obsP (x ++ grp u) u' L⟩) := by
    intro u x hs hx
    have hc : IntKind.u8.wrap (u : Int) = (u : Int) := wrap8_of (by omega) (by omega)
    have hy := hY u true x u hs hx
    have ha := hand u (by omega)
    have e2 : u % 128 = u := by omega
    rw [e2] at ha
    have eg : grp u = [(u : Int)] := by rw [grp, dif_pos hs]
    have hs' : (u : Int) < 128 := by omega
    rw [if_pos rfl] at hy
    refine ⟨u, envAt 18 [(0, .yld 2), (1, .ref 1 0), (15, .sc (.bool true))], ?_⟩
    rw [eg, k_loop]
    simp [lp, f155, loopsOf, obsP_get1, ha, hc, hs', hs, callVal, hy]
  intro k
  induction k with
  | zero =>
    intro u x hu h64 hx
    have : u < 1 := by simpa using hu
    exact small u x (by omega) (by omega)
  | succ k ih =>
    intro u x hu h64 hx
    by_cases hs : u < 128
    · exact small u x hs (by omega)
    · have hy := hY (u % 128) false x u (by omega) (by omega)
      have hp : (128 : Nat) ^ (k + 1) = 128 ^ k * 128 := by rw [Nat.pow_succ]
      obtain ⟨u', e, key⟩ := ih (u / 128) (x ++ [((u % 128 + 128 : Nat) : Int)]) (by omega) (by omega) (by simp; omega)
      have eg : grp u = ((u % 128 + 128 : Nat) : Int) :: grp (u / 128) := by rw [grp, dif_neg hs]
      refine ⟨u', e, ?_⟩
      rw [eg, List.append_cons]
      have ha := hand u h64
      have hb := hshr u
      have hc : IntKind.u8.wrap ((u % 128 : Nat) : Int) = ((u % 128 : Nat) : Int) := wrap8_of (by omega) (by omega)
      generalize ((u % 128 : Nat) : Int) = g at ha hc hy
      generalize ((u % 128 + 128 : Nat) : Int) = g2 at hy key ⊢
      have hg1 := obsP_get1 (x ++ [g2]) u L
      have hg2 := obsP_set1 (x ++ [g2]) u ((u / 128 : Nat) : Int) L
      have hg0 := obsP_get1 x u L
      rw [if_neg (by decide)] at hy
      have hs' : ¬ (u : Int) < 128 := by omega
      generalize hG : grp (u / 128) = G at key ⊢
      generalize hQ : ((u / 128 : Nat) : Int) = q at hb key hg2
      generalize hX : x ++ [g2] = X at hy key hg1 hg2 ⊢
      generalize hH : obsP X u L = O at hy hg1 hg2
      generalize hH2 : obsP X q L = O2 at hg2 key
      generalize hH3 : obsP x u L = O3 at hy hg0 ⊢
      generalize hR : some (Ex.ret, (_ : St)) = RR at key ⊢
      rw [k_loop]
      simp [lp, f155, loopsOf, hg0, hg1, hg2, ha, hb, hc, hs', hs, callVal, hy]
      exact key
theorem gc_keep (n k sz : Nat) (bt : TypeId) (xs : List (List V)) (r : H) (hk : n + 1 ≤ k) : gc (n + 1) (.cells bt [.list sz xs (.tail k)] :: r) = .cells bt [.list sz xs (.tail k)] :: r := by
  have : ¬ k < n + 1 := by omega
  simp [gc, Ob.ltN, V.ltN, V.lt1, V.lt0, this]
theorem call_155 (L : Ob) (hY : ∀ (g : Nat) (b : Bool) (x : List Int) (u : Int), g < 128 → x.length < 1000 →
      yieldV T 2 [.sc (.int .u8 (g : Int)), .sc (.bool b)] (obsP x u L) = some (.sc (.bool true), obsP (x ++ [if b then (g : Int) else ((g + 128 : Nat) : Int)]) u L))
    (u : Nat) (hu : u < 9223372036854775808) : ∃ u' : Int, T.call 155 [.yld 2, .ref 1 0] [.cells 88 [.sc (.slice none 0 0)], .cells 150 [.sc (.int .u64 (u : Int))], L] =
      some (.tup [], [.cells 88 [.list 1 (byteRows (grp u)) (.tail 3)], .cells 150 [.sc (.int .u64 u')], L, .tail 5 (grp u).length]) := by
  obtain ⟨u', e, key⟩ := grp_loop L hY 9 u [] (Nat.lt_of_lt_of_le hu (by decide)) hu (by decide)
  refine ⟨u', ?_⟩
  rw [List.nil_append, obsP_ne _ (grp_ne u)] at key
  rw [k_R C18 rfl func155 (body := _) rfl (by decide +kernel) (args' := [.yld 2, .ref 1 0]) (h1 := [.cells 88 [.sc (.slice none 0 0)], .cells 150 [.sc (.int .u64 (u : Int))], L]) (by simp [f155]) (by simp)]
  simp [f155]
  generalize hz : T.code 155 (.loop _) _ = y
  obtain rfl := hz.symm.trans key
  clear hz
  simp [gc_keep]
theorem groups_145 (u : Int) (h : H) (hu : IntKind.u64.wrap u = u) : T.call 145 [.sc (.int .u64 u)] h = some (.fn (.func 155) [] [.ref h.length 0], h ++ [.cells 150 [.sc (.int .u64 u)]]) := by
  rw [k_D C18 rfl func145 (body := _) rfl (by decide +kernel) (args' := [.sc (.int .u64 u)]) (h1 := h) (by simp [f145]) (by simp)]
  simp [f145, V.shift, Ob.shift, V.shift0, V.shift1]
theorem grp_length : ∀ (k u : Nat), u < 128 ^ (k + 1) → (grp u).length ≤ k + 1
  | 0, u, h => by
    rw [grp, dif_pos (by simpa using h)]; simp
  | k + 1, u, h => by
    rw [grp]
    split
    · simp
    · have hp : (128 : Nat) ^ (k + 2) = 128 ^ (k + 1) * 128 := by rw [Nat.pow_succ]
      have := grp_length k (u / 128) (by omega)
      simp; omega
theorem grp_byte (u : Nat) : ∀ n ∈ grp u, 0 ≤ n ∧ n < 256 := by
  induction u using Nat.strongRecOn with
  | _ u ih =>
    intro n hn
    rw [grp] at hn
    split at hn
    · simp at hn; omega
    · simp only [List.mem_cons] at hn
      rcases hn with rfl | hn
      · omega
      · exact ih (u / 128) (by omega) n hn
def putI (n : Int) : ByteArray := strOfNums (grp (zz n))
theorem putI_size (n : Int) (h : okInt n) : (putI n).size ≤ 9 := by
  have := grp_length 8 (zz n) (Nat.lt_of_lt_of_le (zz_lt n h) (by decide))
  rw [putI, strOfNums_size']; exact this
theorem put_127 (n : Int) (hn : okInt n) (h : H) : T.call 127 [.sc (.int .i64 n)] h = some (.tup [.sc (.string (putI n)), .sc (.int .i64 0)], h) := by
  obtain ⟨h1, h2⟩ := hn
  have c1 : ¬ n < -4611686018427387903 := by omega
  have c2 : ¬ (4611686018427387903 : Int) < n := by omega
  have b1 : ∀ a b, binOpV prog .shl 150 a b (.sc (.int .u64 (IntKind.u64.wrap n))) (.sc (.int .u64 1)) = .ret (.sc (.int .u64 (IntKind.u64.wrap (IntKind.u64.wrap n * 2 ^ min (1 : Int).toNat IntKind.u64.bits)))) := fun a b => binOpV_shl _ _ _ _ _ _ _ (by decide)
  have b2 : ∀ a b, binOpV prog .shr 3 a b (.sc (.int .i64 n)) (.sc (.int .u64 63)) = .ret (.sc (.int .i64 (n.fdiv (2 ^ min (63 : Int).toNat IntKind.i64.bits)))) := fun a b => binOpV_shr _ _ _ _ _ _ _ (by decide)
  have b3 : ∀ a b, binOpV prog .xor 150 a b (.sc (.int .u64 (IntKind.u64.wrap (IntKind.u64.wrap n * 2 ^ min (1 : Int).toNat IntKind.u64.bits)))) (.sc (.int .u64 (IntKind.u64.wrap (n.fdiv (2 ^ min (63 : Int).toNat IntKind.i64.bits))))) = .ret (.sc (.int .u64 ((zz n : Nat) : Int))) := fun a b => by
    rw [binOpV_xor, zz_eq n ⟨h1, h2⟩]
  have hz := zz_lt n ⟨h1, h2⟩
  have g1 : ∀ h, _ := fun h => groups_145 ((zz n : Nat) : Int) h (u64_nat _ (by omega))
  rw [k_D C18 rfl func127 (body := _) rfl (by decide +kernel) (args' := [.sc (.int .i64 n)]) (h1 := h) (by simp [f127]) (by simp)]
  generalize hA : IntKind.u64.wrap (IntKind.u64.wrap n * 2 ^ min (1 : Int).toNat IntKind.u64.bits) = A at b1 b3
  generalize hB : n.fdiv (2 ^ min (63 : Int).toNat IntKind.i64.bits) = B at b2 b3
  generalize hU : ((zz n : Nat) : Int) = U at b3 g1
  simp [f127, c1, c2, b1, b2, b3, callVal, callFn, g1, rangeV]
  generalize hL : Ob.loop .ready none 127 _ _ _ _ = L
  have hY : ∀ (g : Nat) (b : Bool) (x : List Int) (u : Int), g < 128 → x.length < 1000 →
      yieldV T 2 [.sc (.int .u8 (g : Int)), .sc (.bool b)] (obsP x u L) = some (.sc (.bool true), obsP (x ++ [if b then (g : Int) else ((g + 128 : Nat) : Int)]) u L) := by
    intro g b x u hg hx
    have hor : ∀ a b, binOpV prog .or 5 a b (.sc (.int .u8 (g : Int))) (.sc (.int .u8 128)) = .ret (.sc (.int .u8 ((g + 128 : Nat) : Int))) := fun a b => by rw [binOpV_or, or128 g hg]
    subst hL
    generalize ((g + 128 : Nat) : Int) = g2 at hor ⊢
    generalize (g : Int) = g1 at hor ⊢
    have a0 : ∀ y : Int, appendV prog false 5 (.sc (.slice none 0 0)) [[.sc (.int .u8 y)]] = .new (.tail 5 1) fun id => .ret (.list 1 (byteRows [y]) (.tail id)) := fun y => app_nil5 [y] (by simp) (by simp)
    have a1 : ∀ (y : Int) (h : H), h[3]? = some (.tail 5 x.length) → (appendV prog false 5 (.list 1 (byteRows x) (.tail 3)) [[.sc (.int .u8 y)]]).run h = some (.list 1 (byteRows (x ++ [y])) (.tail 3), h.set 3 (.tail 5 (x.length + 1))) := fun y h ho => app_bytes x [y] 3 (by simp; omega) h ho
    by_cases hxn : x = []
    · subst hxn
      cases b with
      | true =>
        simp [obsP, yieldV, setParams, jumpOf, app88, a0, byteRows, gc_keep]
      | false =>
        simp [obsP, yieldV, setParams, jumpOf, app88, a0, byteRows, gc_keep, hor]
    · rw [obsP_ne _ hxn, obsP_ne _ (by simp)]
      cases b with
      | true =>
        simp [yieldV, setParams, jumpOf, app88, a1, gc_same]
      | false =>
        simp [yieldV, setParams, jumpOf, app88, a1, gc_same, hor]
  obtain ⟨u', key⟩ := call_155 L hY (zz n) hz
  rw [hU] at key
  change (top C18).call 155 _ _ = _ at key
  rw [key]
  subst hL
  simp [gc_get, numsOf_bytes, putI]
end Go.Rg
/-
  The writer.
-/
namespace Go.Rg
open Go Go.Pv Go.Proofs.Tryz
set_option maxRecDepth 100000
set_option linter.unusedSimpArgs false
set_option maxHeartbeats 4000000
def numsS (s : ByteArray) : List Int := s.data.toList.map fun b => (b.toNat : Int)
@[simp] theorem numsS_length (s : ByteArray) : (numsS s).length = s.size := by rw [numsS, List.length_map]; rfl
theorem numsS_byte (s : ByteArray) : ∀ n ∈ numsS s, 0 ≤ n ∧ n < 256 := by
  intro n hn
  simp only [numsS, List.mem_map] at hn
  obtain ⟨b, _, rfl⟩ := hn
  have := b.toNat_lt
  omega
theorem rows_numsS (s : ByteArray) : (s.data.toList.map fun b => [V.sc (.int .u8 b.toNat)]) = byteRows (numsS s) := by simp [byteRows, numsS]
theorem byteRows_one (l : List Int) : ((byteRows l).all fun y => decide (y.length = 1)) = true := by simp [byteRows]
theorem app_str (s : V) (t : ByteArray) : builtinV prog false 88 .append ⟨[88, 9]⟩ [s, .sc (.string t)] = appendV prog false 5 s (byteRows (numsS t)) := by
  rw [app88s]
  simp only [rowsOf, rows_numsS, HP.bind, byteRows_one, if_true]
theorem check_new (b : V) (id : Nat) (h : H) (ho : h[id]? = some (.cells 143 [.sc (.pointer none), b])) : T.call 128 [.ref id 0] h = some (.tup [], h.set id (.cells 143 [.ref id 0, b])) := by
  rw [call_prim C18 (p := checkP) rfl]
  simp only [checkP, ho]
  rfl
theorem check_own (b : V) (id : Nat) (h : H) (ho : h[id]? = some (.cells 143 [.ref id 0, b])) : T.call 128 [.ref id 0] h = some (.tup [], h) := by
  rw [call_prim C18 (p := checkP) rfl]
  simp only [checkP, ho, and_self, if_true]
theorem gc_keep2 (n k sz : Nat) (bt : TypeId) (o : Ob) (a : V) (xs : List (List V)) (r : H) (hk : n + 2 ≤ k) : gc (n + 2) (o :: .cells bt [a, .list sz xs (.tail k)] :: r) = o :: .cells bt [a, .list sz xs (.tail k)] :: r := by
  have : ¬ k < n + 2 := by omega
  simp [gc, Ob.ltN, V.ltN, V.lt1, V.lt0, this]
theorem write_first (Hd : Ob) (s : ByteArray) (hs : s.size < 1000000000) (h0 : 0 < s.size) :
    T.call 107 [.ref 1 0, .sc (.string s)] [Hd, .cells 143 [.sc (.pointer none), .sc (.slice none 0 0)]] =
      some (.tup [.sc (.int .i64 (s.size : Int)), .sc .nilIface], [Hd, .cells 143 [.ref 1 0, .list 1 (byteRows (numsS s)) (.tail 2)], .tail 5 s.size]) := by
  have hne : numsS s ≠ [] := by
    intro e
    have := congrArg List.length e
    rw [numsS_length] at this
    simp only [List.length_nil] at this
    omega
  have hap := app_nil5 (numsS s) hne (by simpa using hs)
  rw [numsS_length] at hap
  rw [k_R C18 rfl func107 (body := _) rfl (by decide +kernel) (args' := [.ref 1 0, .sc (.string s)]) (h1 := [Hd, .cells 143 [.sc (.pointer none), .sc (.slice none 0 0)]]) (by simp [f107]) (by simp)]
  simp [f107, callVal, callFn, check_new, app_str, hap, un9, gc_keep2]
theorem write_next (Hd : Ob) (x : List Int) (s : ByteArray) (hs : x.length + s.size < 1000000000) :
    T.call 107 [.ref 1 0, .sc (.string s)] [Hd, .cells 143 [.ref 1 0, .list 1 (byteRows x) (.tail 2)], .tail 5 x.length] =
      some (.tup [.sc (.int .i64 (s.size : Int)), .sc .nilIface], [Hd, .cells 143 [.ref 1 0, .list 1 (byteRows (x ++ numsS s)) (.tail 2)], .tail 5 (x ++ numsS s).length]) := by
  have hap := app_bytes x (numsS s) 2 (by rw [numsS_length]; exact hs) [Hd, .cells 143 [.ref 1 0, .list 1 (byteRows x) (.tail 2)], .tail 5 x.length] rfl
  rw [numsS_length] at hap
  have hl : (x ++ numsS s).length = x.length + s.size := by rw [List.length_append, numsS_length]
  rw [hl]
  generalize x ++ numsS s = y at hap ⊢
  rw [k_R C18 rfl func107 (body := _) rfl (by decide +kernel) (args' := [.ref 1 0, .sc (.string s)]) (h1 := [Hd, .cells 143 [.ref 1 0, .list 1 (byteRows x) (.tail 2)], .tail 5 x.length]) (by simp [f107]) (by simp)]
  simp [f107, callVal, callFn, check_own, app_str, hap, un9, gc_same]
theorem numsS_strOf (l : List Int) (h : ∀ n ∈ l, 0 ≤ n ∧ n < 256) : numsS (strOfNums l) = l := by
  have : ∀ l : List Int, (∀ n ∈ l, 0 ≤ n ∧ n < 256) → (l.map fun n => UInt8.ofNat n.toNat).map (fun b => (b.toNat : Int)) = l := by
    intro l
    induction l with
    | nil => intro _; rfl
    | cons a l ih =>
      intro h
      have ha := h a (by simp)
      have e : (((UInt8.ofNat a.toNat).toNat : Nat) : Int) = a := by rw [UInt8.toNat_ofNat']; omega
      rw [List.map_cons, List.map_cons, ih (fun n hn => h n (by simp [hn])), e]
  exact this l h
theorem numsS_putI (n : Int) : numsS (putI n) = grp (zz n) := numsS_strOf _ (grp_byte _)
theorem strOf_numsS (s : ByteArray) : strOfNums (numsS s) = s := by
  have : numsS s = s.data.toList.map Sha.u8i := rfl
  rw [this, strOf_u8]
theorem putI_len (n : Int) : (putI n).size = (grp (zz n)).length := by rw [putI, strOfNums_size']
theorem number_first (Hd : Ob) (n : Int) (hn : okInt n) :
    T.call 106 [.ref 1 0, .sc (.int .i64 n)] [Hd, .cells 143 [.sc (.pointer none), .sc (.slice none 0 0)]] =
      some (.tup [], [Hd, .cells 143 [.ref 1 0, .list 1 (byteRows (grp (zz n))) (.tail 2)], .tail 5 (grp (zz n)).length]) := by
  have hs := putI_size n hn
  have hl := putI_len n
  have h0 : 0 < (putI n).size := by rw [hl]; exact List.length_pos_iff.2 (grp_ne _)
  have hw := write_first Hd (putI n) (by omega) h0
  rw [numsS_putI, hl] at hw
  have hp : ∀ h, _ := fun h => put_127 n hn h
  rw [k_R C18 rfl func106 (body := _) rfl (by decide +kernel) (args' := [.ref 1 0, .sc (.int .i64 n)]) (h1 := [Hd, .cells 143 [.sc (.pointer none), .sc (.slice none 0 0)]]) (by simp [f106]) (by simp)]
  simp [f106, callVal, callFn, hp, hw, gc_keep2]
theorem number_next (Hd : Ob) (x : List Int) (n : Int) (hn : okInt n) (hx : x.length < 100000000) :
    T.call 106 [.ref 1 0, .sc (.int .i64 n)] [Hd, .cells 143 [.ref 1 0, .list 1 (byteRows x) (.tail 2)], .tail 5 x.length] =
      some (.tup [], [Hd, .cells 143 [.ref 1 0, .list 1 (byteRows (x ++ grp (zz n))) (.tail 2)], .tail 5 (x ++ grp (zz n)).length]) := by
  have hs := putI_size n hn
  have hw := write_next Hd x (putI n) (by omega)
  rw [numsS_putI] at hw
  have hp : ∀ h, _ := fun h => put_127 n hn h
  rw [k_R C18 rfl func106 (body := _) rfl (by decide +kernel) (args' := [.ref 1 0, .sc (.int .i64 n)]) (h1 := [Hd, .cells 143 [.ref 1 0, .list 1 (byteRows x) (.tail 2)], .tail 5 x.length]) (by simp [f106]) (by simp)]
  generalize x ++ grp (zz n) = y at hw ⊢
  simp [f106, callVal, callFn, hp, hw, gc_same]
end Go.Rg
/-
  seal.
-/
namespace Go.Rg
open Go Go.Pv Go.Proofs.Tryz
set_option maxRecDepth 100000
set_option linter.unusedSimpArgs false
set_option maxHeartbeats 4000000
theorem stringT (Hd : Ob) (p : V) (l : List Int) (hl : l ≠ []) (hs : l.length < 1000000000) (hb : ∀ n ∈ l, 0 ≤ n ∧ n < 256) :
    T.call 108 [.ref 1 0] [Hd, .cells 143 [p, .list 1 (byteRows l) (.tail 2)], .tail 5 l.length] =
      some (.sc (.string (strOfNums l)), [Hd, .cells 143 [p, .list 1 (byteRows l) (.tail 2)], .dead]) := by
  rw [call_prim C18 (p := stringP) rfl]
  have h1 : (l.all fun x => decide (0 ≤ x) && decide (x < 256)) = true := by
    rw [List.all_eq_true]
    intro x hx
    obtain ⟨a, b⟩ := hb x hx
    simp [a, b]
  simp only [stringP, List.getElem?_cons_succ, List.getElem?_cons_zero, numsOf_bytes, byteRows_length, h1, hl, hs, ne_eq, not_false_eq_true, and_self, if_true]
  rfl
def headB (c n : Int) (root : ByteArray) : List Int := grp (zz 4) ++ grp (zz c) ++ grp (zz n) ++ numsS root
def sealH (key : ByteArray) (c n : Int) (root : ByteArray) : ByteArray := nodeH key (leafH (strOfNums (headB c n root)))
theorem seal_75 (key : ByteArray) (c n : Int) (root sl : ByteArray) (hk : key.size < 100000000) (hc : okInt c) (hn : okInt n) (hr : root.size < 100000000) (h : H) :
    T.call 75 [.sc (.string key), .agg [.sc (.int .i64 c), .sc (.int .i64 n), .sc (.string root), .sc (.string sl)]] h = some (.sc (.string (sealH key c n root)), h) := by
  have l4 : (grp (zz 4)).length ≤ 9 := by rw [← putI_len]; exact putI_size 4 (by unfold okInt; omega)
  have lc : (grp (zz c)).length ≤ 9 := by rw [← putI_len]; exact putI_size c hc
  have ln : (grp (zz n)).length ≤ 9 := by rw [← putI_len]; exact putI_size n hn
  let Hd : Ob := .cells 35 [.sc (.int .i64 c), .sc (.int .i64 n), .sc (.string root), .sc (.string sl)]
  have w1 := number_first Hd 4 (by unfold okInt; omega)
  have w2 := number_next Hd (grp (zz 4)) c hc (by omega)
  have w3 := number_next Hd (grp (zz 4) ++ grp (zz c)) n hn (by rw [List.length_append]; omega)
  have w4 := write_next Hd (grp (zz 4) ++ grp (zz c) ++ grp (zz n)) root (by rw [List.length_append, List.length_append]; omega)
  have hne : headB c n root ≠ [] := by
    unfold headB
    simp [grp_ne]
  have hbs : ∀ x ∈ headB c n root, 0 ≤ x ∧ x < 256 := by
    intro x hx
    simp only [headB, List.mem_append] at hx
    rcases hx with ((hx | hx) | hx) | hx
    · exact grp_byte _ x hx
    · exact grp_byte _ x hx
    · exact grp_byte _ x hx
    · exact numsS_byte _ x hx
  have hlen : (headB c n root).length < 200000000 := by
    simp only [headB, List.length_append, numsS_length]; omega
  have w5 := stringT Hd (.ref 1 0) (headB c n root) hne (by omega) hbs
  have w6 : ∀ h, _ := fun h => leaf_93 (strOfNums (headB c n root)) (by rw [strOfNums_size']; omega) h
  have w7 : ∀ h, _ := fun h => node_103 key (leafH (strOfNums (headB c n root))) (by rw [show (leafH (strOfNums (headB c n root))).size = 32 from Sha_size _]; omega) h
  rw [show grp (zz 4) ++ grp (zz c) ++ grp (zz n) ++ numsS root = headB c n root from rfl] at w4
  unfold sealH
  generalize headB c n root = B at w4 w5 w6 w7 ⊢
  generalize leafH (strOfNums B) = Lf at w6 w7 ⊢
  generalize nodeH key Lf = Nd at w7 ⊢
  generalize strOfNums B = SB at w5 w6
  generalize grp (zz 4) ++ grp (zz c) ++ grp (zz n) = B3 at w3 w4
  generalize grp (zz 4) ++ grp (zz c) = B2 at w2 w3
  generalize grp (zz 4) = B1 at w1 w2
  simp only [Hd] at w1 w2 w3 w4 w5
  rw [k_D C18 rfl func75 (body := _) rfl (by decide +kernel) (args' := [.sc (.string key), .agg [.sc (.int .i64 c), .sc (.int .i64 n), .sc (.string root), .sc (.string sl)]]) (h1 := h) (by simp [f75]) (by simp)]
  simp [f75, callVal, callFn, w1, w2, w3, w4, w5, w6, w7]
end Go.Rg
/-
  Sign; heads compared.
-/
namespace Go.Rg
open Go Go.Pv Go.Proofs.Tryz
set_option maxRecDepth 100000
set_option linter.unusedSimpArgs false
set_option maxHeartbeats 4000000
/-- A head. -/
structure Hd where
  c : Int
  n : Int
  root : ByteArray
  mark : ByteArray
def hdCells (h : Hd) : List V := [.sc (.int .i64 h.c), .sc (.int .i64 h.n), .sc (.string h.root), .sc (.string h.mark)]
def hdV (h : Hd) : V := .agg (hdCells h)
def hd0 : Hd := ⟨0, 0, ⟨#[]⟩, ⟨#[]⟩⟩
def regV (c : Int) (l : List ByteArray) : V := .agg [.sc (.int .i64 c), .list 1 (strs l) .no]
/-- The entries of a register are short. -/
def Short (l : List ByteArray) : Prop := l.length < 1000000000 ∧ ∀ x ∈ l, x.size < 900000000
def signOk (key : ByteArray) (c : Int) (l : List ByteArray) (n : Int) : Bool := decide (key.size = 32) && (validL c l && (decide (0 ≤ n) && decide (n ≤ l.length)))
def signH (key : ByteArray) (c : Int) (l : List ByteArray) (n : Int) : Hd := ⟨c, n, rootH (l.take n.toNat), sealH key c n (rootH (l.take n.toNat))⟩
theorem validL_c {c : Int} {l : List ByteArray} (h : validL c l = true) : 0 ≤ c ∧ c ≤ 7 ∧ l.length ≤ 60 ∧ ∀ x ∈ l, x.size ≤ 1000 := by
  unfold validL at h
  simp only [Bool.and_eq_true, decide_eq_true_eq, Bool.not_eq_true', List.any_eq_false] at h
  exact ⟨h.1.1.1, h.1.1.2, h.1.2, fun x hx => by have := h.2 x hx; omega⟩
theorem fold_node_size : ∀ (r : Stk) (d : ByteArray), d.size = 32 → (r.foldl (fun d e => nodeH e.1 d) d).size = 32
  | [], _, h => h
  | _ :: r, _, _ => fold_node_size r _ (Sha_size _)
theorem rootH_size (l : List ByteArray) : (rootH l).size = 32 := by
  cases l with
  | nil => exact Sha_size _
  | cons x r =>
    have p := pushS_ok [] x (by intro e he; simp at he)
    obtain ⟨h1, h2, _⟩ := fold_ok r (pushS [] x) p.1 p.2.2.1
    unfold rootH
    rw [List.foldl_cons]
    generalize r.foldl pushS (pushS [] x) = s at h1 h2
    match s, h1, h2 with
    | (d, q) :: r', h1, _ => exact fold_node_size r' d (h1 (d, q) (by simp))
theorem sign_33 (key : ByteArray) (c : Int) (l : List ByteArray) (n : Int) (hs : Short l) (h : H) :
    T.call 33 [.sc (.string key), regV c l, .sc (.int .i64 n)] h = some (if signOk key c l n then .tup [hdV (signH key c l n), .sc (.int .i64 0)] else .tup [hdV hd0, .sc (.int .i64 180)], h) := by
  have k1 : ∀ h, _ := fun h => isKey_63 key h
  have k2 : ∀ h, _ := fun h => valid_44 c l (by have := hs.1; omega) h
  have k3 : ∀ h, _ := fun h => within_73 n 0 l.length h
  unfold signOk
  rw [k_D C18 rfl func33 (body := _) rfl (by decide +kernel) (args' := [.sc (.string key), regV c l, .sc (.int .i64 n)]) (h1 := h) (by simp [f33, regV]) (by simp [regV])]
  unfold regV
  by_cases hk : key.size = 32
  · cases hv : validL c l with
    | false =>
      rw [hv] at k2
      simp [f33, callVal, callFn, k1, k2, k3, hk, hdV, hd0, hdCells]
    | true =>
      rw [hv] at k2
      obtain ⟨c0, c7, hl60, hsz⟩ := validL_c hv
      by_cases hn : 0 ≤ n ∧ n ≤ l.length
      · obtain ⟨n0, n1⟩ := hn
        have e1 : (strs l).take n.toNat = strs (l.take n.toNat) := strs_take _ _
        have k4 : ∀ h, _ := fun h => root_74 (l.take n.toNat) (fun x hx => by have := hsz x (List.mem_of_mem_take hx); omega) (by rw [List.length_take]; omega) h
        have k5 : ∀ h, _ := fun h => seal_75 key c n (rootH (l.take n.toNat)) ⟨#[]⟩ (by omega) (by unfold okInt; omega) (by unfold okInt; omega) (by rw [rootH_size]; omega) h
        simp [f33, callVal, callFn, k1, k2, k3, hk, n0, n1, callHP, func74, params74, isRes, e1, k4, k5, hdV, hdCells, signH]
      · have hb : (decide (0 ≤ n) && decide (n ≤ (l.length : Int))) = false := by
          simp only [Bool.and_eq_false_iff, decide_eq_false_iff_not]; omega
        rw [hb] at k3
        simp [f33, callVal, callFn, k1, k2, k3, hk, hb, hdV, hd0, hdCells]
  · simp [f33, callVal, callFn, k1, hk, hdV, hd0, hdCells]
/-! ### Heads compared -/
theorem looks35 : prog.stoodInHeld 35 = false := by kernel_rfl
theorem eg35 : prog.eqGuardType prog.depth 35 = false := by kernel_rfl
noncomputable def fs35 : Array Field := match prog.underlying 35 with | some (.struct fs) => fs | _ => #[]
theorem un35 : prog.underlying 35 = some (.struct fs35) := by kernel_rfl
theorem fs35l : fs35.toList.map (fun f => (f.type, f.offset, decide (f.name ≠ "_"))) = [(3, 0, true), (3, 1, true), (9, 2, true), (9, 3, true)] := by kernel_rfl
theorem part_cell {t : TypeId} (hu : isAggT prog t = false) (d : TypeDesc) (h2 : prog.underlying t = some d) (xs : Array Value) (k : Nat) (v : Value) (hv : xs[k]? = some v) : pureRun prog (part t xs k) = some v := by
  have h1 : pureRun prog (isAgg t) = some false := by
    unfold isAgg isAggT at *
    rw [pureRun_bind, pureRun_underlying h2]
    rw [h2] at hu
    simp only [Option.bind_some]
    split <;> simp_all [pureRun_pure]
  unfold part
  rw [pureRun_bind, h1]
  simp [hv, pureRun_pure]
theorem eqI3 (d : Nat) (a b : Int) : pureRun prog (Op.equalIn (d + 1) 3 (.int .i64 a) (.int .i64 b)) = some (decide (a = b)) := by
  simp [Op.equalIn, pureRun_bind, pureRun_underlying un3, pureRun_pure, beq_dec]
theorem eqI9 (d : Nat) (a b : ByteArray) : pureRun prog (Op.equalIn (d + 1) 9 (.string a) (.string b)) = some (decide (a = b)) := by
  have : (a == b) = decide (a = b) := by
    rw [Bool.eq_iff_iff, MapKept.bytes_beq]; simp
  simp [Op.equalIn, pureRun_bind, pureRun_underlying un9, pureRun_pure, this]
theorem eqIn35 (d : Nat) (c n c' n' : Int) (r s r' s' : ByteArray) : pureRun prog (Op.equalIn (d + 2) 35 (.agg #[.int .i64 c, .int .i64 n, .string r, .string s]) (.agg #[.int .i64 c', .int .i64 n', .string r', .string s'])) = some (decide (c = c') && (decide (n = n') && (decide (r = r') && decide (s = s')))) := by
  obtain ⟨f1, f2, f3, f4, hf⟩ : ∃ f1 f2 f3 f4, fs35 = #[f1, f2, f3, f4] := by
    have := congrArg List.length fs35l
    simp at this
    match fs35, this with
    | ⟨[a, b, c, d]⟩, _ => exact ⟨a, b, c, d, rfl⟩
  have hl := fs35l
  rw [hf] at hl
  simp only [List.map_cons, List.map_nil, List.cons.injEq, Prod.mk.injEq, decide_eq_true_eq, and_true] at hl
  obtain ⟨⟨a1, a2, a3⟩, ⟨b1, b2, b3⟩, ⟨c1, c2, c3⟩, ⟨d1, d2, d3⟩⟩ := hl
  have hu := un35
  rw [hf] at hu
  rw [show d + 2 = (d + 1) + 1 from rfl, Op.equalIn, pureRun_bind, pureRun_underlying hu]
  simp only [Option.bind_some]
  by_cases e1 : c = c' <;> by_cases e2 : n = n' <;> by_cases e3 : r = r' <;> by_cases e4 : s = s' <;>
    simp [pureRun_bind, pureRun_pure, pureRun_program, looks35, a1, a2, a3, b1, b2, b3, c1, c2, c3, d1, d2, d3, part_cell ia3 _ un3, part_cell ia9 _ un9, eqI3, eqI9, e1, e2, e3, e4]
theorem eqHd (x y : Operand) (a b : Hd) : binOpV prog .eql 35 x y (hdV a) (hdV b) = .ret (.sc (.bool (decide (a.c = b.c) && (decide (a.n = b.n) && (decide (a.root = b.root) && decide (a.mark = b.mark)))))) := by
  have := eqIn35 9998 a.c a.n b.c b.n a.root a.mark b.root b.mark
  simp only [Nat.reduceAdd] at this
  simp [binOpV, hdV, hdCells, V.toVal, scal, pureV, eqGuard, binOp, pureRun_bind, pureRun_pure, pureRun_map, pureRun_program, eg35, Op.equal, Op.maxDepth, this, ofVal]
theorem neHd (x y : Operand) (a b : Hd) : binOpV prog .neq 35 x y (hdV a) (hdV b) = .ret (.sc (.bool (!(decide (a.c = b.c) && (decide (a.n = b.n) && (decide (a.root = b.root) && decide (a.mark = b.mark))))))) := by
  have := eqIn35 9998 a.c a.n b.c b.n a.root a.mark b.root b.mark
  simp only [Nat.reduceAdd] at this
  simp [binOpV, hdV, hdCells, V.toVal, scal, pureV, eqGuard, binOp, pureRun_bind, pureRun_pure, pureRun_map, pureRun_program, eg35, Op.equal, Op.maxDepth, this, ofVal, -Bool.not_and, -Bool.not_eq_eq_eq_not]
theorem Hd.eq_iff (a b : Hd) : (decide (a.c = b.c) && (decide (a.n = b.n) && (decide (a.root = b.root) && decide (a.mark = b.mark)))) = true ↔ a = b := by
  cases a; cases b
  simp
end Go.Rg
/-
  Append.
-/
namespace Go.Rg
open Go Go.Pv Go.Proofs.Tryz
set_option maxRecDepth 100000
set_option linter.unusedSimpArgs false
set_option maxHeartbeats 4000000
@[simp] theorem strs_nil : strs [] = [] := rfl
theorem clone_0 (h : H) : T.call 79 [.list 1 [] .no] h = some (.list 1 [] .full, h) := by
  rw [call_prim C18 (p := cloneP) rfl]; rfl
theorem clone_1 (a : ByteArray) (l : List ByteArray) (hl : l.length < 1000000000) (h : H) : T.call 79 [.list 1 (strs (a :: l)) .no] h = some (.list 1 (strs (a :: l)) (.tail h.length), h ++ [.tail 9 (a :: l).length]) := by
  have : (a :: l).length < 4294967296 := by simp; omega
  rw [call_prim C18 (p := cloneP) rfl]
  simp [cloneP, textsOf_strs, lim, this] at this ⊢
  omega
/-- Arguments count as what they hold. -/
theorem call_norm {g : FuncId} {fn : Func} {args args' : List V} {h : H} (hp : C18.prim g = none) (hf : prog.funcs[g]? = some fn)
    (ha : (argsHP C18 g fn.params.toList args).run h = some (args', h)) (hb : (argsHP C18 g fn.params.toList args').run h = some (args', h)) : T.call g args h = T.call g args' h := by
  have hf' : C18.P.funcs[g]? = some fn := hf
  rw [(top_sol C18).call, (top_sol C18).call, callF, callF, hp]
  simp only [hf', ha, hb]
theorem valid_44t (c : Int) (l : List ByteArray) (tk : Tk) (hl : l.length < 1000000000000) (h : H) : T.call 44 [.agg [.sc (.int .i64 c), .list 1 (strs l) tk]] h = some (.sc (.bool (validL c l)), h) := by
  rw [call_norm (args' := [.agg [.sc (.int .i64 c), .list 1 (strs l) .no]]) rfl func44 (by simp [f44]) (by simp [f44])]
  exact valid_44 c l hl h
theorem append_42 (c : Int) (l : List ByteArray) (e : ByteArray) (hl : l.length < 1000000) (h : H) :
    T.call 42 [regV c l, .sc (.string e)] h = some (if validL c (l ++ [e]) then .tup [regV c (l ++ [e]), .sc (.int .i64 0)] else .tup [regV 0 [], .sc (.int .i64 180)], h) := by
  have k2 : ∀ tk h, _ := fun tk h => valid_44t c (l ++ [e]) tk (by simp; omega) h
  rw [k_D C18 rfl func42 (body := _) rfl (by decide +kernel) (args' := [regV c l, .sc (.string e)]) (h1 := h) (by simp [f42, regV]) (by simp [regV])]
  unfold regV
  cases l with
  | nil =>
    have ap := append_full (P := prog) (e := 9) [] [[V.sc (.string e)]] rfl (by simp [sizeOk, lim])
    rw [co9] at ap
    simp only [List.nil_append] at k2 ⊢
    have e1 : strs [e] = [[V.sc (.string e)]] := rfl
    rw [e1] at k2 ⊢
    generalize validL c [e] = B at k2 ⊢
    simp only [List.length_cons, List.length_nil, List.nil_append] at ap
    cases B <;> simp [f42, callVal, callFn, callHP, func79, params79, isRes, clone_0, k2, app24, ap]
  | cons a l =>
    have cl := clone_1 a l (by simp at hl; omega) []
    have ap := appT_strs (a :: l) e 2 (by simp at hl ⊢; omega)
    simp only [List.length_cons, List.length_nil, List.nil_append] at cl ap
    generalize validL c (a :: l ++ [e]) = B at k2 ⊢
    generalize hD : strs (a :: l) = D at cl ap ⊢
    generalize strs (a :: l ++ [e]) = E at k2 ap ⊢
    cases B <;> simp [f42, callVal, callFn, callHP, func79, params79, isRes, cl, k2, app24, ap]
end Go.Rg
