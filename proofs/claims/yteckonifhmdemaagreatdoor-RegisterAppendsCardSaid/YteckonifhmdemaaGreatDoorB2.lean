/-
  digest.Sum computes SHA-256.
-/
import Derived.Test.YteckonifhmdemaaGreatDoorB1
set_option linter.all false
namespace Go.Rg
open Go Go.Pv Go.Proofs.Tryz Go.Sha
set_option maxRecDepth 100000
set_option linter.unusedSimpArgs false
attribute [simp high] add32 xor32 and32 or32 not32
theorem and31 : ∀ n : Fin 32, 0 < n.val → IntKind.u64.wrap ((BitVec.ofInt 64 (IntKind.u64.wrap (-(n.val : Int))) &&& BitVec.ofInt 64 31).toNat : Int) = ((32 - n.val : Nat) : Int) := by decide +kernel
theorem wrap64u (n : Nat) (h : n < 18446744073709551616) : IntKind.u64.wrap (n : Int) = (n : Int) := by
  have e1 : ((2 : Int) ^ IntKind.u64.bits) = 18446744073709551616 := by decide
  simp only [IntKind.wrap, e1, IntKind.signed, Bool.false_and, Bool.false_eq_true, if_false]
  omega
theorem rot_154 (x : W32) (n : Nat) (hn : 0 < n ∧ n < 32) (h : H) : T0.call 154 [.sc (.int .u32 (w x)), .sc (.int .i64 (-(n : Int)))] h = some (.sc (.int .u32 (w (rotr x n))), h) := by
  rw [k_D C0 rfl func154 (body := _) rfl (by decide +kernel) (args' := [.sc (.int .u32 (w x)), .sc (.int .i64 (-(n : Int)))]) (h1 := h) (by simp [f154]) (by simp)]
  have hA : ∀ p q, binOpV prog .and 118 p q (.sc (.int .u64 (IntKind.u64.wrap (-(n : Int))))) (.sc (.int .u64 31)) = .ret (.sc (.int .u64 ((32 - n : Nat) : Int))) := fun p q => by
    refine (binOpV_and (P := prog) 118 p q .u64 _ _).trans ?_
    have := and31 ⟨n, hn.2⟩ hn.1
    exact congrArg (fun z => HP.ret (V.sc (.int .u64 z))) this
  have hB : IntKind.u64.wrap (32 - ((32 - n : Nat) : Int)) = (n : Int) := by
    rw [show (32 - ((32 - n : Nat) : Int)) = ((n : Nat) : Int) by omega]; exact wrap64u n (by omega)
  have hC := fun p q => shl32 prog 114 p q x .u64 (32 - n) (by omega)
  have hD := fun p q => shr32 prog 114 p q x .u64 n (by omega)
  simp only [rotr, BitVec.or_comm (x >>> n)]
  generalize (32 - n : Nat) = m at hA hB hC hD ⊢
  simp [bodyV, f154, hA, hB, hC, hD]
/-- A word mixed with rotations of it. -/
def mixL (x : W32) (l : List Nat) : W32 := l.foldl (fun a n => a ^^^ rotr x n) 0
def natsV (l : List Nat) : List (List V) := l.map fun (n : Nat) => [.sc (.int .i64 (n : Int))]
@[simp] theorem natsV_length (l : List Nat) : (natsV l).length = l.length := by simp [natsV]
theorem foldl_take_succ {α β : Type} (f : β → α → β) (b : β) (l : List α) (i : Nat) (h : i < l.length) : (l.take (i + 1)).foldl f b = f ((l.take i).foldl f b) l[i] := by
  rw [List.take_succ_eq_append_getElem h, List.foldl_append]; rfl
theorem wrapI (i : Nat) (h : i < 1000000000000) : IntKind.i64.wrap (i : Int) = (i : Int) := wrap64_of (by omega) (by omega)
theorem wrapneg (i : Nat) (h : i < 1000000000000) : IntKind.i64.wrap (-(i : Int)) = -(i : Int) := wrap64_of (by omega) (by omega)
set_option pp.deepTerms true
set_option pp.maxSteps 100000
theorem mixed_loop (x : W32) (l : List Nat) (hl : ∀ n ∈ l, 0 < n ∧ n < 32) (hlen : l.length < 1000) : ∀ (d i : Nat), i + d = l.length →
    T0.code 144 (.loop (lp f144 0)) ⟨[.sc (.int .u32 (w x)), .unk, .unk, .unk, .unk, .sc (.int .u32 (w (mixL x (l.take i)))), .unk, .unk, .list 1 (natsV l) .no, .sc (.int .i64 l.length), .sc (.int .i64 i), .unk, .unk, .unk, .unk, .unk, .unk, .unk, .unk, .unk, .unk, .unk], []⟩ =
      some (.exit 0, ⟨[.sc (.int .u32 (w x)), .unk, .unk, .unk, .unk, .sc (.int .u32 (w (mixL x l))), .unk, .unk, .list 1 (natsV l) .no, .sc (.int .i64 l.length), .sc (.int .i64 l.length), .sc (.bool false), .unk, .unk, .unk, .unk, .unk, .unk, .unk, .unk, .unk, .unk], []⟩) := by
  intro d
  induction d with
  | zero =>
    intro i hi
    obtain rfl : i = l.length := by omega
    rw [k_loop]
    simp [lp, f144, loopsOf, List.take_length]
  | succ d ih =>
    intro i hi
    have hlt : i < l.length := by omega
    have hlt' : (i : Int) < l.length := by omega
    have hm := hl l[i] (List.getElem_mem hlt)
    have hr : ∀ h, T0.call 154 [.sc (.int .u32 (w x)), .sc (.int .i64 (-(l[i] : Int)))] h = some (.sc (.int .u32 (w (rotr x l[i]))), h) := fun h => rot_154 x l[i] hm h
    rw [k_loop]
    simp [lp, f144, loopsOf, hlt, hlt', natsV, callVal, callFn, wrapneg l[i] (by omega), hr, wrapN i (by omega)]
    have := ih (i + 1) (by omega)
    rw [show mixL x (l.take (i + 1)) = mixL x (l.take i) ^^^ rotr x l[i] from foldl_take_succ _ _ _ _ hlt] at this
    exact this
theorem mixed_144 (x : W32) (l : List Nat) (hl : ∀ n ∈ l, 0 < n ∧ n < 32) (hlen : l.length < 1000) (h : H) : T0.call 144 [.sc (.int .u32 (w x)), .list 1 (natsV l) .no] h = some (.sc (.int .u32 (w (mixL x l))), h) := by
  rw [k_D C0 rfl func144 (body := _) rfl (by decide +kernel) (args' := [.sc (.int .u32 (w x)), .list 1 (natsV l) .no]) (h1 := h) (by simp [f144]) (by simp)]
  simp [bodyV, f144]
  generalize hx : T0.code 144 (.loop _) _ = y
  obtain rfl := hx.symm.trans (mixed_loop x l hl hlen l.length 0 (by omega))
  clear hx
  simp
end Go.Rg
namespace Go.Rg
open Go Go.Pv Go.Proofs.Tryz Go.Sha
set_option maxRecDepth 100000
set_option linter.unusedSimpArgs false
set_option maxHeartbeats 4000000
def bV (l : List UInt8) : List (List V) := l.map fun b => [.sc (.int .u8 (u8i b))]
theorem zv187 : zeroV prog 187 = some (wV (List.replicate 64 0)) := by kernel_rfl
theorem ct187 : cellTys prog tyD 187 = List.replicate 64 none := by kernel_rfl
theorem zv190 : zeroV prog 190 = some (List.replicate 32 (.sc (.int .u8 0))) := by kernel_rfl
attribute [simp] zv187 zv190
@[simp] theorem wV_length (l : List W32) : (wV l).length = l.length := by simp [wV]
@[simp] theorem bV_length (l : List UInt8) : (bV l).length = l.length := by simp [bV]
@[simp high] theorem take_wV (l : List W32) (i : Nat) (h : i < l.length) : takeAt (wV l) i 1 = some [.sc (.int .u32 (w l[i]))] := by
  have h' : i < (wV l).length := by simpa using h
  have : ((wV l).drop i).take 1 = [(wV l)[i]] := by rw [List.drop_eq_getElem_cons h']; rfl
  simp only [takeAt, this]; simp [wV]
@[simp high] theorem put_wV (l : List W32) (i : Nat) (h : i < l.length) (y : W32) : putAt (wV l) i [.sc (.int .u32 (w y))] = some (wV (l.set i y)) := by
  have : (wV l).take i ++ [V.sc (.int .u32 (w y))] ++ (wV l).drop (i + 1) = wV (l.set i y) := by
    rw [List.set_eq_take_append_cons_drop, if_pos h]; simp [wV, List.map_take, List.map_drop]
  simp only [putAt, wV_length, List.length_singleton, this]
  rw [if_pos (by omega)]
theorem bV_get (l : List UInt8) (i : Nat) (h : i < l.length) : (bV l)[i]? = some [.sc (.int .u8 (u8i l[i]))] := by simp [bV, h]
@[simp high] theorem conv8_32 (own : Bool) (b : UInt8) : convertV prog own 5 114 (.sc (.int .u8 (u8i b))) = .ret (.sc (.int .u32 (w (BitVec.ofNat 32 b.toNat)))) := by
  rw [conv_5_114, u8i, wrap32]
theorem words_spec : ∀ (n : Nat) (b : List UInt8), b.length = 4 * n → (words b).length = n ∧ ∀ i, (h : 4 * i + 3 < b.length) → (words b)[i]? = some (be b[4*i] b[4*i+1] b[4*i+2] b[4*i+3])
  | 0, b, h => by
    have : b = [] := List.length_eq_zero_iff.1 (by omega)
    subst this; simp [words]
  | n + 1, b, h => by
    match b, h with
    | a :: c :: d :: e :: r, h =>
      have h' : r.length = 4 * n := by simp at h; omega
      obtain ⟨h1, h2⟩ := words_spec n r h'
      refine ⟨by simp [words, h1], fun i hi => ?_⟩
      cases i with
      | zero => simp [words]
      | succ i =>
        have hi' : 4 * i + 3 < r.length := by simp at hi; omega
        have := h2 i hi'
        simp only [words, List.getElem?_cons_succ, this]
        rfl
theorem grow_succ : ∀ (n : Nat) (l : List W32), grow (n + 1) l = grow n l ++ [nextW (grow n l)]
  | 0, l => rfl
  | n + 1, l => by rw [grow, grow_succ n (l ++ [nextW l])]; rfl
theorem grow_length : ∀ (n : Nat) (l : List W32), (grow n l).length = l.length + n
  | 0, l => rfl
  | n + 1, l => by rw [grow, grow_length n]; simp; omega
theorem set_pad (g : List W32) (n : Nat) (y : W32) : (g ++ List.replicate (n + 1) 0).set g.length y = (g ++ [y]) ++ List.replicate n 0 := by
  rw [List.set_append_right _ _ (Nat.le_refl _)]; simp [List.replicate_succ]
theorem sched1_loop (b : List UInt8) (hb : b.length = 64) : ∀ (d i : Nat), i + d = 16 →
    T0.code 143 (.loop (lp f143 0)) ⟨envAt 84 [(0, .list 1 (bV b) .no), (2, .ref 0 0), (7, .sc (.int .i64 i))], [.cells 187 (wV ((words b).take i ++ List.replicate (64 - i) 0))]⟩ =
    some (.exit 0, ⟨envAt 84 [(0, .list 1 (bV b) .no), (2, .ref 0 0), (7, .sc (.int .i64 16)), (8, .sc (.bool false))], [.cells 187 (wV (words b ++ List.replicate 48 0))]⟩) := by
  obtain ⟨hw1, hw2⟩ := words_spec 16 b (by omega)
  intro d
  induction d with
  | zero =>
    intro i hi
    obtain rfl : i = 16 := by omega
    rw [k_loop]
    have : (words b).take 16 = words b := List.take_of_length_le (by omega)
    simp [lp, f143, loopsOf, this, -List.reduceReplicate]
  | succ d ih =>
    intro i hi
    have hlt : (i : Int) < 16 := by omega
    have hlen : ((words b).take i ++ List.replicate (64 - i) (0 : W32)).length = 64 := by simp; omega
    have hset : ((words b).take i ++ List.replicate (64 - i) (0 : W32)).set i (be b[4*i] b[4*i+1] b[4*i+2] b[4*i+3]) = (words b).take (i + 1) ++ List.replicate (64 - (i + 1)) 0 := by
      have e : 64 - i = (64 - (i + 1)) + 1 := by omega
      have hl : ((words b).take i).length = i := by simp; omega
      have := set_pad ((words b).take i) (64 - (i + 1)) (be b[4*i] b[4*i+1] b[4*i+2] b[4*i+3])
      rw [hl] at this
      rw [e, this, List.take_add_one, hw2 i (by omega)]; rfl
    have key := ih (i + 1) (by omega)
    rw [← hset] at key
    generalize ((words b).take i ++ List.replicate (64 - i) (0 : W32)) = W at hlen key
    have l0 := bV_get b (4 * i) (by omega)
    have l1 := bV_get b (4 * i + 1) (by omega)
    have l2 := bV_get b (4 * i + 2) (by omega)
    have l3 := bV_get b (4 * i + 3) (by omega)
    have m0 : IntKind.i64.wrap (4 * (i : Int)) = ((4 * i : Nat) : Int) := by rw [wrap64_of] <;> omega
    have m1 : IntKind.i64.wrap (((4 * i : Nat) : Int) + 1) = ((4 * i + 1 : Nat) : Int) := by rw [wrap64_of] <;> omega
    have m2 : IntKind.i64.wrap (((4 * i : Nat) : Int) + 2) = ((4 * i + 2 : Nat) : Int) := by rw [wrap64_of] <;> omega
    have m3 : IntKind.i64.wrap (((4 * i : Nat) : Int) + 3) = ((4 * i + 3 : Nat) : Int) := by rw [wrap64_of] <;> omega
    unfold be at key
    generalize b[4*i] = x0 at key l0
    generalize b[4*i+1] = x1 at key l1
    generalize b[4*i+2] = x2 at key l2
    generalize b[4*i+3] = x3 at key l3
    have hb3 : ((4 * i + 3 : Nat) : Int) < 64 := by omega
    have hb2 : ((4 * i + 2 : Nat) : Int) < 64 := by omega
    have hb1 : ((4 * i + 1 : Nat) : Int) < 64 := by omega
    have hb0 : ((4 * i : Nat) : Int) < 64 := by omega
    generalize 4 * i + 3 = j3 at m3 l3 hb3
    generalize 4 * i + 2 = j2 at m2 l2 hb2
    generalize 4 * i + 1 = j1 at m1 l1 hb1
    generalize 4 * i = j0 at m0 m1 m2 m3 l0 hb0
    have sh := fun p q x k => shl32 prog 114 p q x .u64 k
    have s1 : ∀ p q x, _ := fun p q x => sh p q x 24 (by decide)
    have s2 : ∀ p q x, _ := fun p q x => sh p q x 16 (by decide)
    have s3 : ∀ p q x, _ := fun p q x => sh p q x 8 (by decide)
    rw [k_loop]
    have hi64 : (i : Int) < 64 := by omega
    have hi64' : i < 64 := by omega
    simp only [Int.cast_ofNat_Int] at s1 s2 s3
    simp [lp, f143, loopsOf, hlt, m0, m1, m2, m3, l0, l1, l2, l3, s1, s2, s3, hlen, hb, hb0, hb1, hb2, hb3, hi64, hi64', wrapN i (by omega), -List.reduceReplicate, put_wV W i (by omega)]
    exact key
end Go.Rg
namespace Go.Rg
open Go Go.Pv Go.Proofs.Tryz Go.Sha
set_option maxRecDepth 100000
set_option linter.unusedSimpArgs false
set_option maxHeartbeats 4000000
theorem mix2 (x : W32) (a b : Nat) (ha : 0 < a ∧ a < 32) (hb : 0 < b ∧ b < 32) (h : H) : T0.call 144 [.sc (.int .u32 (w x)), .list 1 [[.sc (.int .i64 (a : Int))], [.sc (.int .i64 (b : Int))]] .no] h = some (.sc (.int .u32 (w (rotr x a ^^^ rotr x b))), h) := by
  have := mixed_144 x [a, b] (by simp [ha, hb]) (by simp) h
  simpa [natsV, mixL] using this
theorem mix3 (x : W32) (a b c : Nat) (ha : 0 < a ∧ a < 32) (hb : 0 < b ∧ b < 32) (hc : 0 < c ∧ c < 32) (h : H) : T0.call 144 [.sc (.int .u32 (w x)), .list 1 [[.sc (.int .i64 (a : Int))], [.sc (.int .i64 (b : Int))], [.sc (.int .i64 (c : Int))]] .no] h = some (.sc (.int .u32 (w (rotr x a ^^^ rotr x b ^^^ rotr x c))), h) := by
  have := mixed_144 x [a, b, c] (by simp [ha, hb, hc]) (by simp) h
  simpa [natsV, mixL] using this
theorem get_pad (g r : List W32) (j : Nat) (h : j < g.length) : takeAt (wV (g ++ r)) j 1 = some [.sc (.int .u32 (w (g.getD j 0)))] := by
  have hj : j < (g ++ r).length := by simp; omega
  rw [take_wV _ _ hj]
  simp [List.getElem_append_left h, h]
theorem sched2_loop (b : List UInt8) (hb : b.length = 64) : ∀ (d i : Nat), i + d = 64 → 16 ≤ i →
    T0.code 143 (.loop (lp f143 1)) ⟨envAt 84 [(2, .ref 0 0), (4, .sc (.int .i64 i))], [.cells 187 (wV (grow (i - 16) (words b) ++ List.replicate (64 - i) 0))]⟩ =
    some (.exit 2, ⟨envAt 84 [(2, .ref 0 0), (4, .sc (.int .i64 64)), (47, .sc (.bool false))], [.cells 187 (wV (sched b))]⟩) := by
  obtain ⟨hw1, _⟩ := words_spec 16 b (by omega)
  intro d
  induction d with
  | zero =>
    intro i hi h16
    obtain rfl : i = 64 := by omega
    rw [k_loop]
    simp [lp, f143, loopsOf, sched, -List.reduceReplicate]
  | succ d ih =>
    intro i hi h16
    have hlt : (i : Int) < 64 := by omega
    have hi64' : i < 64 := by omega
    have hg : (grow (i - 16) (words b)).length = i := by rw [grow_length]; omega
    have key := ih (i + 1) (by omega) (by omega)
    rw [show i + 1 - 16 = (i - 16) + 1 by omega, grow_succ] at key
    generalize grow (i - 16) (words b) = g at hg key
    have e : 64 - i = (64 - (i + 1)) + 1 := by omega
    have hset := set_pad g (64 - (i + 1)) (nextW g)
    rw [hg, ← e] at hset
    rw [← hset] at key
    have t15 := get_pad g (List.replicate (64 - i) 0) (i - 15) (by omega)
    have t2 := get_pad g (List.replicate (64 - i) 0) (i - 2) (by omega)
    have t16 := get_pad g (List.replicate (64 - i) 0) (i - 16) (by omega)
    have t7 := get_pad g (List.replicate (64 - i) 0) (i - 7) (by omega)
    have m15 : IntKind.i64.wrap ((i : Int) - 15) = ((i - 15 : Nat) : Int) := by rw [wrap64_of] <;> omega
    have m2 : IntKind.i64.wrap ((i : Int) - 2) = ((i - 2 : Nat) : Int) := by rw [wrap64_of] <;> omega
    have m16 : IntKind.i64.wrap ((i : Int) - 16) = ((i - 16 : Nat) : Int) := by rw [wrap64_of] <;> omega
    have m7 : IntKind.i64.wrap ((i : Int) - 7) = ((i - 7 : Nat) : Int) := by rw [wrap64_of] <;> omega
    unfold nextW at key
    simp only [hg] at key
    have hWl : (g ++ List.replicate (64 - i) (0 : W32)).length = 64 := by simp; omega
    generalize g ++ List.replicate (64 - i) (0 : W32) = W at t15 t2 t16 t7 key hWl
    generalize g.getD (i - 15) 0 = x15 at t15 key
    generalize g.getD (i - 2) 0 = x2 at t2 key
    generalize g.getD (i - 16) 0 = x16 at t16 key
    generalize g.getD (i - 7) 0 = x7 at t7 key
    have l15 : ((i - 15 : Nat) : Int) < 64 := by omega
    have l2 : ((i - 2 : Nat) : Int) < 64 := by omega
    have l16 : ((i - 16 : Nat) : Int) < 64 := by omega
    have l7 : ((i - 7 : Nat) : Int) < 64 := by omega
    generalize i - 15 = j15 at m15 t15 l15
    generalize i - 2 = j2 at m2 t2 l2
    generalize i - 16 = j16 at m16 t16 l16
    generalize i - 7 = j7 at m7 t7 l7
    have r3 : ∀ p q x, _ := fun p q x => shr32 prog 114 p q x .u64 3 (by decide)
    have r10 : ∀ p q x, _ := fun p q x => shr32 prog 114 p q x .u64 10 (by decide)
    have c1 : ∀ x, _ := fun x => mix2 x 7 18 (by decide) (by decide) []
    have c2 : ∀ x, _ := fun x => mix2 x 17 19 (by decide) (by decide) []
    simp only [Int.cast_ofNat_Int] at r3 r10 c1 c2
    rw [k_loop]
    simp [lp, f143, loopsOf, hlt, hi64', m15, m2, m16, m7, l15, l2, l16, l7, t15, t2, t16, t7, r3, r10, c1, c2, func144, params144, callHP, isRes, wrapN i (by omega), put_wV W i (by omega)]
    exact key
theorem sched_143 (b : List UInt8) (hb : b.length = 64) (h : H) : T0.call 143 [.list 1 (bV b) .no] h = some (.agg (wV (sched b)), h) := by
  rw [k_D C0 rfl func143 (body := _) rfl (by decide +kernel) (args' := [.list 1 (bV b) .no]) (h1 := h) (by simp [f143]) (by simp)]
  simp [f143, -List.reduceReplicate]
  generalize hx : T0.code 143 (.loop _) _ = y
  obtain rfl := hx.symm.trans (sched1_loop b hb 16 0 (by omega))
  clear hx
  simp [-List.reduceReplicate]
  generalize hx : T0.code 143 (.loop _) _ = y
  have key := sched2_loop b hb 48 16 (by omega) (by omega)
  obtain rfl := hx.symm.trans key
  clear hx key
  have hl : (sched b).length = 64 := by rw [sched, grow_length, (words_spec 16 b (by omega)).1]
  have ht : takeAt (wV (sched b)) 0 64 = some (wV (sched b)) := by
    rw [takeAt, List.drop_zero, List.take_of_length_le (by simp [hl])]; simp [hl]
  have hp : putAt (wV (sched b)) 0 (wV (sched b)) = some (wV (sched b)) := by
    simp [putAt, hl, List.drop_eq_nil_of_le]
  have hc : (wV (sched b)).all isCell = true := by simp [wV]
  have hn : wV (sched b) ≠ [] := by intro e; have := congrArg List.length e; simp [hl] at this
  have hd : ∀ x ∈ wV (sched b), isD x = true := by simp [wV]
  have hnc : (normCells (cellTys prog tyD 187) (wV (sched b))) = .ret (wV (sched b)) := by
    rw [ct187]
    have : ∀ (n : Nat) (l : List W32), l.length = n → normCells (List.replicate n none) (wV l) = .ret (wV l) := by
      intro n
      induction n with
      | zero => intro l hl; have : l = [] := List.length_eq_zero_iff.1 hl; subst this; rfl
      | succ n ih =>
        intro l hl
        cases l with
        | nil => simp at hl
        | cons x l => simp at hl; have := ih l hl; simp [wV, List.replicate_succ, normCells, normCell] at this ⊢; simp [this]
    exact this 64 _ hl
  simp [-List.reduceReplicate, ht, hp, hc, hn, hl, hnc]
  exact fun x hx => hd x hx
end Go.Rg
namespace Go.Rg
open Go Go.Pv Go.Proofs.Tryz Go.Sha
set_option maxRecDepth 100000
set_option linter.unusedSimpArgs false
set_option maxHeartbeats 4000000
theorem mapM_wV (l : List W32) : (wV l).mapM scal = some (l.map fun x => Value.int .u32 (w x)) := by
  induction l with
  | nil => rfl
  | cons x l ih => simp only [wV, List.map_cons, List.mapM_cons] at ih ⊢; rw [ih]; rfl
theorem size114 : pureRun prog (sizeOf 114) = some 1 := by kernel_rfl
theorem agg114 : pureRun prog (isAgg 114) = some false := by kernel_rfl
theorem index_w (t : TypeId) (n : Nat) (k : IntKind) (l : List W32) (ht : prog.underlying t = some (.array n 114)) (i : Nat) (hn : l.length = n) (hi : i < n) :
    pureV prog (Instr.index t (.agg (l.map fun x => Value.int .u32 (w x)).toArray) (.int k (i : Int))) = .ret (.sc (.int .u32 (w (l.getD i 0)))) := by
  have : pureRun prog (Instr.index t (.agg (l.map fun x => Value.int .u32 (w x)).toArray) (.int k (i : Int))) = some (.int .u32 (w (l.getD i 0))) := by
    simp [Instr.index, pureRun_bind, pureRun_underlying ht, pureRun_pure, asIntOf, hi, hn, part, size114, agg114]
  simp [pureV, this, ofVal]
theorem take_all (l : List W32) (n : Nat) (h : l.length = n) : takeAt (wV l) 0 n = some (wV l) := by
  rw [takeAt, List.drop_zero, List.take_of_length_le (by simp [h])]; simp [h]
theorem wV8 (a b c d e f g h : W32) : wV [a, b, c, d, e, f, g, h] = [.sc (.int .u32 (w a)), .sc (.int .u32 (w b)), .sc (.int .u32 (w c)), .sc (.int .u32 (w d)), .sc (.int .u32 (w e)), .sc (.int .u32 (w f)), .sc (.int .u32 (w g)), .sc (.int .u32 (w h))] := rfl
theorem len_kTab : kTab.length = 64 := by decide +kernel
theorem add1_loop (W : List W32) (hW : W.length = 64) (o0 o1 o2 o3 o4 : Ob) : ∀ (d i : Nat) (v : S8), i + d = 64 →
    T0.code 124 (.loop (lp f124 0)) ⟨envAt 97 [(0, .ref 0 0), (4, .ref 5 0), (5, .ref 6 0), (18, .agg (wV kTab)), (19, .sc (.int .i64 i))], [o0, o1, o2, o3, o4, .cells 187 (wV W), .cells 166 (wV v.l)]⟩ =
      some (.exit 0, ⟨envAt 97 [(0, .ref 0 0), (4, .ref 5 0), (5, .ref 6 0), (18, .agg (wV kTab)), (19, .sc (.int .i64 64)), (20, .sc (.bool false))], [o0, o1, o2, o3, o4, .cells 187 (wV W), .cells 166 (wV (((kTab.zip W).drop i).foldl rnd v).l)]⟩) := by
  intro d
  induction d with
  | zero =>
    intro i v hi
    obtain rfl : i = 64 := by omega
    rw [k_loop]
    have : (kTab.zip W).drop 64 = [] := List.drop_eq_nil_of_le (by simp [len_kTab, hW])
    simp [lp, f124, loopsOf, this]
  | succ d ih =>
    intro i v hi
    have hlt : (i : Int) < 64 := by omega
    have hi64 : i < 64 := by omega
    have hk := index_w 187 64 .i64 kTab un187 i len_kTab hi64
    have hw := take_wV W i (by omega)
    have hz : i < (kTab.zip W).length := by simp [len_kTab, hW, hi64]
    have hstep : ((kTab.zip W).drop i).foldl rnd v = ((kTab.zip W).drop (i + 1)).foldl rnd (rnd v (kTab.getD i 0, W[i])) := by
      rw [List.drop_eq_getElem_cons hz, List.foldl_cons]
      congr 2
      simp [List.getElem_zip, len_kTab, hi64]
    rw [hstep]
    have key := ih (i + 1) (rnd v (kTab.getD i 0, W[i])) (by omega)
    generalize hR : some (Ex.exit 0, (⟨envAt 97 [(0, .ref 0 0), (4, .ref 5 0), (5, .ref 6 0), (18, .agg (wV kTab)), (19, .sc (.int .i64 64)), (20, .sc (.bool false))], [o0, o1, o2, o3, o4, .cells 187 (wV W), .cells 166 (wV (((kTab.zip W).drop (i + 1)).foldl rnd (rnd v (kTab.getD i 0, W[i]))).l)]⟩ : St)) = R at key ⊢
    clear hR hstep ih
    generalize kTab.getD i 0 = k at hk key
    generalize W[i] = x at hw key
    obtain ⟨a, b, c, d, e, f, g, h⟩ := v
    simp only [rnd, Sha.t1, Sha.t2, S8.l] at key
    unfold S8.l
    have c1 : ∀ x, _ := fun x => mix3 x 6 11 25 (by decide) (by decide) (by decide) []
    have c2 : ∀ x, _ := fun x => mix3 x 2 13 22 (by decide) (by decide) (by decide) []
    simp only [Int.cast_ofNat_Int] at c1 c2
    have hm := mapM_wV kTab
    rw [k_loop]
    generalize hK : wV kTab = K at hm key ⊢
    simp [lp, f124, loopsOf, hlt, hi64, hm, hk, hw, c1, c2, func144, params144, callHP, isRes, rep3, wrapN i (by omega), copyV, wV8]
    exact key
theorem add2_loop (s v : S8) (o1 o2 o3 o4 o5 : Ob) :
    T0.code 124 (.loop (lp f124 1)) ⟨envAt 97 [(0, .ref 0 0), (5, .ref 6 0), (82, .sc (.int .i64 0))], [.cells 166 (wV s.l), o1, o2, o3, o4, o5, .cells 166 (wV v.l)]⟩ =
      some (.exit 2, ⟨envAt 97 [(0, .ref 0 0), (5, .ref 6 0), (82, .sc (.int .i64 8)), (83, .sc (.bool false))], [.cells 166 (wV (s.add v).l), o1, o2, o3, o4, o5, .cells 166 (wV v.l)]⟩) := by
  have m : ∀ i : Nat, i < 8 → IntKind.i64.wrap ((i : Int) + 1) = ((i + 1 : Nat) : Int) := fun i hi => by rw [wrap64_of] <;> omega
  have m0 := m 0 (by decide)
  have m1 := m 1 (by decide)
  have m2 := m 2 (by decide)
  have m3 := m 3 (by decide)
  have m4 := m 4 (by decide)
  have m5 := m 5 (by decide)
  have m6 := m 6 (by decide)
  have m7 := m 7 (by decide)
  simp at m0 m1 m2 m3 m4 m5 m6 m7
  obtain ⟨a, b, c, d, e, f, g, h⟩ := v
  obtain ⟨a', b', c', d', e', f', g', h'⟩ := s
  simp only [S8.l, S8.add, wV8]
  simp [lp, f124, loopsOf, k_loop, m0, m1, m2, m3, m4, m5, m6, m7]
end Go.Rg
namespace Go.Rg
open Go Go.Pv Go.Proofs.Tryz Go.Sha
set_option maxRecDepth 100000
set_option linter.unusedSimpArgs false
set_option maxHeartbeats 4000000
theorem add_124 (s : S8) (b : List UInt8) (hb : b.length = 64) (o1 o2 o3 o4 : Ob) (h1 : Ob.ltN 5 o1 = true) (h2 : Ob.ltN 5 o2 = true) (h3 : Ob.ltN 5 o3 = true) (h4 : Ob.ltN 5 o4 = true) :
    T0.call 124 [.ref 0 0, .list 1 (bV b) .no] [.cells 166 (wV s.l), o1, o2, o3, o4] = some (.tup [], [.cells 166 (wV (block s b).l), o1, o2, o3, o4]) := by
  rw [k_R C0 rfl func124 (body := _) rfl (by decide +kernel) (args' := [.ref 0 0, .list 1 (bV b) .no]) (h1 := [.cells 166 (wV s.l), o1, o2, o3, o4]) (by simp [f124]) (by simp)]
  have hs := fun h => sched_143 b hb h
  have hl : (sched b).length = 64 := by rw [sched, grow_length, (words_spec 16 b (by omega)).1]
  have ht : takeAt (wV s.l) 0 8 = some (wV s.l) := take_all s.l 8 rfl
  have hk : takeAt (wV kTab) 0 64 = some (wV kTab) := take_all kTab 64 len_kTab
  have hp : putAt (wV (List.replicate 64 0#32)) 0 (wV (sched b)) = some (wV (sched b)) := by
    simp [putAt, hl, List.drop_eq_nil_of_le, -List.reduceReplicate]
  have hc : ∀ l : List W32, (wV l).all isCell = true := fun l => by simp [wV]
  have hn : wV (sched b) ≠ [] := by intro e; have := congrArg List.length e; simp [hl] at this
  have hn2 : wV s.l ≠ [] := by intro e; have := congrArg List.length e; simp [S8.l] at this
  have hl8 : s.l.length = 8 := rfl
  simp [f124, callVal, callFn, hs, ht, hp, hc, hn, hn2, hl, hl8, hk, len_kTab, -List.reduceReplicate]
  generalize hx : T0.code 124 (.loop _) _ = y
  obtain rfl := hx.symm.trans (add1_loop (sched b) hl (.cells 166 (wV s.l)) o1 o2 o3 o4 64 0 s rfl)
  clear hx
  simp [-List.reduceReplicate]
  generalize hx : T0.code 124 (.loop _) _ = y
  obtain rfl := hx.symm.trans (add2_loop s ((kTab.zip (sched b)).foldl rnd s) o1 o2 o3 o4 (.cells 187 (wV (sched b))))
  clear hx
  have hlt : ∀ l : List W32, (wV l).all (V.ltN 5) = true := fun l => by simp [wV, V.ltN, V.lt0]
  simp [gc, Ob.ltN, h1, h2, h3, h4, hlt, block]
  exact ⟨h1, h2, h3, h4⟩
end Go.Rg
namespace Go.Rg
open Go Go.Pv Go.Proofs.Tryz Go.Sha
set_option maxRecDepth 100000
set_option linter.unusedSimpArgs false
set_option maxHeartbeats 4000000
@[simp] theorem wrap_lit (n : Nat) (h : n < 9223372036854775808) : IntKind.i64.wrap (no_index (@OfNat.ofNat Int n (@instOfNat n))) = @OfNat.ofNat Int n (@instOfNat n) := by
  show IntKind.i64.wrap ((n : Nat) : Int) = ((n : Nat) : Int)
  rw [wrap64_of] <;> omega
@[simp] theorem wrap_neglit (n : Nat) (h : n < 9223372036854775808) : IntKind.i64.wrap (-(no_index (@OfNat.ofNat Int n (@instOfNat n)))) = -(@OfNat.ofNat Int n (@instOfNat n)) := by
  show IntKind.i64.wrap (-((n : Nat) : Int)) = -((n : Nat) : Int)
  rw [wrap64_of] <;> omega
def cV (l : List UInt8) : List V := l.map fun b => .sc (.int .u8 (u8i b))
@[simp] theorem cV_length (l : List UInt8) : (cV l).length = l.length := by simp [cV]
theorem u8_w (x : W32) : IntKind.u8.wrap (w x) = u8i (lo x) := by
  have e1 : ((2 : Int) ^ IntKind.u8.bits) = 256 := by decide
  simp only [IntKind.wrap, e1, IntKind.signed, Bool.false_and, Bool.false_eq_true, if_false, w, u8i, lo]
  simp
theorem put_cV (l : List UInt8) (i : Nat) (h : i < l.length) (y : UInt8) : putAt (cV l) i [.sc (.int .u8 (u8i y))] = some (cV (l.set i y)) := by
  have : (cV l).take i ++ [V.sc (.int .u8 (u8i y))] ++ (cV l).drop (i + 1) = cV (l.set i y) := by
    rw [List.set_eq_take_append_cons_drop, if_pos h]; simp [cV, List.map_take, List.map_drop]
  simp only [putAt, cV_length, List.length_singleton, this]
  rw [if_pos (by omega)]
theorem dig_inner (l : List W32) (x : W32) (i : Nat) (hi : i < 8) (o0 : Ob) (out : List UInt8) (ho : out.length = 32) :
    T0.code 125 (.loop (lp f125 1)) ⟨envAt 30 [(3, .ref 1 0), (4, .sc (.int .i64 i)), (5, .sc (.int .u32 (w x))), (7, .agg (wV l)), (8, .sc (.int .i64 i)), (12, .sc (.int .i64 0))], [o0, .cells 190 (cV out)]⟩ =
      some (.exit 2, ⟨envAt 30 [(3, .ref 1 0), (4, .sc (.int .i64 i)), (5, .sc (.int .u32 (w x))), (7, .agg (wV l)), (8, .sc (.int .i64 i)), (12, .sc (.int .i64 4)), (13, .sc (.bool false))],
        [o0, .cells 190 (cV ((((out.set (4 * i) (lo (x >>> 24))).set (4 * i + 1) (lo (x >>> 16))).set (4 * i + 2) (lo (x >>> 8))).set (4 * i + 3) (lo x)))]⟩) := by
  have m0 : IntKind.i64.wrap (4 * (i : Int)) = ((4 * i : Nat) : Int) := by rw [wrap64_of] <;> omega
  have n0 : IntKind.i64.wrap (((4 * i : Nat) : Int)) = ((4 * i : Nat) : Int) := by rw [wrap64_of] <;> omega
  have m1 : IntKind.i64.wrap (((4 * i : Nat) : Int) + 1) = ((4 * i + 1 : Nat) : Int) := by rw [wrap64_of] <;> omega
  have m2 : IntKind.i64.wrap (((4 * i : Nat) : Int) + 2) = ((4 * i + 2 : Nat) : Int) := by rw [wrap64_of] <;> omega
  have m3 : IntKind.i64.wrap (((4 * i : Nat) : Int) + 3) = ((4 * i + 3 : Nat) : Int) := by rw [wrap64_of] <;> omega
  have p0 := fun l (hl : List.length l = 32) y => put_cV l (4 * i) (by omega) y
  have p1 := fun l (hl : List.length l = 32) y => put_cV l (4 * i + 1) (by omega) y
  have p2 := fun l (hl : List.length l = 32) y => put_cV l (4 * i + 2) (by omega) y
  have p3 := fun l (hl : List.length l = 32) y => put_cV l (4 * i + 3) (by omega) y
  have b0 : ((4 * i : Nat) : Int) < 32 := by omega
  have b1 : ((4 * i + 1 : Nat) : Int) < 32 := by omega
  have b2 : ((4 * i + 2 : Nat) : Int) < 32 := by omega
  have b3 : ((4 * i + 3 : Nat) : Int) < 32 := by omega
  generalize 4 * i + 3 = j3 at m3 p3 b3 ⊢
  generalize 4 * i + 2 = j2 at m2 p2 b2 ⊢
  generalize 4 * i + 1 = j1 at m1 p1 b1 ⊢
  generalize 4 * i = j0 at m0 m1 m2 m3 n0 p0 b0 ⊢
  have s0 : ∀ p q x, _ := fun p q x => shr32 prog 114 p q x .i64 24 (by decide)
  have s1 : ∀ p q x, _ := fun p q x => shr32 prog 114 p q x .i64 16 (by decide)
  have s2 : ∀ p q x, _ := fun p q x => shr32 prog 114 p q x .i64 8 (by decide)
  have s3 : ∀ p q x, _ := fun p q x => shr32 prog 114 p q x .i64 0 (by decide)
  simp at s0 s1 s2 s3
  simp [lp, f125, loopsOf, k_loop, m0, m1, m2, m3, n0, b0, b1, b2, b3, s0, s1, s2, s3, u8_w, p0, p1, p2, p3, ho]
theorem dig_loop (l : List W32) (hl : l.length = 8) (o0 : Ob) : ∀ (d i : Nat) (out : List UInt8), i + d = 8 → out.length = 32 →
    T0.code 125 (.loop (lp f125 0)) ⟨envAt 30 [(3, .ref 1 0), (7, .agg (wV l)), (8, .sc (.int .i64 i))], [o0, .cells 190 (cV out)]⟩ =
      some (.exit 0, ⟨envAt 30 [(3, .ref 1 0), (7, .agg (wV l)), (8, .sc (.int .i64 8)), (9, .sc (.bool false))], [o0, .cells 190 (cV (out.take (4 * i) ++ (l.drop i).flatMap bytes4))]⟩) := by
  intro d
  induction d with
  | zero =>
    intro i out hi ho
    obtain rfl : i = 8 := by omega
    rw [k_loop]
    have h1 : l.drop 8 = [] := List.drop_eq_nil_of_le (by omega)
    have h2 : out.take 32 = out := List.take_of_length_le (by omega)
    simp [lp, f125, loopsOf, h1, h2]
  | succ d ih =>
    intro i out hi ho
    have hlt : (i : Int) < 8 := by omega
    have hi8 : i < 8 := by omega
    have hk := index_w 166 8 .i64 l un166 i hl hi8
    have hm := mapM_wV l
    have hx : l[i]? = some l[i] := List.getElem?_eq_getElem (by omega)
    have hin := dig_inner l l[i] i hi8 o0 out ho
    have key := ih (i + 1) _ (by omega) (show ((((out.set (4 * i) (lo (l[i] >>> 24))).set (4 * i + 1) (lo (l[i] >>> 16))).set (4 * i + 2) (lo (l[i] >>> 8))).set (4 * i + 3) (lo l[i])).length = 32 by simpa using ho)
    have hres : ((((out.set (4 * i) (lo (l[i] >>> 24))).set (4 * i + 1) (lo (l[i] >>> 16))).set (4 * i + 2) (lo (l[i] >>> 8))).set (4 * i + 3) (lo l[i])).take (4 * (i + 1)) ++ (l.drop (i + 1)).flatMap bytes4 = out.take (4 * i) ++ (l.drop i).flatMap bytes4 := by
      rw [List.drop_eq_getElem_cons (show i < l.length by omega), List.flatMap_cons, ← List.append_assoc]
      congr 1
      apply List.ext_getElem?
      intro j
      simp only [List.getElem?_take, List.getElem?_set, List.getElem?_append, List.length_take, List.length_set, ho, bytes4]
      by_cases c1 : j < 4 * i
      · rw [if_pos (by omega), if_neg (by omega), if_neg (by omega), if_neg (by omega), if_neg (by omega), if_pos (by omega), if_pos c1]
      · by_cases c2 : j < 4 * (i + 1)
        · have : j = 4 * i ∨ j = 4 * i + 1 ∨ j = 4 * i + 2 ∨ j = 4 * i + 3 := by omega
          rcases this with rfl | rfl | rfl | rfl
          all_goals (have q0 : min (4 * i) 32 = 4 * i := by omega)
          all_goals (have q1 : 4 * i < 32 := by omega)
          all_goals (have q2 : 4 * i + 1 < 32 := by omega)
          all_goals (have q3 : 4 * i + 2 < 32 := by omega)
          all_goals (have q4 : 4 * i + 3 < 32 := by omega)
          all_goals (simp [q0, q1, q2, q3, q4, Nat.mul_add]; try omega)
        · rw [if_neg c2, if_neg (by omega)]
          simp; omega
    rw [hres] at key
    generalize hR : some (Ex.exit 0, (⟨envAt 30 [(3, .ref 1 0), (7, .agg (wV l)), (8, .sc (.int .i64 8)), (9, .sc (.bool false))], [o0, .cells 190 (cV (out.take (4 * i) ++ (l.drop i).flatMap bytes4))]⟩ : St)) = R at key ⊢
    rw [k_loop]
    simp [lp, f125, loopsOf, hlt, hi8, hm, hk, hx, wrapN i (by omega)]
    generalize hy : T0.code 125 (.loop _) _ = y
    obtain rfl := hy.symm.trans hin
    clear hy
    simp [wrapN i (by omega)]
    exact key
end Go.Rg
namespace Go.Rg
open Go Go.Pv Go.Proofs.Tryz Go.Sha
set_option maxRecDepth 100000
set_option linter.unusedSimpArgs false
set_option maxHeartbeats 4000000
theorem numsOf_bV (l : List UInt8) : numsOf (bV l) = some (l.map u8i) := by
  induction l with
  | nil => rfl
  | cons b l ih => simp only [bV, List.map_cons] at ih ⊢; simp only [numsOf, ih]; rfl
theorem strOf_u8 (l : List UInt8) : strOfNums (l.map u8i) = ⟨l.toArray⟩ := by
  simp [strOfNums, u8i, Function.comp_def]
theorem cV_rows (l : List UInt8) : (cV l).map (fun x => [x]) = bV l := by simp [cV, bV]
theorem digest_125 (s : S8) (h : H) : T0.call 125 [.agg (wV s.l)] h = some (.sc (.string ⟨(s.l.flatMap bytes4).toArray⟩), h) := by
  rw [k_D C0 rfl func125 (body := _) rfl (by decide +kernel) (args' := [.agg (wV s.l)]) (h1 := h) (by simp [f125, wV, S8.l]) (by simp [wV, S8.l])]
  have ht : takeAt (wV s.l) 0 8 = some (wV s.l) := take_all s.l 8 rfl
  have hz : List.replicate 32 (V.sc (.int .u8 0)) = cV (List.replicate 32 0) := by simp [cV, u8i]
  simp [f125, ht, -List.reduceReplicate]
  rw [hz]
  generalize hx : T0.code 125 (.loop _) _ = y
  obtain rfl := hx.symm.trans (dig_loop s.l rfl (.cells 166 (wV s.l)) 8 0 (List.replicate 32 0) rfl (by simp))
  clear hx
  have hlen : (s.l.flatMap bytes4).length = 32 := by simp [S8.l, bytes4]
  have hw : (cV (s.l.flatMap bytes4)).take 32 = cV (s.l.flatMap bytes4) := List.take_of_length_le (by simp [hlen])
  have hw' : (bV (s.l.flatMap bytes4)).take 32 = bV (s.l.flatMap bytes4) := List.take_of_length_le (by simp [hlen])
  simp [-List.reduceReplicate, hw, hw', cV_rows, numsOf_bV, hlen, strOf_u8]
end Go.Rg
namespace Go.Rg
open Go Go.Pv Go.Proofs.Tryz Go.Sha
set_option maxRecDepth 100000
set_option linter.unusedSimpArgs false
set_option maxHeartbeats 4000000
def rfOf : Code → Code × Code
  | .seq a b => match rfOf a with | (.skip, _) => rfOf b | r => r
  | .block _ a => rfOf a
  | .rangeFunc _ _ a b => (a, b)
  | _ => (.skip, .skip)
def rf (f : Func) : Code × Code := match f.body with | some b => rfOf b | none => (.skip, .skip)
theorem chunk_loop (P : List UInt8) (m : Nat) (hP : P.length = 64 * m) (hm : m < 100000000) (o1 : Ob) (h1 : Ob.ltN 5 o1 = true) : ∀ (d k : Nat) (s : S8), k + d = m →
    T0.code 142 (.loop (lp f142 0)) ⟨envAt 31 [(0, .yld 4), (1, .ref 2 0), (2, .ref 3 0), (4, .sc (.int .i64 (64 * k : Nat)))],
      [.cells 166 (wV s.l), o1, .cells 88 [.list 1 (bV P) .no], .cells 3 [.sc (.int .i64 64)], .loop .ready none 104 (envAt 40 [(2, .sc (.string ⟨#[]⟩)), (3, .ref 0 0), (34, .fn (.func 142) [] [.ref 2 0, .ref 3 0])]) [35] (rf f104).1 (rf f104).2]⟩ =
    some (.exit 0, ⟨envAt 31 [(0, .yld 4), (1, .ref 2 0), (2, .ref 3 0), (4, .sc (.int .i64 (64 * m : Nat))), (9, .sc (.bool false))],
      [.cells 166 (wV ((chunks d (P.drop (64 * k))).foldl block s).l), o1, .cells 88 [.list 1 (bV P) .no], .cells 3 [.sc (.int .i64 64)], .loop .ready none 104 (envAt 40 [(2, .sc (.string ⟨#[]⟩)), (3, .ref 0 0), (34, .fn (.func 142) [] [.ref 2 0, .ref 3 0])]) [35] (rf f104).1 (rf f104).2]⟩) := by
  intro d
  induction d with
  | zero =>
    intro k s hk
    obtain rfl : k = m := by omega
    rw [k_loop]
    have hl : ¬ ((64 * k : Nat) : Int) < P.length := by omega
    generalize 64 * k = j at hl
    simp [lp, f142, loopsOf, hl, chunks]
  | succ d ih =>
    intro k s hk
    have key := ih (k + 1) (block s ((P.drop (64 * k)).take 64)) (by omega)
    have hc : (chunks (d + 1) (P.drop (64 * k))).foldl block s = (chunks d (P.drop (64 * (k + 1)))).foldl block (block s ((P.drop (64 * k)).take 64)) := by
      simp [chunks, Nat.mul_add]
    rw [hc]
    generalize hR : some (Ex.exit 0, (⟨envAt 31 [(0, .yld 4), (1, .ref 2 0), (2, .ref 3 0), (4, .sc (.int .i64 (64 * m : Nat))), (9, .sc (.bool false))],
      [.cells 166 (wV ((chunks d (P.drop (64 * (k + 1)))).foldl block (block s ((P.drop (64 * k)).take 64))).l), o1, .cells 88 [.list 1 (bV P) .no], .cells 3 [.sc (.int .i64 64)], .loop .ready none 104 (envAt 40 [(2, .sc (.string ⟨#[]⟩)), (3, .ref 0 0), (34, .fn (.func 142) [] [.ref 2 0, .ref 3 0])]) [35] (rf f104).1 (rf f104).2]⟩ : St)) = R at key ⊢
    clear hR hc ih
    have hlt : 64 * k < P.length := by omega
    have hle : 64 * k ≤ P.length := by omega
    have hle2 : 64 * k + 64 ≤ P.length := by omega
    have htk : (bV P).take P.length = bV P := List.take_of_length_le (by simp)
    have hmin : ¬ ((P.length - 64 * k : Nat) : Int) < 64 := by omega
    have hw1 : IntKind.i64.wrap (((64 * k : Nat) : Int) + 64) = ((64 * k + 64 : Nat) : Int) := by rw [wrap64_of] <;> omega
    have hch : ((bV P).take (64 * k + 64)).drop (64 * k) = bV ((P.drop (64 * k)).take 64) := by
      rw [List.drop_take]; simp [bV, List.map_take, List.map_drop]
    have hcl : ((P.drop (64 * k)).take 64).length = 64 := by simp; omega
    have hadd := fun o4 h4 => add_124 s ((P.drop (64 * k)).take 64) hcl o1 (.cells 88 [.list 1 (bV P) .no]) (.cells 3 [.sc (.int .i64 64)]) o4 h1 rfl rfl h4
    rw [show 64 * (k + 1) = 64 * k + 64 by omega] at key
    generalize (P.drop (64 * k)).take 64 = c at hch hcl hadd key
    have hjj : 64 * k ≤ 64 * k + 64 := by omega
    generalize block s c = s' at hadd key
    generalize 64 * k + 64 = j' at hle2 hw1 hch hjj key
    generalize 64 * k = j at hlt hle hmin hw1 hch hjj ⊢
    rw [k_loop]
    simp [lp, f142, loopsOf, hlt, hle, hle2, hmin, hw1, hch, hjj, htk, callVal, yieldV, rf, rfOf, f104, setParams, callFn, hadd, Ob.ltN, V.ltN, V.lt0, V.lt1, jumpOf, gc, h1, c16_all]
    exact key
end Go.Rg
namespace Go.Rg
open Go Go.Pv Go.Proofs.Tryz Go.Sha
set_option maxRecDepth 100000
set_option linter.unusedSimpArgs false
set_option maxHeartbeats 4000000
@[simp] theorem in114 : (prog.info? 114).isSome = true := by kernel_rfl
theorem bytesV_bV (s : ByteArray) : bytesV s = bV s.data.toList := rfl
theorem bV_append (a b : List UInt8) : bV a ++ bV b = bV (a ++ b) := by simp [bV]
theorem bV_one (n : Nat) (hn : n < 256) : [[V.sc (.int .u8 (n : Int))]] = bV [UInt8.ofNat n] := by
  simp [bV, u8i, Nat.mod_eq_of_lt hn]
theorem app_tail (l : List UInt8) (y : UInt8) (id : Nat) (h : H) (ho : h[id]? = some (.tail 5 l.length)) (hl : l.length < 4000000000) :
    (appendV prog false 5 (.list 1 (bV l) (.tail id)) [[.sc (.int .u8 (u8i y))]]).run h = some (.list 1 (bV (l ++ [y])) (.tail id), h.set id (.tail 5 (l.length + 1))) := by
  have := append_tail_run (P := prog) (own := false) (e := 5) (bV l) (bV [y]) id (by
    show (elOk prog 5 && decide ((bV l).length + (bV [y]).length < lim)) = true
    rw [eo5, Bool.true_and, decide_eq_true_eq, bV_length, bV_length]
    show l.length + 1 < 4294967296
    omega) h (by rw [bV_length]; exact ho)
  rw [co5, bV_append] at this
  rw [show [[V.sc (.int .u8 (u8i y))]] = bV [y] from rfl, this, bV_length]; rfl
theorem u8_128 : (128 : Int) = u8i 128 := rfl
theorem zeros_loop (s : ByteArray) (o0 : Ob) (hs : s.size < 1000000000) : ∀ (d k : Nat), k + d = zeros s.size →
    T0.code 104 (.loop (lp f104 0)) ⟨envAt 40 [(0, .sc (.string s)), (2, .sc (.string ⟨#[]⟩)), (3, .ref 0 0), (4, .list 1 (bV (s.data.toList ++ [128] ++ List.replicate k 0)) (.tail 1))], [o0, .tail 5 (s.size + 1 + k)]⟩ =
    some (.exit 0, ⟨envAt 40 [(0, .sc (.string s)), (2, .sc (.string ⟨#[]⟩)), (3, .ref 0 0), (4, .list 1 (bV (s.data.toList ++ [128] ++ List.replicate (zeros s.size) 0)) (.tail 1)), (15, .sc (.bool false))], [o0, .tail 5 (s.size + 1 + zeros s.size)]⟩) := by
  intro d
  induction d with
  | zero =>
    intro k hk
    obtain rfl : k = zeros s.size := by omega
    have hlen : (s.data.toList ++ [128] ++ List.replicate (zeros s.size) 0).length = s.size + 1 + zeros s.size := by simp only [List.length_append, List.length_replicate, List.length_singleton]; rfl
    have hm : (((s.data.toList ++ [128] ++ List.replicate (zeros s.size) 0).length : Nat) : Int).tmod 64 = 56 := by
      rw [hlen, Int.tmod_eq_emod_of_nonneg (by omega)]; unfold zeros; omega
    rw [k_loop]
    generalize s.data.toList ++ [128] ++ List.replicate (zeros s.size) 0 = l at hm ⊢
    generalize s.size + 1 + zeros s.size = n
    simp [lp, f104, loopsOf, binOpV_rem, hm]
  | succ d ih =>
    intro k hk
    have hz : zeros s.size < 64 := by unfold zeros; omega
    have hlen : (s.data.toList ++ [128] ++ List.replicate k 0).length = s.size + 1 + k := by simp only [List.length_append, List.length_replicate, List.length_singleton]; rfl
    have hm : ¬ (((s.data.toList ++ [128] ++ List.replicate k 0).length : Nat) : Int).tmod 64 = 56 := by
      rw [hlen, Int.tmod_eq_emod_of_nonneg (by omega)]; unfold zeros at hk; omega
    have key := ih (k + 1) (by omega)
    have hrep : s.data.toList ++ [128] ++ List.replicate (k + 1) 0 = (s.data.toList ++ [128] ++ List.replicate k 0) ++ [(0 : UInt8)] := by
      rw [List.replicate_succ', List.append_assoc (s.data.toList ++ [128])]
    rw [hrep] at key
    have hap := app_tail (s.data.toList ++ [128] ++ List.replicate k 0) 0 1 [o0, .tail 5 (s.size + 1 + k)] (by rw [hlen]; rfl) (by omega)
    rw [hlen] at hap
    generalize s.data.toList ++ [128] ++ List.replicate k 0 = l at hm hap key ⊢
    rw [show s.size + 1 + (k + 1) = s.size + 1 + k + 1 by omega] at key
    generalize s.size + 1 + k = n at hap key ⊢
    have h0 : u8i 0 = 0 := rfl
    rw [h0] at hap
    rw [k_loop]
    generalize hR : some (Ex.exit 0, (_ : St)) = R at key ⊢
    simp [lp, f104, loopsOf, binOpV_rem, hm, builtin_append (P := prog) un88 (.inl ⟨_, un88⟩) eo5, hap]
    exact key
theorem len_loop (s : ByteArray) (o0 : Ob) (hs : s.size < 1000000000) (l : List UInt8) (hl : l.length < 3000000000) :
    T0.code 104 (.loop (lp f104 1)) ⟨envAt 40 [(0, .sc (.string s)), (2, .sc (.string ⟨#[]⟩)), (3, .ref 0 0), (4, .list 1 (bV l) (.tail 1)), (5, .sc (.int .i64 7))], [o0, .tail 5 l.length]⟩ =
    some (.exit 2, ⟨envAt 40 [(0, .sc (.string s)), (2, .sc (.string ⟨#[]⟩)), (3, .ref 0 0), (4, .list 1 (bV (l ++ len8 s.size)) (.tail 1)), (5, .sc (.int .i64 (-1))), (20, .sc (.bool false))], [o0, .tail 5 (l.length + 8)]⟩) := by
  have m8 : IntKind.i64.wrap (8 * (s.size : Int)) = ((8 * s.size : Nat) : Int) := by rw [wrap64_of] <;> omega
  have hsh : ∀ (i : Nat), i < 64 → ∀ p q, binOpV prog .shr 3 p q (.sc (.int .i64 ((8 * s.size : Nat) : Int))) (.sc (.int .i64 (i : Int))) = .ret (.sc (.int .i64 ((8 * s.size / 2 ^ i : Nat) : Int))) := by
    intro i hi p q
    rw [binOpV_shr 3 p q .i64 .i64 _ _ (by omega)]
    have hm : min ((i : Int).toNat) IntKind.i64.bits = i := by
      rw [Int.toNat_natCast]; exact Nat.min_eq_left (Nat.le_of_lt hi)
    rw [hm, Int.fdiv_eq_ediv_of_nonneg _ (Int.pow_nonneg (by decide)), Int.natCast_ediv, Int.natCast_pow]; rfl
  have hu : ∀ M : Nat, IntKind.u8.wrap (M : Int) = u8i (UInt8.ofNat M) := by
    intro M
    have e1 : ((2 : Int) ^ IntKind.u8.bits) = 256 := by decide
    simp only [IntKind.wrap, e1, IntKind.signed, Bool.false_and, Bool.false_eq_true, if_false, u8i]
    simp
  have h7 : ∀ p q, _ := fun p q => hsh 56 (by decide) p q
  have u7 := hu (8 * s.size / 2 ^ 56)
  have h6 : ∀ p q, _ := fun p q => hsh 48 (by decide) p q
  have u6 := hu (8 * s.size / 2 ^ 48)
  have h5 : ∀ p q, _ := fun p q => hsh 40 (by decide) p q
  have u5 := hu (8 * s.size / 2 ^ 40)
  have h4 : ∀ p q, _ := fun p q => hsh 32 (by decide) p q
  have u4 := hu (8 * s.size / 2 ^ 32)
  have h3 : ∀ p q, _ := fun p q => hsh 24 (by decide) p q
  have u3 := hu (8 * s.size / 2 ^ 24)
  have h2 : ∀ p q, _ := fun p q => hsh 16 (by decide) p q
  have u2 := hu (8 * s.size / 2 ^ 16)
  have h1 : ∀ p q, _ := fun p q => hsh 8 (by decide) p q
  have u1 := hu (8 * s.size / 2 ^ 8)
  have h0 : ∀ p q, _ := fun p q => hsh 0 (by decide) p q
  have u0 := hu (8 * s.size / 2 ^ 0)
  have hlen8 : len8 s.size = [UInt8.ofNat (8 * s.size / 2 ^ 56), UInt8.ofNat (8 * s.size / 2 ^ 48), UInt8.ofNat (8 * s.size / 2 ^ 40), UInt8.ofNat (8 * s.size / 2 ^ 32), UInt8.ofNat (8 * s.size / 2 ^ 24), UInt8.ofNat (8 * s.size / 2 ^ 16), UInt8.ofNat (8 * s.size / 2 ^ 8), UInt8.ofNat (8 * s.size / 2 ^ 0)] := rfl
  rw [hlen8]
  clear hlen8 hsh hu
  generalize UInt8.ofNat (8 * s.size / 2 ^ 56) = y7 at u7 ⊢
  generalize 8 * s.size / 2 ^ 56 = n7 at h7 u7
  generalize UInt8.ofNat (8 * s.size / 2 ^ 48) = y6 at u6 ⊢
  generalize 8 * s.size / 2 ^ 48 = n6 at h6 u6
  generalize UInt8.ofNat (8 * s.size / 2 ^ 40) = y5 at u5 ⊢
  generalize 8 * s.size / 2 ^ 40 = n5 at h5 u5
  generalize UInt8.ofNat (8 * s.size / 2 ^ 32) = y4 at u4 ⊢
  generalize 8 * s.size / 2 ^ 32 = n4 at h4 u4
  generalize UInt8.ofNat (8 * s.size / 2 ^ 24) = y3 at u3 ⊢
  generalize 8 * s.size / 2 ^ 24 = n3 at h3 u3
  generalize UInt8.ofNat (8 * s.size / 2 ^ 16) = y2 at u2 ⊢
  generalize 8 * s.size / 2 ^ 16 = n2 at h2 u2
  generalize UInt8.ofNat (8 * s.size / 2 ^ 8) = y1 at u1 ⊢
  generalize 8 * s.size / 2 ^ 8 = n1 at h1 u1
  generalize UInt8.ofNat (8 * s.size / 2 ^ 0) = y0 at u0 ⊢
  generalize 8 * s.size / 2 ^ 0 = n0 at h0 u0
  generalize 8 * s.size = N at *
  have a0 := app_tail l y7 1 [o0, .tail 5 (l.length + 0)] (by simp) (by omega)
  have a1 := app_tail (l ++ [y7]) y6 1 [o0, .tail 5 (l.length + 1)] (by simp) (by simp; omega)
  have a2 := app_tail (l ++ [y7] ++ [y6]) y5 1 [o0, .tail 5 (l.length + 2)] (by simp) (by simp; omega)
  have a3 := app_tail (l ++ [y7] ++ [y6] ++ [y5]) y4 1 [o0, .tail 5 (l.length + 3)] (by simp) (by simp; omega)
  have a4 := app_tail (l ++ [y7] ++ [y6] ++ [y5] ++ [y4]) y3 1 [o0, .tail 5 (l.length + 4)] (by simp) (by simp; omega)
  have a5 := app_tail (l ++ [y7] ++ [y6] ++ [y5] ++ [y4] ++ [y3]) y2 1 [o0, .tail 5 (l.length + 5)] (by simp) (by simp; omega)
  have a6 := app_tail (l ++ [y7] ++ [y6] ++ [y5] ++ [y4] ++ [y3] ++ [y2]) y1 1 [o0, .tail 5 (l.length + 6)] (by simp) (by simp; omega)
  have a7 := app_tail (l ++ [y7] ++ [y6] ++ [y5] ++ [y4] ++ [y3] ++ [y2] ++ [y1]) y0 1 [o0, .tail 5 (l.length + 7)] (by simp) (by simp; omega)
  have el : ∀ (j : Nat), j < 9 → True := fun _ _ => trivial
  simp only [Int.cast_ofNat_Int] at h0 h1 h2 h3 h4 h5 h6 h7
  simp at a0 a1 a2 a3 a4 a5 a6 a7
  simp [lp, f104, loopsOf, k_loop, m8, builtin_append (P := prog) un88 (.inl ⟨_, un88⟩) eo5, h0, u0, a0, h1, u1, a1, h2, u2, a2, h3, u3, a3, h4, u4, a4, h5, u5, a5, h6, u6, a6, h7, u7, a7]
end Go.Rg
namespace Go.Rg
open Go Go.Pv Go.Proofs.Tryz Go.Sha
set_option maxRecDepth 100000
set_option linter.unusedSimpArgs false
set_option maxHeartbeats 4000000
theorem h0_cells : wV h0.l = [.sc (.int .u32 1779033703), .sc (.int .u32 3144134277), .sc (.int .u32 1013904242), .sc (.int .u32 2773480762), .sc (.int .u32 1359893119), .sc (.int .u32 2600822924), .sc (.int .u32 528734635), .sc (.int .u32 1541459225)] := rfl
theorem padded_length (l : List UInt8) : (padded l).length = 64 * ((padded l).length / 64) ∧ (padded l).length = l.length + 1 + zeros l.length + 8 := by
  have h : (padded l).length = l.length + 1 + zeros l.length + 8 := by
    simp only [padded, List.length_append, List.length_replicate, List.length_singleton]; rfl
  refine ⟨?_, h⟩
  rw [h]; unfold zeros; omega
theorem chunk_123 (P : List UInt8) (o0 o1 : Ob) : T0.call 123 [.list 1 (bV P) (.tail 1), .sc (.int .i64 64)] [o0, o1] =
    some (.fn (.func 142) [] [.ref 2 0, .ref 3 0], [o0, o1, .cells 88 [.list 1 (bV P) .no], .cells 3 [.sc (.int .i64 64)]]) := by
  rw [k_D C0 rfl func123 (body := _) rfl (by decide +kernel) (args' := [.list 1 (bV P) .no, .sc (.int .i64 64)]) (h1 := [o0, o1]) (by simp [f123]) (by simp)]
  simp [f123, V.shift, V.shift1, V.shift0, Ob.shift]
theorem chunk_142 (P : List UInt8) (m : Nat) (hP : P.length = 64 * m) (hm : m < 100000000) (o1 : Ob) (h1 : Ob.ltN 5 o1 = true) (s : S8) :
    T0.call 142 [.yld 4, .ref 2 0, .ref 3 0] [.cells 166 (wV s.l), o1, .cells 88 [.list 1 (bV P) .no], .cells 3 [.sc (.int .i64 64)], .loop .ready none 104 (envAt 40 [(2, .sc (.string ⟨#[]⟩)), (3, .ref 0 0), (34, .fn (.func 142) [] [.ref 2 0, .ref 3 0])]) [35] (rf f104).1 (rf f104).2] =
    some (.tup [], [.cells 166 (wV ((chunks m P).foldl block s).l), o1, .cells 88 [.list 1 (bV P) .no], .cells 3 [.sc (.int .i64 64)], .loop .ready none 104 (envAt 40 [(2, .sc (.string ⟨#[]⟩)), (3, .ref 0 0), (34, .fn (.func 142) [] [.ref 2 0, .ref 3 0])]) [35] (rf f104).1 (rf f104).2]) := by
  rw [k_R C0 rfl func142 (body := _) rfl (by decide +kernel) (args' := [.yld 4, .ref 2 0, .ref 3 0]) (h1 := [.cells 166 (wV s.l), o1, .cells 88 [.list 1 (bV P) .no], .cells 3 [.sc (.int .i64 64)], .loop .ready none 104 (envAt 40 [(2, .sc (.string ⟨#[]⟩)), (3, .ref 0 0), (34, .fn (.func 142) [] [.ref 2 0, .ref 3 0])]) [35] (rf f104).1 (rf f104).2]) (by simp [f142]) (by simp)]
  simp [f142, -envAt_def]
  generalize hx : T0.code 142 (.loop _) _ = y
  have key := chunk_loop P m hP hm o1 h1 m 0 s (by omega)
  obtain rfl := hx.symm.trans key
  clear hx key
  have hlt : ∀ l : List W32, (wV l).all (V.ltN 5) = true := fun l => by simp [wV, V.ltN, V.lt0]
  have he : (envAt 40 [(2, .sc (.string ⟨#[]⟩)), (3, .ref 0 0), (34, .fn (.func 142) [] [.ref 2 0, .ref 3 0])]).all (V.ltN 5) = true := by simp [c16_all, V.ltN, V.lt1, V.lt0]
  simp [gc, Ob.ltN, V.ltN, V.lt0, hlt, he, h1, -envAt_def]
  try exact h1
theorem sum_104 (s : ByteArray) (hs : s.size < 1000000000) (h : H) : T0.call 104 [.sc (.string s)] h = some (.sc (.string (Sha.sum s)), h) := by
  rw [k_D C0 rfl func104 (body := _) rfl (by decide +kernel) (args' := [.sc (.string s)]) (h1 := h) (by simp [f104]) (by simp)]
  have a0 := app_tail s.data.toList 128 1 [.cells 166 (wV h0.l), .tail 5 s.size] rfl (by show s.size < _; omega)
  rw [show u8i 128 = 128 from rfl] at a0
  rw [h0_cells] at a0
  simp [f104, toBytesV, bytesV_bV, builtin_append (P := prog) un88 (.inl ⟨_, un88⟩) eo5, a0]
  rw [← h0_cells]
  generalize hx : T0.code 104 (.loop _) _ = y
  have key := zeros_loop s (.cells 166 (wV h0.l)) hs (zeros s.size) 0 (by omega)
  rw [List.replicate_zero, List.append_nil, Nat.add_zero] at key
  have hlen : (s.data.toList ++ [128] ++ List.replicate (zeros s.size) 0).length = s.size + 1 + zeros s.size := by simp only [List.length_append, List.length_replicate, List.length_singleton]; rfl
  have hpad : s.data.toList ++ [128] ++ List.replicate (zeros s.size) 0 ++ len8 s.size = padded s.data.toList := rfl
  generalize s.data.toList ++ [128] ++ List.replicate (zeros s.size) 0 = L at key hlen hpad
  obtain rfl := hx.symm.trans key
  clear hx key
  simp
  generalize hx : T0.code 104 (.loop _) _ = y
  have hz : zeros s.size < 64 := by unfold zeros; omega
  have key := len_loop s (.cells 166 (wV h0.l)) hs L (by omega)
  rw [hlen] at key
  obtain rfl := hx.symm.trans key
  clear hx key
  obtain ⟨p1, p2⟩ := padded_length s.data.toList
  have hsz : s.data.toList.length = s.size := rfl
  have hm : (padded s.data.toList).length / 64 < 100000000 := by rw [hsz] at p2; omega
  have hch := chunk_123 (padded s.data.toList) (.cells 166 (wV h0.l)) (.tail 5 (s.size + 1 + zeros s.size + 8))
  have hck := chunk_142 (padded s.data.toList) _ p1 hm (.tail 5 (s.size + 1 + zeros s.size + 8)) rfl h0
  have hd := fun h => digest_125 ((chunks ((padded s.data.toList).length / 64) (padded s.data.toList)).foldl block h0) h
  rw [hpad]
  have hres : Sha.sum s = ⟨((((chunks ((padded s.data.toList).length / 64) (padded s.data.toList)).foldl block h0).l.flatMap bytes4)).toArray⟩ := rfl
  rw [hres]
  generalize (chunks ((padded s.data.toList).length / 64) (padded s.data.toList)).foldl block h0 = S at *
  generalize padded s.data.toList = P at *
  generalize s.size + 1 + zeros s.size + 8 = n at *
  simp [rf, rfOf, f104] at hck
  have ht : takeAt (wV S.l) 0 8 = some (wV S.l) := take_all S.l 8 rfl
  have hlt : ∀ l : List W32, (wV l).all (V.ltN 4) = true := fun l => by simp [wV, V.ltN, V.lt0]
  simp [callVal, callFn, hch, rangeV, hck, hd, gc, Ob.ltN, V.ltN, V.lt0, hlt, ht]
end Go.Rg
