/-
  RegisterAppends: the row and its card; no condition.
-/
import Derived.Test.YteckonifhmdemaaGreatDoorChecked
import Derived.Test.YteckonifhmdemaaGreatDoorE1
import Derived.Test.YteckonifhmdemaaGreatDoorC5
import Derived.Test.YteckonifhmdemaaGreatDoorF1
set_option linter.all false
/-
  RegisterAppends.
-/
namespace Go.Rg
open Go Go.Pv Go.Proofs.Tryz
set_option maxRecDepth 100000
set_option linter.unusedSimpArgs false
set_option maxHeartbeats 4000000
theorem entry_ok (n : Int) : (entryL n).size ≤ 1000 := by have := entry_size n; omega
theorem made_short (x : List Int) (k : Nat) : ∀ e ∈ (x.map entryL).take k, e.size ≤ 1000 := by
  intro e he
  obtain ⟨n, _, rfl⟩ := List.mem_map.1 (List.mem_of_mem_take he)
  exact entry_ok n
theorem pickL_bd (c n : Int) (hn : 0 < n) (hn' : n ≤ 9223372036854775807) : i64Ok (pickL c n) := by
  have := pickL_lt c n hn
  unfold i64Ok; omega
theorem validL_of {c : Int} {l : List ByteArray} (h0 : 0 ≤ c) (h7 : c ≤ 7) (hl : l.length ≤ 60) (hs : ∀ e ∈ l, e.size ≤ 1000) : validL c l = true := by
  unfold validL
  simp only [Bool.and_eq_true, decide_eq_true_eq, Bool.not_eq_true', List.any_eq_false]
  exact ⟨⟨⟨h0, h7⟩, hl⟩, fun x hx => by have := hs x hx; omega⟩
theorem keyL_size (c : Int) : (keyL c).size = 32 := by rw [keyL, strOfNums_size', List.length_replicate]
theorem signOk_of {K : ByteArray} {c : Int} {l : List ByteArray} {n : Int} (hk : K.size = 32) (hv : validL c l = true) (h0 : 0 ≤ n) (h1 : n ≤ l.length) : signOk K c l n = true := by
  unfold signOk
  simp [hk, hv, h0, h1]
@[simp] theorem bool_ne (x y : Operand) (a b : Bool) : binOpV prog .neq 4 x y (.sc (.bool a)) (.sc (.bool b)) = .ret (.sc (.bool (!(a == b)))) := by
  have : pureRun prog (Op.equalIn 10000 4 (.bool a) (.bool b)) = some (a == b) := by
    rw [show (10000 : Nat) = 9999 + 1 from rfl, Op.equalIn, pureRun_bind, pureRun_underlying un4]
    rfl
  simp [binOpV, V.toVal, pureV, eqGuard, binOp, pureRun_bind, pureRun_pure, pureRun_map, pureRun_program, Op.equal, Op.maxDepth, this, ofVal]
@[simp] theorem bool_eq (x y : Operand) (a b : Bool) : binOpV prog .eql 4 x y (.sc (.bool a)) (.sc (.bool b)) = .ret (.sc (.bool (a == b))) := by
  have : pureRun prog (Op.equalIn 10000 4 (.bool a) (.bool b)) = some (a == b) := by
    rw [show (10000 : Nat) = 9999 + 1 from rfl, Op.equalIn, pureRun_bind, pureRun_underlying un4]
    rfl
  simp [binOpV, V.toVal, pureV, eqGuard, binOp, pureRun_bind, pureRun_pure, pureRun_map, pureRun_program, Op.equal, Op.maxDepth, this, ofVal]
theorem cat_set (J : H) (a b : Ob) : (J ++ [a]).set J.length b = J ++ [b] := by simp
theorem same_39t (a b : List ByteArray) (t1 t2 : Tk) (ha : a.length < 1000000000000) (h : H) : T.call 39 [.list 1 (strs a) t1, .list 1 (strs b) t2] h = some (.sc (.bool (decide (a = b))), h) := by
  rw [call_norm (args' := [.list 1 (strs a) .no, .list 1 (strs b) .no]) rfl func39 (by simp [f39]) (by simp [f39])]
  exact same_39 a b ha h
theorem appends_loop (K : ByteArray) (c sz : Int) (B : List ByteArray) (y : List Int) (hy : ∀ n ∈ y, i64Ok n) (o0 o1 : Ob) (c0 : 0 ≤ c) (c7 : c ≤ 7) (hB : ∀ e ∈ B, e.size ≤ 1000) : ∀ (d i : Nat) (J : H), i + d = min y.length 70 → (B ++ (y.map entryL).take i).length ≤ 60 →
    (∃ J' : H, T.code 11 (.loop (lp f11 0)) ⟨envAt 146 [(2, .list 1 (ints y) .no), (11, .sc (.string K)), (12, .sc (.int .i64 sz)), (13, .ref 1 0), (14, .sc (.int .i64 0)), (15, .ref 2 0), (16, .sc (.int .i64 i))], o0 :: o1 :: .cells 26 [.sc (.int .i64 c), .list 1 (strs (B ++ (y.map entryL).take i)) .no] :: J⟩ =
      some (.exit 0, ⟨envAt 146 [(2, .list 1 (ints y) .no), (11, .sc (.string K)), (12, .sc (.int .i64 sz)), (13, .ref 1 0), (14, .sc (.int .i64 0)), (15, .ref 2 0), (16, .sc (.int .i64 ((min y.length 70 : Nat) : Int))), (51, .sc (.bool false))], o0 :: o1 :: .cells 26 [.sc (.int .i64 c), .list 1 (strs (B ++ (y.map entryL).take 70)) .no] :: J'⟩) ∧ (B ++ (y.map entryL).take 70).length ≤ 60) ∨
    ∃ h' : H, T.code 11 (.loop (lp f11 0)) ⟨envAt 146 [(2, .list 1 (ints y) .no), (11, .sc (.string K)), (12, .sc (.int .i64 sz)), (13, .ref 1 0), (14, .sc (.int .i64 0)), (15, .ref 2 0), (16, .sc (.int .i64 i))], o0 :: o1 :: .cells 26 [.sc (.int .i64 c), .list 1 (strs (B ++ (y.map entryL).take i)) .no] :: J⟩ =
      some (.ret, ⟨envAt 146 [(8, .sc (.bool true))], h'⟩) := by
  intro d
  induction d with
  | zero =>
    intro i J hi hl
    left
    have e : (y.map entryL).take 70 = (y.map entryL).take i := by
      by_cases h : y.length ≤ 70
      · rw [List.take_of_length_le (by simpa using h), List.take_of_length_le (by simp; omega)]
      · obtain rfl : i = 70 := by omega
        rfl
    refine ⟨J, ?_, by rw [e]; exact hl⟩
    rw [e, k_loop]
    by_cases h : y.length ≤ 70
    · have hm : min y.length 70 = y.length := by omega
      rw [hm]
      obtain rfl : i = y.length := by omega
      simp [lp, f11, loopsOf]
    · have hm : min y.length 70 = 70 := by omega
      rw [hm]
      obtain rfl : i = 70 := by omega
      have h70 : (70 : Int) < y.length := by omega
      simp [lp, f11, loopsOf, h70]
  | succ d ih =>
    intro i J hi hl
    have hlt : i < y.length := by omega
    have hlt' : (i : Int) < y.length := by omega
    have h70 : (i : Int) < 70 := by omega
    have h1 : ∀ h, _ := fun h => entry_51 y[i] h (hy _ (List.getElem_mem hlt))
    have hgi := ints_get y i hlt
    have e : (y.map entryL).take (i + 1) = (y.map entryL).take i ++ [entryL y[i]] := by
      rw [List.take_add_one, List.getElem?_map, List.getElem?_eq_getElem hlt]; rfl
    have hS : ∀ x ∈ B ++ (y.map entryL).take i, x.size ≤ 1000 := by
      intro x hx
      rcases List.mem_append.1 hx with hx | hx
      · exact hB x hx
      · exact made_short y i x hx
    have ih1 := ih (i + 1) (J ++ [.cells 26 [.sc (.int .i64 c), .list 1 (strs (B ++ (y.map entryL).take i ++ [entryL y[i]])) .no]]) (by omega)
    rw [e, ← List.append_assoc] at ih1
    have he := entry_ok y[i]
    generalize entryL y[i] = E at h1 ih1 he
    generalize B ++ (y.map entryL).take i = L at hl ih1 hS
    have h2 : ∀ h, _ := fun h => append_42 c L E (by omega) h
    have hlL : (L ++ [E]).length = L.length + 1 := by simp
    have hst : (strs (L ++ [E])).take L.length = strs L := by rw [strs_take]; simp
    have hgl : (strs (L ++ [E]))[L.length]? = some [.sc (.string E)] := by simp [strs]
    by_cases hle : L.length + 1 ≤ 60
    · have hv : validL c (L ++ [E]) = true := validL_of c0 c7 (by omega) (by
        intro x hx
        rcases List.mem_append.1 hx with hx | hx
        · exact hS x hx
        · simp at hx; subst hx; exact he)
      have h60 : (L.length : Int) < 60 := by omega
      simp only [hv, if_true] at h2
      have h3 : ∀ h, _ := fun h => same_39t L L .no .no (by omega) h
      have hlS : (strs (L ++ [E])).length = L.length + 1 := by simp
      generalize hD : strs (L ++ [E]) = D at ih1 hst hgl hlS
      have h2' : ∀ h, T.call 42 [.agg [.sc (.int .i64 c), .list 1 (strs L) .no], .sc (.string E)] h = some (.tup [.agg [.sc (.int .i64 c), .list 1 D .no], .sc (.int .i64 0)], h) := fun h => by rw [← hD]; exact h2 h
      have hD0 : (L ++ [E]).length ≤ 60 := by omega
      have step : T.code 11 (.loop (lp f11 0)) ⟨envAt 146 [(2, .list 1 (ints y) .no), (11, .sc (.string K)), (12, .sc (.int .i64 sz)), (13, .ref 1 0), (14, .sc (.int .i64 0)), (15, .ref 2 0), (16, .sc (.int .i64 i))], o0 :: o1 :: .cells 26 [.sc (.int .i64 c), .list 1 (strs L) .no] :: J⟩ = T.code 11 (.loop (lp f11 0)) ⟨envAt 146 [(2, .list 1 (ints y) .no), (11, .sc (.string K)), (12, .sc (.int .i64 sz)), (13, .ref 1 0), (14, .sc (.int .i64 0)), (15, .ref 2 0), (16, .sc (.int .i64 ((i + 1 : Nat) : Int)))], o0 :: o1 :: .cells 26 [.sc (.int .i64 c), .list 1 (D) .no] :: (J ++ [.cells 26 [.sc (.int .i64 c), .list 1 D .no]])⟩ := by
        have f5 : ∀ a b : Ob, ((o0 :: o1 :: .cells 26 [.sc (.int .i64 c), .list 1 (strs L) .no] :: J) ++ [a]).set 2 b = o0 :: o1 :: b :: (J ++ [a]) := fun a b => rfl
        have f2 : ∀ a : Ob, ((o0 :: o1 :: .cells 26 [.sc (.int .i64 c), .list 1 (strs L) .no] :: J) ++ [a])[2]? = some (.cells 26 [.sc (.int .i64 c), .list 1 (strs L) .no]) := fun a => rfl
        have f3 : (o0 :: o1 :: Ob.cells 26 [.sc (.int .i64 c), .list 1 (strs L) .no] :: J)[2]? = some (.cells 26 [.sc (.int .i64 c), .list 1 (strs L) .no]) := rfl
        generalize hH : (o0 :: o1 :: Ob.cells 26 [.sc (.int .i64 c), .list 1 (strs L) .no] :: J) = Hh at f5 f2 f3
        obtain ⟨N, hN⟩ : ∃ N, N = Hh.length := ⟨_, rfl⟩
        have f1 : ∀ a : Ob, (Hh ++ [a])[N]? = some a := fun a => by rw [hN]; simp
        have f4 : ∀ a b : Ob, (Hh ++ [a]).set N b = Hh ++ [b] := fun a b => by rw [hN]; simp
        have hN2 : Hh.length = N := hN.symm
        have hgl2 : ∀ h, D[L.length]'h = [V.sc (.string E)] := fun h => by rw [List.getElem?_eq_getElem h] at hgl; exact Option.some.inj hgl
        have hb1 : (L.length : Int) ≤ L.length + 1 := by omega
        have hb2 : (L.length : Int) < L.length + 1 := by omega
        have hN3 : ¬ N = 2 := by rw [hN, ← hH]; simp
        have hN4 : ¬ 2 = N := fun e => hN3 e.symm
        clear hN hH
        generalize hR : T.code 11 (.loop (lp f11 0)) ⟨envAt 146 [(2, .list 1 (ints y) .no), (11, .sc (.string K)), (12, .sc (.int .i64 sz)), (13, .ref 1 0), (14, .sc (.int .i64 0)), (15, .ref 2 0), (16, .sc (.int .i64 ((i + 1 : Nat) : Int)))], o0 :: o1 :: .cells 26 [.sc (.int .i64 c), .list 1 D .no] :: (J ++ [.cells 26 [.sc (.int .i64 c), .list 1 D .no]])⟩ = RR
        rw [k_loop]
        simp (maxSteps := 150000) [lp, f11, loopsOf, hlt, hlt', h70, hgi, func51, params51, func42, params42, func39, params39, callHP, h1, h2', h3, hst, hgl, hlS, h60, wrapN i (by omega), f1, f2, f3, f4, f5, hN2, hN3, hN4, wrapN L.length (by omega), hb1, hb2, hgl2]
        exact hR
      rw [step]
      rcases ih1 hD0 with ⟨J', key, hk2⟩ | ⟨h', key⟩
      · exact .inl ⟨J', key, hk2⟩
      · exact .inr ⟨h', key⟩
    · right
      have hv : validL c (L ++ [E]) = false := by
        cases hb : validL c (L ++ [E]) with
        | false => rfl
        | true => have := (validL_c hb).2.2.1; omega
      simp only [hv, Bool.false_eq_true, if_false] at h2
      have h60 : ¬ (L.length : Int) < 60 := by omega
      unfold regV at h2
      refine ⟨o0 :: o1 :: .cells 26 [.sc (.int .i64 c), .list 1 (strs L) .no] :: (J ++ [.cells 26 [.sc (.int .i64 0), .list 1 (strs []) .no]]), ?_⟩
      rw [k_loop]
      simp [lp, f11, loopsOf, hlt, hlt', h70, hgi, func51, params51, func42, params42, callHP, h1, h2, h60, cat_set]
theorem law_11 (c0 : Int) (x y : List Int) (n : Int) (hc : i64Ok c0) (hx : ∀ n ∈ x, i64Ok n) (hy : ∀ n ∈ y, i64Ok n) (hn : i64Ok n) :
    T.call 11 [.sc (.int .i64 c0), .list 1 (ints x) .no, .list 1 (ints y) .no, .sc (.int .i64 n)] [] = some (.sc (.bool true), []) := by
  have h1 : ∀ h, _ := fun h => sane_12 h
  have h2 : ∀ h, _ := fun h => made_13 c0 x h hc hx
  obtain ⟨p1, p2⟩ := pickL_lt c0 8 (by decide)
  generalize hcc : pickL c0 8 = c at h2 p1 p2
  generalize hB : (x.map entryL).take 12 = B at h2
  have hBl : B.length ≤ 12 := by rw [← hB, List.length_take]; omega
  have hBs : ∀ e ∈ B, e.size ≤ 1000 := by rw [← hB]; exact made_short x 12
  have h3 : ∀ h, _ := fun h => key_15 c h (by omega) (by omega)
  have h4 : ∀ h, _ := fun h => pick_16 n ((B.length : Int) + 1) h (by omega) hn
  obtain ⟨q1, q2⟩ := pickL_lt n ((B.length : Int) + 1) (by omega)
  generalize pickL n ((B.length : Int) + 1) = sz at h4 q1 q2
  have hv0 := validL_of (c := c) (l := B) p1 (by omega) (by omega) hBs
  have hs0 := signOk_of (n := sz) (keyL_size c) hv0 q1 (by omega)
  have h5 : ∀ h, _ := fun h => sign_33 (keyL c) c B sz ⟨by omega, fun e he => by have := hBs e he; omega⟩ h
  simp only [hs0, if_true] at h5
  have w1 : IntKind.i64.wrap ((B.length : Int) + 1) = (B.length : Int) + 1 := by rw [wrap64_of] <;> omega
  have hK := keyL_size c
  generalize keyL c = K at h3 h5 hK
  rw [k_D C18 rfl func11 (body := _) rfl (by decide +kernel) (args' := [.sc (.int .i64 c0), .list 1 (ints x) .no, .list 1 (ints y) .no, .sc (.int .i64 n)]) (h1 := []) (by simp [f11]) (by simp)]
  unfold regV hdV hdCells at h5
  simp [f11, callVal, callFn, h1, h2, h3, h4, h5, w1]
  generalize hL : T.code 11 (.loop _) _ = yy
  rcases appends_loop K c sz B y hy (.cells 26 [.sc (.int .i64 c), .list 1 (strs B) .no]) (.cells 35 [.sc (.int .i64 (signH K c B sz).c), .sc (.int .i64 (signH K c B sz).n), .sc (.string (signH K c B sz).root), .sc (.string (signH K c B sz).mark)]) p1 (by omega) hBs (min y.length 70) 0 [] (by omega) (by simp; omega) with ⟨J', key, hl⟩ | ⟨h', key⟩
  · simp only [List.take_zero, List.append_nil] at key
    obtain rfl := hL.symm.trans key
    clear hL key
    generalize hLL : B ++ (y.map entryL).take 70 = L at hl ⊢
    have hLs : ∀ e ∈ L, e.size ≤ 1000 := by
      intro e he
      rw [← hLL] at he
      rcases List.mem_append.1 he with he | he
      · exact hBs e he
      · exact made_short y 70 e he
    have hv1 := validL_of (c := c) (l := L) p1 (by omega) hl hLs
    have hBL : B.length ≤ L.length := by rw [← hLL, List.length_append]; omega
    have hs1 := signOk_of (n := sz) hK hv1 q1 (by omega)
    have h6 : ∀ h, _ := fun h => sign_33 K c L sz ⟨by omega, fun e he => by have := hLs e he; omega⟩ h
    simp only [hs1, if_true] at h6
    have h7 : ∀ h, _ := fun h => valid_44 c L (by omega) h
    rw [hv1] at h7
    have hsame : signH K c L sz = signH K c B sz := by
      unfold signH
      rw [← hLL, List.take_append_of_le_length (by omega)]
    rw [hsame] at h6
    generalize signH K c B sz = S at h6 ⊢
    unfold regV at h6
    have h8 := fun x y => eqHd x y S S
    simp only [decide_true, Bool.and_self] at h8
    unfold hdV hdCells at h6 h8
    simp [h6, h7, h8, callVal, callFn]
  · simp only [List.take_zero, List.append_nil] at key
    obtain rfl := hL.symm.trans key
    clear hL key
    simp
end Go.Rg
/-
  RegisterAppends: the row and its card.
-/
namespace Go.Proofs.YteckonifhmdemaaGreatDoor.rowAppends
open Go Go.Pv Go.Rg Go.ChangeShapes Go.WideShapes Go.ChangeAt Go.RowKit
set_option maxRecDepth 100000
theorem own : ownKnob Tryz.prog.godebug = none := by kernel_rfl
theorem tys : tysOk Tryz.prog Tryz.f11.params.toList = true := by kernel_rfl
theorem contract (H : Type) (enc : TypeId × Value → H) (W : World) (base : Nat) (args : Array Value) (ds gs : List (DataW H)) (before : List MemPlace)
    (hval : ∀ (j : Nat) t v, Tryz.f11.params[j]? = some t → args[j]? = some v → Value.okWide Tryz.prog W .any base t v)
    (hW : DataW.Whole enc Tryz.prog Tryz.f11.params.toList Rows.registerAppendsSpec.vars false W args.toList ds gs before) (hL : laidMetH Tryz.prog Rows.registerAppendsRow.laid W) :
    Calls Tryz.prog 11 args W fun e W' => ∃ v, e = .returned v ∧ Rows.registerAppendsSpec.post enc Tryz.prog Tryz.f11 false true false false W args v W' := by
  have hW' := hW
  obtain ⟨p, q, hA0, hV, rfl, hfz, hnd⟩ := hW
  have hA : DataW.TrodAll enc Tryz.prog W 0 (fun _ => true) true Tryz.f11.params.toList args.toList ds p := hA0
  rw [Tryz.params11] at hA hval
  obtain ⟨v0, vs0, d0, ds0, p0, q0, hargs, rfl, rfl, h0, r0⟩ := trodAll_cons hA
  obtain ⟨v1, vs1, d1, ds1, p1, q1, rfl, rfl, rfl, h1, r1⟩ := trodAll_cons r0
  obtain ⟨v2, vs2, d2, ds2, p2, q2, rfl, rfl, rfl, h2, r2⟩ := trodAll_cons r1
  obtain ⟨v3, vs3, d3, ds3, p3, q3, rfl, rfl, rfl, h3, r3⟩ := trodAll_cons r2
  obtain ⟨rfl, rfl, rfl⟩ := trodAll_nil r3
  obtain rfl : args = #[v0, v1, v2, v3] := by cases args; simp_all
  obtain ⟨n0, rfl, _, _, w0⟩ := open_int Tryz.underlying3 (hval 0 3 v0 rfl rfl) h0
  obtain ⟨n3, rfl, _, _, w3⟩ := open_int Tryz.underlying3 (hval 3 3 v3 rfl rfl) h3
  obtain ⟨x, rx, ox⟩ := rd_ints Tryz.underlying22 Tryz.underlying3 co3 (by obtain ⟨a, l, c, rfl⟩ := okWide_slice Tryz.underlying22 (hval 1 22 v1 rfl rfl); rfl) h1
  obtain ⟨y, ry, oy⟩ := rd_ints Tryz.underlying22 Tryz.underlying3 co3 (by obtain ⟨a, l, c, rfl⟩ := okWide_slice Tryz.underlying22 (hval 2 22 v2 rfl rfl); rfl) h2
  have e := law_11 n0 x y n3 (wf64_inv w0) ox oy (wf64_inv w3)
  have hr : RepL (WT.of C18 W) [.sc (.int .i64 n0), .list 1 (ints x) .no, .list 1 (ints y) .no, .sc (.int .i64 n3)] [.int .i64 n0, v1, v2, .int .i64 n3] :=
    .cons (.sc _) (.cons (.list _ _ _ _ rx trivial) (.cons (.list _ _ _ _ ry trivial) (.cons (.sc _) (.nil _))))
  refine (top_bool mixed prims bodies e (glOk hL) hr).mono ?_
  rintro en W' ⟨rfl, hl⟩
  exact ⟨_, rfl, post_true laidOut Tryz.underlying4 rfl (by rfl) tys ⟨rfl, rfl, rfl⟩ hW' ⟨hl.os, hl.tape, hl.output, hl.size, hl.block⟩⟩
/-- A world for the witness: the table holds what its initialiser lays. -/
noncomputable def laidWorld (os : Os) : World :=
  { World.holding Tryz.prog os ⟨#[], #[], []⟩ with heap := (World.holding Tryz.prog os ⟨#[], #[], []⟩).heap.modify 0 fun
      | .cells _ t frozen => .cells ((Sha.kTab.map Sha.w).map (fun z => Value.int .u32 z)).toArray t frozen
      | o => o }
def wargs : Array Value := #[.int .i64 0, .slice none 0 0, .slice none 0 0, .int .i64 0]
theorem laid_met (os : Os) : laidMet Tryz.prog Rows.registerAppendsRow.laid ((laidWorld os).forCall (fun _ _ => 0) ⟨#[], wargs, []⟩).memory :=
  laidMet_of_run' 8 (by kernel_rfl) (by kernel_rfl)
theorem reads (os : Os) {H : Type} (enc : TypeId × Value → H) : ∃ places, DataW.whole enc Tryz.prog ((laidWorld os).forCall (fun _ _ => 0) ⟨#[], wargs, []⟩).memory Tryz.f11.params.toList Rows.registerAppendsSpec.vars false wargs.toList 8 = some ([.lit (.int .i64 0), .nil, .nil, .lit (.int .i64 0)], [], places) :=
  ⟨[], by kernel_rfl⟩
theorem lifted (os : Os) (started : os.Started) (H : Type) (enc : TypeId × Value → H) (F : Stop.Interp) :
    ReturnsInHanded {} Tryz.checked os 11 .any ((OpenSpec.ofChange Rows.registerAppendsSpec).preRow enc Tryz.prog Tryz.f11 Rows.registerAppendsRow.domain false Rows.registerAppendsRow.laid) (((OpenSpec.ofChange Rows.registerAppendsSpec).at F).post enc Tryz.prog Tryz.f11 false true false false) := by
  obtain ⟨places, hx⟩ := reads os enc
  refine returnsInHanded_of_row (C := Tryz.checked) (s := OpenSpec.ofChange Rows.registerAppendsSpec) own started (by kernel_rfl) Tryz.func11
    (witness_row_at (enc := enc) (C := Tryz.checked) false (laidWorld os) wargs rfl (by kernel_rfl) (by kernel_rfl) (by kernel_rfl)
      (OpenSpec.preRow_of_cond 8 hx (by kernel_rfl) (fun k hk => by cases hk) (by kernel_rfl) (laid_met os))) ?_
  intro W base args ds gs before hval hW _ _ _ hL _ _
  exact contract H enc W base args ds gs before hval hW hL
theorem said : Rows.RegisterAppendsSaid :=
  OpenClaim.holds_of_cond 11 Tryz.f11 rfl rfl rfl rfl rfl rfl rfl ⟨rfl, rfl, rfl, rfl, rfl⟩ rfl rfl rfl rfl rfl (by kernel_rfl) Tryz.func11 (by kernel_rfl)
    (of_decide_eq_true (by kernel_rfl)) (by unfold Func.isWrapper; first | (rw [if_pos (by decide +kernel)]; kernel_rfl) | (rw [if_neg (by decide +kernel)]; exact ⟨rfl, rfl⟩))
    (fun os started H enc _ F => by rw [OpenClaim.pre_eq_preRow]; exact lifted os started H enc F)
theorem plain (f : FuncId) (fn : Func) (hf : Tryz.pinned.checked.prog.funcNamed "dialtone/dialtonelaw18.RegisterAppends" = some f) (hfn : Tryz.pinned.checked.prog.funcs[f]? = some fn) :
    false = Tryz.pinned.checked.prog.looks [] ∧ ∀ (j : Nat) t, fn.params[j]? = some t → Tryz.pinned.checked.prog.wantsStandIn t = false := by
  obtain rfl : f = 11 := Option.some.inj ((show Tryz.prog.funcNamed "dialtone/dialtonelaw18.RegisterAppends" = some 11 by kernel_rfl).symm.trans hf) |>.symm
  obtain rfl : fn = Tryz.f11 := (Option.some.inj (Tryz.func11.symm.trans hfn)).symm
  refine ⟨by kernel_rfl, fun j t ht => ?_⟩
  rw [Tryz.params11] at ht
  have hm := Array.mem_of_getElem? ht
  simp only [List.mem_toArray, List.mem_cons, List.not_mem_nil, or_false] at hm
  have e3 : Tryz.prog.wantsStandIn 3 = false := by kernel_rfl
  have e22 : Tryz.prog.wantsStandIn 22 = false := by kernel_rfl
  rcases hm with rfl | rfl | rfl | rfl
  · exact e3
  · exact e22
  · exact e22
  · exact e3
/-- The card. -/
theorem card : Rows.RegisterAppendsCardSaid :=
  Claim7.holds_tied_plain_at .later [] _ _ _ _ said (fun _ h => by cases h) (by kernel_rfl) (fun _ h => by cases h) registerAppends_row_tie rfl ⟨rfl, rfl⟩ (by kernel_rfl) rfl plain (by kernel_rfl)
#print axioms card
end Go.Proofs.YteckonifhmdemaaGreatDoor.rowAppends
