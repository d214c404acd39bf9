/-
  the given functions of the library do what is said of them.
-/
import Derived.KernelRfl
import Derived.Lib.Builder
import Derived.WalkKit
import Derived.Laws.Externs
import Derived.Lib.UnsafeStr
import Derived.RegionTactic
import Derived.Test.YteckonifhmdemaaGreatDoorProg
import Derived.Shelf.Strings.OnBuilder
import Derived.Shelf.Slices.Clone
import Derived.Test.YteckonifhmdemaaGreatDoorB2
import Derived.Test.YteckonifhmdemaaGreatDoorB1
import Derived.Test.YteckonifhmdemaaGreatDoorA2
import Derived.Test.YteckonifhmdemaaGreatDoorD0
set_option linter.all false
/-
  The bodies are in order; digest.Sum.
-/
namespace Go.Rg
open Go Go.Pv Go.Proofs.Tryz Go.Sha
set_option maxRecDepth 1000000
set_option linter.unusedVariables false
noncomputable def gdAt (g : Nat) : Bool := match prog.funcs[g]? with | some fn => (match fn.body with | some b => gd C0 g b | none => true) | none => true
theorem gd_all : (List.range 200).all gdAt = true := by kernel_rfl
theorem funcs_size : prog.funcs.size ≤ 200 := by decide +kernel
theorem bodies0 : BodiesOk C0 (GD C0) := by
  intro g fn body _ hf hb _
  have hlt : g < prog.funcs.size := (Array.getElem?_eq_some_iff.1 hf).1
  have := List.all_eq_true.1 gd_all g (List.mem_range.2 (Nat.lt_of_lt_of_le hlt funcs_size))
  unfold gdAt at this
  have hf' : prog.funcs[g]? = some fn := hf
  rw [hf'] at this
  simp only [hb] at this
  exact this
theorem GD_eq : GD C18 = GD C0 := GD_with C0 primOf
theorem bodies : BodiesOk C18 (GD C18) := by
  intro g fn body _ hf hb hn
  rw [GD_eq]
  have hlt : g < prog.funcs.size := (Array.getElem?_eq_some_iff.1 hf).1
  exact bodies0 g fn body rfl hf hb hn
theorem prims0 : PrimsOk C0 (GD C0) := by
  intro g p args h v h' hp; exact absurd hp (by simp [C0])
theorem call0 {g : FuncId} {args : List V} {h h' : H} {v : V} (e : T0.call g args h = some (v, h')) : CallOk C18 (GD C18) g args h v h' := by
  rw [GD_eq]
  exact top_call mixed0 prims0 bodies0 e
theorem prim_104 (args : List V) (h h' : H) (v : V) (e : sumP args h = some (v, h')) : CallOk C18 (GD C18) 104 args h v h' := by
  unfold sumP at e
  split at e
  · split at e
    · rename_i s hs
      simp only [Option.some.injEq, Prod.mk.injEq] at e
      obtain ⟨rfl, rfl⟩ := e
      rw [sumF_eq]
      exact call0 (sum_104 s hs h)
    · simp at e
  · simp at e
end Go.Rg
/-
  strings.Builder: the copy check.
-/
namespace Go.Rg
open Go Go.Pv Go.Proofs.Tryz Go.RowKit
set_option maxRecDepth 1000000
set_option maxHeartbeats 1000000
theorem info141 : ∃ j, prog.info? 141 = some j ∧ j.size ≠ 0 := by
  have h : (prog.info? 141).map (fun j => decide (j.size ≠ 0)) = some true := by kernel_rfl
  obtain ⟨j, hj, h2⟩ := Option.map_eq_some_iff.1 h
  exact ⟨j, hj, of_decide_eq_true h2⟩
theorem lies141 : liesAt prog prog.depth 143 (2 / prog.cellsOf 143) 0 141 1 = true := by kernel_rfl
theorem check_used (b : Nat) (w : World) (h0 : w.cell? ⟨b, 0, none⟩ = some (.pointer (some ⟨b, 0, none⟩))) :
    Calls prog 128 #[.pointer (some ⟨b, 0, none⟩)] w fun e w' => e = .returned (.tuple #[]) ∧ w' = w := by
  obtain ⟨j, hj, _⟩ := info141
  go_enter func128, ntmps128
  go_wp2
  rw [Lib.run_neq_ptr_same w _ (te := 141) (by kernel_rfl) hj]
  go_wp2
  go_end0
  exact ⟨rfl, rfl⟩
theorem check_fresh (b : Nat) (w : World) (h0 : w.cell? ⟨b, 0, none⟩ = some (.pointer none)) (hsh : w.shape? b = some (143, 2)) (hfz : w.frozen? ⟨b, 0, none⟩ = false) :
    Calls prog 128 #[.pointer (some ⟨b, 0, none⟩)] w fun e w' => e = .returned (.tuple #[]) ∧ w' = w.setCell ⟨b, 0, none⟩ (.pointer (some ⟨b, 0, none⟩)) := by
  obtain ⟨j, hj, hjs⟩ := info141
  go_enter func128, ntmps128
  go_wp2
  rw [Lib.run_to_unsafe w ⟨b, 0, none⟩ (t := 141) (by kernel_rfl) (by kernel_rfl) hj hjs hsh (Nat.zero_lt_succ 1)]
  simp only [Result.andThen]
  rw [Oper.upon_value]
  go_wp2
  rw [run_callFunc_extern func146 (by kernel_rfl) (by kernel_rfl) (by kernel_rfl) (e := Extern.AbiNoEscape.same) (by kernel_rfl)]
  rw [Lib.run_noEscape]
  simp only [Result.andThen]
  rw [Oper.upon_value]
  go_wp2
  rw [Lib.run_from_unsafe w ⟨b, 0, none⟩ (u := 141) (by kernel_rfl) (by kernel_rfl) hj hsh lies141]
  simp only [Result.andThen]
  rw [Oper.upon_value]
  go_wp2
  go_end0
  exact ⟨rfl, rfl⟩
theorem prim_128 (args : List V) (h h' : H) (v : V) (e : checkP args h = some (v, h')) : CallOk C18 (GD C18) 128 args h v h' := by
  have hfn : FnOk C18.P 128 := ⟨_, func128, rfl, by decide +kernel⟩
  unfold checkP at e
  split at e
  · rename_i id off
    split at e
    · rename_i bt a bb ho
      split at e
      · rename_i hc
        obtain ⟨rfl, rfl⟩ := hc
        refine ⟨hfn, fun Δ w vs hG inv gl hr => ?_⟩
        obtain ⟨p, us, hvs, hp, hus⟩ := hr.cons_inv
        have : us = [] := by have := hus.1; cases us <;> simp_all
        subst this
        cases hp with
        | ref _ _ b hp =>
          have hvs' : vs = #[.pointer (some (at_ b 0))] := by
            apply Array.ext'; rw [hvs]
          subst hvs'
          obtain ⟨hν, b', hμ, ⟨hB, arr, fr, hT⟩, hcell, hι⟩ := inv.ob id _ ho
          have hb := hp.μ hν
          rw [hμ] at hb; cases hb
          obtain ⟨v0, hv0, hr0⟩ := hcell 0 a rfl
          split at e
          · -- fresh
            simp only [Option.some.injEq, Prod.mk.injEq] at e
            obtain ⟨rfl, rfl⟩ := e
            cases hr0
            obtain ⟨arr', e', fr', hh, hsz, hfz⟩ := hB
            have hsh : w.shape? b = some (143, 2) := by
              simp only [World.shape?, hT]
              rw [hT] at hh
              simp only [Option.some.injEq, Obj.cells.injEq] at hh
              obtain ⟨rfl, rfl, rfl⟩ := hh
              simp [hsz]
            have hcalls := check_fresh b w hv0 hsh (hfz 0 (by simp))
            have k2 : CallsIn Fence.wide 0 prog 128 #[.pointer (some (at_ b 0))] w (CallEnd (.tup []) (h.set id (.cells 143 [.ref id 0, bb])) Δ h w) := by
              refine callsIn_wide.2 (hcalls.mono ?_)
              rintro en w' ⟨rfl, rfl⟩
              have hset := set_cells inv (off := 0) (c' := [.ref id 0, bb]) (cs := [.ref id 0]) (vs := [.pointer (some (at_ b 0))]) ho hp (by rfl) (.cons (.ref id 0 b hp) (.nil _))
              obtain ⟨_, _, i1, i2⟩ := hset
              exact ⟨_, Δ, rfl, i1, .tup [] #[] rfl (fun i x v hx => by simp at hx), i2⟩
            exact k2
          · -- used
            rename_i id'
            split at e
            · rename_i hid
              subst hid
              simp only [Option.some.injEq, Prod.mk.injEq] at e
              obtain ⟨rfl, rfl⟩ := e
              cases hr0 with
              | ref _ _ b2 hp2 =>
                have hb2 := hp2.μ hν
                rw [hμ] at hb2; cases hb2
                have hcalls := check_used b w hv0
                have k2 : CallsIn Fence.wide 0 prog 128 #[.pointer (some (at_ b 0))] w (CallEnd (.tup []) h Δ h w) := by
                  refine callsIn_wide.2 (hcalls.mono ?_)
                  rintro en w' ⟨rfl, rfl⟩
                  exact ⟨_, Δ, rfl, inv, .tup [] #[] rfl (fun i x v hx => by simp at hx), .refl _ _ _⟩
                exact k2
            · simp at e
          · simp at e
      · simp at e
    · simp at e
  · simp at e
end Go.Rg
/-
  strings.Builder: its text.
-/
namespace Go.Rg
open Go Go.Pv Go.Proofs.Tryz Go.RowKit
set_option maxRecDepth 1000000
set_option maxHeartbeats 1000000
set_option linter.unusedSimpArgs false
theorem liesAt_off {P : Program} {e : TypeId} (hc : P.cellsOf e = 1) (count off n : Nat) (hn : off + n ≤ count) : liesAt P P.depth e count off e n = true := by
  have hd : P.depth = (2 * (P.types.size + Made.depth) + 1) + 1 := rfl
  rw [hd]
  simp only [liesAt, Bool.or_eq_true]
  left
  rw [hd]
  simp [rowAt, hc, sameLayout]
  omega
theorem run_unsafeString_off {P : Program} (w : World) (pt it ty e : TypeId) (hp : P.underlying pt = some (.pointer e)) (hc : P.cellsOf e = 1) (g o cells : Nat) (hsh : w.shape? g = some (e, cells)) (l : List UInt8) (h0 : l ≠ []) (hn : o + l.length ≤ cells) (h63 : l.length ≤ 9223372036854775807)
    (hcell : ∀ j x, l[j]? = some x → w.cell? ((at_ g o).add j) = some (.int .u8 x.toNat)) :
    (Builtin.unsafeString_ #[pt, it] ty #[.pointer (some (at_ g o)), .int .i64 l.length]).run P w = .ok (.string ⟨l.toArray⟩) (w.freeze (at_ g o) l.length) := by
  have hl : l.length ≠ 0 := by simpa using h0
  have hlb := Lib.run_loadBytes (P := P) w l (at_ g o) .empty hcell
  have hlies := liesAt_off (P := P) hc (cells / P.cellsOf e) o l.length (by rw [hc]; simpa using hn)
  have h63' : ¬ (9223372036854775807 : Int) < (l.length : Int) := by omega
  change Sem.run P (bind (asInt (.int .i64 (l.length : Int))) _) w = _
  have hmax : IntKind.i64.max = 9223372036854775807 := rfl
  have hneg : ¬ (l.length : Int) < 0 := by omega
  have hvar : (variablesAt (at_ g o) e l.length).run P w = .ok true w := by
    simp [variablesAt, hsh, hlies]
  simp [asInt, asIntOf, hmax, h63', hneg, hl, elemOf, run_underlying hp]
  rw [hvar]
  simp [hlb]
theorem freeze_other (w : World) (g o n k : Nat) (h : k ≠ g) : (w.freeze (at_ g o) n).heap[k]? = w.heap[k]? := by
  unfold World.freeze
  split
  · rfl
  · simp only [Array.getElem?_modify]
    rw [if_neg (by simpa [at_] using Ne.symm h)]
theorem freeze_same (w : World) (g o n : Nat) {arr : Array Value} {e : TypeId} {fr : Nat × Nat} (h : w.heap[g]? = some (.cells arr e fr)) : ∃ fr', (w.freeze (at_ g o) n).heap[g]? = some (.cells arr e fr') := by
  unfold World.freeze
  split
  · exact ⟨fr, h⟩
  · simp only [Array.getElem?_modify, at_, if_true, h, Option.map_some]
    exact ⟨_, rfl⟩
theorem freeze_cell (w : World) (g o n : Nat) (b j : Nat) : (w.freeze (at_ g o) n).cell? (at_ b j) = w.cell? (at_ b j) := by
  by_cases hb : b = g
  · subst hb
    cases hh : w.heap[b]? with
    | none =>
      have : (w.freeze (at_ b o) n).heap[b]? = none := by
        unfold World.freeze; split
        · exact hh
        · simp only [Array.getElem?_modify, at_, if_true, hh, Option.map_none]
      simp only [World.cell?, at_] at *
      rw [hh, this]
    | some ob =>
      cases ob with
      | cells arr e fr =>
        obtain ⟨fr', h'⟩ := freeze_same w b o n hh
        simp only [World.cell?, at_] at *
        rw [hh, h']
      | _ =>
        have : (w.freeze (at_ b o) n).heap[b]? = w.heap[b]? := by
          unfold World.freeze; split
          · rfl
          · simp only [Array.getElem?_modify, at_, if_true, hh, Option.map_some]
        exact cell?_eq this
  · exact cell?_eq (freeze_other w g o n b hb)
theorem freeze_size (w : World) (g o n : Nat) : (w.freeze (at_ g o) n).heap.size = w.heap.size := by
  unfold World.freeze; split
  · rfl
  · simp
theorem freeze_os (w : World) (g o n : Nat) : (w.freeze (at_ g o) n).os = w.os ∧ (w.freeze (at_ g o) n).tape = w.tape ∧ (w.freeze (at_ g o) n).output = w.output := by
  unfold World.freeze; split <;> exact ⟨rfl, rfl, rfl⟩
theorem string_walk (b g o cap cells : Nat) (w : World) (l : List UInt8) (h1 : w.cell? ⟨b, 1, none⟩ = some (.slice (some (at_ g o)) l.length cap)) (hcap : l.length ≤ cap) (hsh : w.shape? g = some (5, cells)) (h0 : l ≠ []) (hn : o + l.length ≤ cells) (h63 : l.length ≤ 9223372036854775807)
    (hcell : ∀ j x, l[j]? = some x → w.cell? ((at_ g o).add j) = some (.int .u8 x.toNat)) :
    Calls prog 108 #[.pointer (some ⟨b, 0, none⟩)] w fun e w' => e = .returned (.string ⟨l.toArray⟩) ∧ w' = w.drew.freeze (at_ g o) l.length := by
  have hl0 : l.length ≠ 0 := by simpa using h0
  have c1 : w.drew.cell? ⟨b, 1, none⟩ = some (.slice (some (at_ g o)) l.length cap) := h1
  have hSD : (Builtin.unsafeSliceData_ #[88] 173 #[.slice (some (at_ g o)) l.length cap]).run prog w.drew = .ok (.pointer (some (at_ g o))) w.drew :=
    Lib.run_unsafeSliceData_row _ _ _ _ _ _ (by omega)
  have hUS : (Builtin.unsafeString_ #[173, 3] 9 #[.pointer (some (at_ g o)), .int .i64 l.length]).run prog w.drew = .ok (.string ⟨l.toArray⟩) (w.drew.freeze (at_ g o) l.length) :=
    run_unsafeString_off w.drew 173 3 9 5 (by kernel_rfl) (by kernel_rfl) g o cells hsh l h0 hn h63 hcell
  go_enter func108, ntmps108
  go_wp2
  go_region
  all_goals (go_wp2; go_ret; exact ⟨rfl, rfl⟩)
theorem numsOf_get : ∀ (xs : List (List V)) (l : List Int), numsOf xs = some l → xs.length = l.length ∧ ∀ (i : Nat) (n : Int), l[i]? = some n → xs[i]? = some [V.sc (.int .u8 n)]
  | [], l, h => by
    have : l = [] := by simpa [numsOf] using h.symm
    subst this
    exact ⟨rfl, fun i n h => by simp at h⟩
  | x :: r, l, h => by
    match x, h with
    | [.sc (.int .u8 m)], h =>
      simp only [numsOf] at h
      cases hr : numsOf r with
      | none => rw [hr] at h; simp at h
      | some l' =>
        rw [hr] at h
        simp only [Option.map_some, Option.some.injEq] at h
        subst h
        obtain ⟨h1, h2⟩ := numsOf_get r l' hr
        refine ⟨by simp [h1], fun i n hi => ?_⟩
        cases i with
        | zero => simp at hi; subst hi; rfl
        | succ i => exact h2 i n (by simpa using hi)
theorem prim_108 (args : List V) (h h' : H) (v : V) (e : stringP args h = some (v, h')) : CallOk C18 (GD C18) 108 args h v h' := by
  have hfn : FnOk C18.P 108 := ⟨_, func108, rfl, by decide +kernel⟩
  unfold stringP at e
  split at e
  · rename_i id
    split at e
    · rename_i bt a0 xs t ho
      split at e
      · rename_i bt2 n hot
        split at e
        · rename_i l hl
          split at e
          · rename_i hc
            obtain ⟨rfl, rfl, hne, hbig, hall⟩ := hc
            simp only [Option.some.injEq, Prod.mk.injEq] at e
            obtain ⟨rfl, rfl⟩ := e
            obtain ⟨hxl, hxg⟩ := numsOf_get xs l hl
            refine ⟨hfn, fun Δ w vs hG inv gl hr => ?_⟩
            obtain ⟨p, us, hvs, hp, hus⟩ := hr.cons_inv
            have : us = [] := by have := hus.1; cases us <;> simp_all
            subst this
            cases hp with
            | ref _ _ b hp =>
              have hvs' : vs = #[.pointer (some (at_ b 0))] := by
                apply Array.ext'; rw [hvs]
              subst hvs'
              obtain ⟨hν, b', hμ, ⟨hB, arr, fr, hT⟩, hcell, hι⟩ := inv.ob id _ ho
              have hb := hp.μ hν
              rw [hμ] at hb; cases hb
              obtain ⟨v1, hv1, hr1⟩ := hcell 1 _ rfl
              obtain ⟨hνt, g, q, S, hμt, hσt, ⟨hBt, arrt, frt, hTt⟩, hιt⟩ := inv.ob t _ hot
              cases hr1 with
              | list _ _ _ _ hd ht =>
                obtain ⟨a, cap1, b1, o1, rfl, hR, hbase, hcap1⟩ := hd.list_inv
                obtain ⟨g2, o, cap, S2, hv2, hpl, hσ2, hS2⟩ := ht
                have hgq := hpl.μ hνt
                rw [hμt] at hgq
                simp only [Option.some.injEq, Prod.mk.injEq] at hgq
                obtain ⟨rfl, hq⟩ := hgq
                rw [hσt] at hσ2
                obtain rfl := Option.some.inj hσ2
                simp only [Value.slice.injEq] at hv2
                obtain ⟨rfl, _, rfl⟩ := hv2
                have hxne : xs ≠ [] := by intro k; subst k; simp [numsOf] at hl; exact hne hl
                have hbo := hbase hxne
                simp only [at_, Option.some.injEq, Addr.mk.injEq, and_true] at hbo
                obtain ⟨rfl, rfl⟩ := hbo
                obtain ⟨arr2, e2, fr2, hh2, hsz2, _⟩ := hBt
                rw [hTt] at hh2
                simp only [Option.some.injEq, Obj.cells.injEq] at hh2
                obtain ⟨rfl, rfl, rfl⟩ := hh2
                have hshape : w.shape? g = some (5, S) := by simp [World.shape?, hTt, hsz2]
                let L : List UInt8 := l.map fun x => UInt8.ofNat x.toNat
                have hLl : L.length = xs.length := by simp [L, hxl]
                have hL0 : L ≠ [] := by
                  intro k; apply hxne; apply List.eq_nil_of_length_eq_zero; rw [← hLl, k]; rfl
                have hcells : ∀ j x, L[j]? = some x → w.cell? ((at_ g o).add j) = some (.int .u8 x.toNat) := by
                  intro j x hx
                  simp only [L, List.getElem?_map] at hx
                  cases hlj : l[j]? with
                  | none => rw [hlj] at hx; simp at hx
                  | some m =>
                    rw [hlj] at hx
                    simp only [Option.map_some, Option.some.injEq] at hx
                    subst hx
                    obtain ⟨u, hu, hur⟩ := hR.2 j 0 _ _ (hxg j m hlj) rfl
                    have hmr := List.all_eq_true.1 hall m (List.mem_of_getElem? hlj)
                    simp only [Bool.and_eq_true, decide_eq_true_eq] at hmr
                    cases hur
                    rw [add_at]
                    have := inv.ι _ _ _ hu
                    rw [show o + j = o + j * 1 + 0 by omega, this]
                    have : ((UInt8.ofNat m.toNat).toNat : Int) = m := by
                      simp; omega
                    rw [this]
                have hcalls := string_walk b g o _ S w L (by rw [hLl]; exact hv1) (by omega) hshape hL0 (by rw [hLl]; omega) (by rw [hLl]; omega) hcells
                have k2 : CallsIn Fence.wide 0 prog 108 #[.pointer (some (at_ b 0))] w (CallEnd (.sc (.string (strOfNums l))) (h.set t .dead) Δ h w) := by
                  refine callsIn_wide.2 (hcalls.mono ?_)
                  rintro en w' ⟨rfl, rfl⟩
                  obtain ⟨fr3, hg3⟩ := freeze_same w.drew g o L.length (arr := arrt) (e := 5) (fr := frt) hTt
                  obtain ⟨f1, f2, f3⟩ := freeze_os w.drew g o L.length
                  have u := Upd.inv (Δ := Δ) (Δ' := Δ) (h := h) (w := w) (w' := w.drew.freeze (at_ g o) L.length) (id := t) (o' := .dead) (T := fun x => x = g)
                    ⟨(List.getElem?_eq_some_iff.1 hot).1, .refl _, rfl, fun _ _ => rfl, fun _ _ => rfl, fun x hx => ⟨_, q, hot, rfl, by rw [hx]; exact hμt⟩, f1, f2, f3, by rw [freeze_size]; exact Nat.le_refl _,
                      fun x _ hx => freeze_other w.drew g o _ x hx, fun _ _ _ _ => rfl, fun c j u hu => by rw [freeze_cell]; exact inv.ι c j u hu,
                      fun c S' hc => by
                        by_cases hcg : c = g
                        · subst hcg
                          obtain ⟨a1, e1, r1, q1, q2⟩ := inv.σ c S' hc
                          rw [hTt] at q1
                          simp only [Option.some.injEq, Obj.cells.injEq] at q1
                          obtain ⟨rfl, rfl, rfl⟩ := q1
                          exact ⟨_, _, _, hg3, q2⟩
                        · obtain ⟨a1, e1, r1, q1, q2⟩ := inv.σ c S' hc
                          exact ⟨a1, e1, r1, (freeze_other w.drew g o _ c hcg).trans q1, q2⟩,
                      trivial, fun hl => by simp [Ob.live] at hl, fun l' r hl' hk => by rw [hl'] at hk; rw [hTt] at hk; simp at hk⟩ inv
                  exact ⟨_, Δ, rfl, u.1, by
                    have : (strOfNums l) = ⟨L.toArray⟩ := rfl
                    rw [this]; exact .sc _, u.2⟩
                exact k2
          · simp at e
        · simp at e
      · simp at e
    · simp at e
  · simp at e
end Go.Rg
/-
  strings.Join, by the shelf's contract.
-/
namespace Go.Proofs
open Go.Shelf
theorem Tryz.Builder_Extra_156 : Builder.Extra Tryz.prog Tryz.lays156_ren where
  sizeBuilder := by kernel_rfl
  liesBuilder := by kernel_rfl
  t5 := Tryz.underlying5
  a5 := Tryz.isAgg5
  z5 := Tryz.sizeOf5
  v5 := Tryz.zeroValue5
  infoByte := by kernel_rfl
  cellsByte := by kernel_rfl
  sizeByte := by kernel_rfl
  neB5 := by decide
theorem Tryz.strings_Join_none (a : Option Addr) (c : Nat) (sep : ByteArray) (w : World) :
    Calls Tryz.prog 132 #[.slice a 0 c, .string sep] w fun e w' => e = .returned (.string ⟨#[]⟩) ∧ w' = w := Any.strings_Join_none Tryz.lays156 Tryz.Builder_Extra_156 a c sep w
theorem Tryz.strings_Join (bk o c : Nat) (xs : List ByteArray) (sep : ByteArray) (w : World) (hcells : ∀ (j : Nat) x, xs[j]? = some x → w.cell? ⟨bk, o + j, none⟩ = some (.string x)) (hbk : bk < w.heap.size) (hN : xs.length ≤ 140737488355328) (hcap : xs.length ≤ c) (hlen : (Lib.join (xs.map (·.data.toList)) sep.data.toList).length ≤ 140737488355328) :
    Calls Tryz.prog 132 #[.slice (some ⟨bk, o, none⟩) xs.length c, .string sep] w fun e w' => e = .returned (.string ⟨(Lib.join (xs.map (·.data.toList)) sep.data.toList).toArray⟩) ∧ RowKit.Below w.heap.size w w' := Any.strings_Join Tryz.lays156 Tryz.Builder_Extra_156 bk o c xs sep w hcells hbk hN hcap hlen
end Go.Proofs
/-
  strings.Join.
-/
namespace Go.Rg
open Go Go.Pv Go.Proofs.Tryz Go.RowKit
set_option maxRecDepth 1000000
set_option maxHeartbeats 1000000
theorem below_inv {Δ : WT} {h : H} {w w' : World} (inv : Inv Δ h w) (hb : Below w.heap.size w w') : Inv Δ h w' ∧ Step Δ h w Δ h w' := by
  have hk : ∀ b, b < w.heap.size → w'.heap[b]? = w.heap[b]? := fun b hlt => hb.block b hlt
  refine ⟨⟨?_, ?_, inv.N, ?_, inv.dis⟩, ⟨.refl _, hb.os, hb.tape, hb.output, hb.size, fun b hlt _ => hk b hlt, fun _ _ k => k, fun _ _ _ _ => rfl, fun l r k => ⟨r, (hk l (Array.getElem?_eq_some_iff.1 k).1).trans k⟩⟩⟩
  · intro b j v hv
    have := inv.ι b j v hv
    rw [cell?_eq (hk b (cell?_lt this))]; exact this
  · intro b S hS
    obtain ⟨arr, e, fr, hh, hs⟩ := inv.σ b S hS
    exact ⟨arr, e, fr, (hk b (Array.getElem?_eq_some_iff.1 hh).1).trans hh, hs⟩
  · intro id ob ho
    exact (inv.ob id ob ho).keep (.refl _) rfl rfl fun b p hl hm => ⟨hk b ((inv.ob id ob ho).lt hl hm), fun _ => rfl⟩
theorem textsOf_get : ∀ (xs : List (List V)) (l : List ByteArray), textsOf xs = some l → xs.length = l.length ∧ ∀ (i : Nat) (s : ByteArray), l[i]? = some s → xs[i]? = some [V.sc (.string s)]
  | [], l, h => by
    have : l = [] := by simpa [textsOf] using h.symm
    subst this
    exact ⟨rfl, fun i n h => by simp at h⟩
  | x :: r, l, h => by
    match x, h with
    | [.sc (.string m)], h =>
      simp only [textsOf] at h
      cases hr : textsOf r with
      | none => rw [hr] at h; simp at h
      | some l' =>
        rw [hr] at h
        simp only [Option.map_some, Option.some.injEq] at h
        subst h
        obtain ⟨h1, h2⟩ := textsOf_get r l' hr
        refine ⟨by simp [h1], fun i n hi => ?_⟩
        cases i with
        | zero => simp at hi; subst hi; rfl
        | succ i => exact h2 i n (by simpa using hi)
theorem join_empty : ∀ l : List ByteArray, (⟨(Lib.join (l.map (·.data.toList)) []).toArray⟩ : ByteArray) = l.foldr (fun a b => a ++ b) ByteArray.empty
  | [] => rfl
  | x :: r => by
    have ih : ∀ r : List ByteArray, (r.foldr (fun a b => a ++ b) ByteArray.empty).data.toList = (r.map (·.data.toList)).flatten := by
      intro r
      induction r with
      | nil => rfl
      | cons y r ih => simp [ByteArray.data_append, ih]
    rw [List.map_cons, Lib.join_cons]
    have : Lib.joinTail [] (r.map (·.data.toList)) = (r.map (·.data.toList)).flatten := by simp [Lib.joinTail]; rfl
    rw [this, ← ih r]
    rw [List.foldr_cons]
    apply ByteArray.ext
    simp [ByteArray.data_append]
theorem join_len (l : List ByteArray) : (Lib.join (l.map (·.data.toList)) []).length = (l.map (·.size)).sum := by
  have h : (Lib.join (l.map (·.data.toList)) []) = (l.map (·.data.toList)).flatten := by
    cases l with
    | nil => rfl
    | cons x r => rw [List.map_cons, Lib.join_cons]; simp [Lib.joinTail]; rfl
  rw [h, List.length_flatten, List.map_map]; rfl
theorem prim_132 (args : List V) (h h' : H) (v : V) (e : joinP args h = some (v, h')) : CallOk C18 (GD C18) 132 args h v h' := by
  have hfn : FnOk C18.P 132 := ⟨_, func132, rfl, by decide +kernel⟩
  unfold joinP at e
  split at e
  · rename_i xs tk
    split at e
    · rename_i l hl
      split at e
      · rename_i hc
        obtain ⟨hc1, hc2⟩ := hc
        simp only [Option.some.injEq, Prod.mk.injEq] at e
        obtain ⟨rfl, rfl⟩ := e
        obtain ⟨hxl, hxg⟩ := textsOf_get xs l hl
        refine ⟨hfn, fun Δ w vs hG inv gl hr => ?_⟩
        obtain ⟨p, us, hvs, hp, hus⟩ := hr.cons_inv
        obtain ⟨p2, us2, hvs2, hp2, hus2⟩ := hus.cons_inv
        have : us2 = [] := by have := hus2.1; cases us2 <;> simp_all
        subst this
        cases hp2
        cases hp with
        | list _ _ _ _ hd ht =>
          obtain ⟨a, cap, b, o, rfl, hR, hbase, hcap⟩ := hd.list_inv
          have hvs' : vs = #[.slice a xs.length cap, .string ⟨⟨[]⟩⟩] := by
            apply Array.ext'; rw [hvs, hvs2]
          subst hvs'
          have fin : ∀ w', Below w.heap.size w w' → CallEnd (.sc (.string (l.foldr (fun a b => a ++ b) ByteArray.empty))) h Δ h w (.returned (.string (l.foldr (fun a b => a ++ b) ByteArray.empty))) w' := fun w' hb => by
            obtain ⟨i1, s1⟩ := below_inv inv hb
            exact ⟨_, Δ, rfl, i1, .sc _, s1⟩
          have k2 : CallsIn Fence.wide 0 prog 132 #[.slice a xs.length cap, .string ⟨⟨[]⟩⟩] w (CallEnd (.sc (.string (l.foldr (fun a b => a ++ b) ByteArray.empty))) h Δ h w) := by
            refine callsIn_wide.2 ?_
            by_cases hne : xs = []
            · subst hne
              have hl0 : l = [] := List.eq_nil_of_length_eq_zero (by simpa using hxl.symm)
              subst hl0
              refine (Proofs.Tryz.strings_Join_none a cap ⟨⟨[]⟩⟩ w).mono ?_
              rintro en w' ⟨rfl, rfl⟩
              exact fin w' (Below.refl _ _)
            · obtain rfl := hbase hne
              have hcells : ∀ (j : Nat) x, l[j]? = some x → w.cell? ⟨b, o + j, none⟩ = some (.string x) := by
                intro j x hx
                obtain ⟨u, hu, hur⟩ := hR.2 j 0 _ _ (hxg j x hx) rfl
                cases hur
                have := inv.ι _ _ _ hu
                show w.cell? (at_ b (o + j)) = _
                rw [show o + j = o + j * 1 + 0 by omega]; exact this
              have hbk : b < w.heap.size := by
                cases l with
                | nil => exact absurd (List.eq_nil_of_length_eq_zero (by simpa using hxl)) hne
                | cons x r => exact cell?_lt (hcells 0 x rfl)
              have := Proofs.Tryz.strings_Join b o cap l ⟨⟨[]⟩⟩ w hcells hbk (by omega) (by omega) (by show (Lib.join (l.map (·.data.toList)) []).length ≤ _; rw [join_len]; omega)
              rw [hxl]
              refine this.mono ?_
              rintro en w' ⟨rfl, hb⟩
              have hj := join_empty l
              rw [show (⟨⟨[]⟩⟩ : ByteArray).data.toList = [] from rfl, hj]
              exact fin w' hb
          exact k2
      · simp at e
    · simp at e
  · simp at e
end Go.Rg
/-
  What a call of the library has made, taken over.
-/
namespace Go.Rg
open Go Go.Pv Go.Proofs.Tryz Go.RowKit
set_option maxRecDepth 1000000
set_option maxHeartbeats 1000000
theorem adopt_tail {Δ : WT} {h : H} {w w' : World} (inv : Inv Δ h w) (hb : Below w.heap.size w w') {g cap n : Nat} {e : TypeId} {cur : Array Value} (hg : w.heap.size ≤ g) (hc : w'.heap[g]? = some (.cells cur e (0, 0))) (hcap : cap ≤ cur.size) (hn : n ≤ cap)
    (xs : List (List V)) (hxl : xs.length = n) (hrow : ∀ x ∈ xs, x.length = 1) (hx : ∀ (i : Nat) (x : V), xs[i]? = some [x] → ∃ v, cur[i]? = some v ∧ RD Δ.ι x v) :
    ∃ Δ', Inv Δ' (h ++ [.tail e n]) w' ∧ Step Δ h w Δ' (h ++ [.tail e n]) w' ∧ Rep Δ' (.list 1 xs (.tail h.length)) (.slice (some (at_ g 0)) n cap) := by
  obtain ⟨i1, s1⟩ := pad_ok inv 1
  let Δ1 := Δ.pad 1
  let Δ2 : WT := (Δ1.grow g n cur).put h.length (n + 1) g n
  have hN : h.length < Δ1.N := by show h.length < Δ.N + 1; rw [inv.N]; omega
  have hν : Δ1.ν h.length = 0 := by simp [Δ1, WT.pad, inv.N]
  have hι : SubI Δ1.ι (Δ1.grow g n cur).ι := by
    intro b o v e'
    have := i1.ι_lt e'
    simp only [WT.grow]; rw [if_neg (by omega)]; exact e'
  have ext1 : Ext Δ1 (Δ1.grow g n cur) := ⟨hι, fun b S e' => by have := i1.σ_lt e'; simp only [WT.grow]; rw [if_neg (by omega)]; exact e', Nat.le_refl _, fun _ _ => Nat.le_refl _, fun _ _ _ => rfl, rfl⟩
  have ext2 : Ext (Δ1.grow g n cur) Δ2 := put_ext (by show Δ1.ν h.length < n + 1; omega)
  have ext := ext1.trans ext2
  have hset : (h ++ List.replicate 1 Ob.pad).set h.length (.tail e n) = h ++ [.tail e n] := by
    rw [List.set_append_right _ _ (Nat.le_refl _)]; simp
  have hcell : ∀ o, w'.cell? (at_ g o) = cur[o]? := fun o => cell?_at hc
  have u := Upd.inv (Δ := Δ1) (Δ' := Δ2) (h := h ++ List.replicate 1 .pad) (w := w) (w' := w') (id := h.length) (o' := .tail e n) (T := fun _ => False)
    ⟨by simp, ext, rfl, fun i hi => by simp [Δ2, WT.put, WT.grow, hi], fun i hi => by simp [Δ2, WT.put, WT.grow, hi], fun b k => k.elim, hb.os, hb.tape, hb.output, hb.size, fun b hlt _ => hb.block b hlt,
      fun b o hlt _ => by
        show (Δ1.grow g n cur).ι b o = Δ1.ι b o
        simp only [WT.grow]; rw [if_neg (by omega)],
      fun b o v e0 => by
        have e1 : (if b = g then (if o < n then cur[o]? else none) else Δ1.ι b o) = some v := e0
        by_cases hbg : b = g
        · rw [if_pos hbg] at e1
          rw [hbg]
          by_cases hon : o < n
          · rw [if_pos hon] at e1; rw [hcell]; exact e1
          · rw [if_neg hon] at e1; simp at e1
        · rw [if_neg hbg] at e1
          have h0 := i1.ι b o v e1
          rw [cell?_eq (hb.block b (cell?_lt h0))]; exact h0,
      fun b S e0 => by
        have e1 : (if b = g then some cur.size else Δ1.σ b) = some S := e0
        by_cases hbg : b = g
        · rw [if_pos hbg] at e1
          rw [hbg]
          exact ⟨cur, e, (0, 0), hc, Option.some.inj e1⟩
        · rw [if_neg hbg] at e1
          obtain ⟨arr, e2, fr, hh, hs⟩ := i1.σ b S e1
          exact ⟨arr, e2, fr, (hb.block b (Array.getElem?_eq_some_iff.1 hh).1).trans hh, hs⟩,
      ⟨by simp [Δ2, WT.put], g, n, cur.size, by simp [Δ2, WT.put], by simp [Δ2, WT.put, WT.grow], ⟨⟨cur, e, (0, 0), hc, rfl, fun o _ => by simp [World.frozen?, at_, hc]⟩, cur, (0, 0), hc⟩, fun o ho => by
        show (Δ1.grow g n cur).ι g o = none
        simp only [WT.grow, if_true]; rw [if_neg (by omega)]⟩,
      fun _ b p hm => by simp [Δ2, WT.put] at hm; left; omega, fun l r k => k.elim⟩ i1
  rw [hset] at u
  refine ⟨Δ2, u.1, s1.trans u.2, ?_⟩
  have hrows : Pv.Rows Δ2.ι 1 xs g 0 := by
    refine ⟨hrow, fun i k x y hxi hyk => ?_⟩
    have hx1 := hrow x (List.mem_of_getElem? hxi)
    match x, hx1 with
    | [z], _ =>
      have hk0 : k = 0 := by
        have := (List.getElem?_eq_some_iff.1 hyk).1
        simp at this; exact this
      subst hk0
      simp at hyk
      subst hyk
      obtain ⟨v, hv, hr⟩ := hx i z hxi
      have hi : i < n := by rw [← hxl]; exact (List.getElem?_eq_some_iff.1 hxi).1
      refine ⟨v, ?_, hr.mono (fun b o v h0 => ext.ι b o v ((pad_ext Δ 1).ι b o v h0))⟩
      show (Δ1.grow g n cur).ι g (0 + i * 1 + 0) = some v
      simp only [WT.grow, if_true]
      rw [if_pos (by omega)]
      simpa using hv
  have hrd := RD.list' (a := some (at_ g 0)) (cap := cap) hrows (fun _ => rfl) (by omega)
  rw [hxl] at hrd
  have hplace : Pv.Place Δ2 h.length (n + 1) g n := ⟨hN, by simp [Δ2, WT.put], fun _ => by simp [Δ2, WT.put]⟩
  refine .list 1 xs (.tail h.length) _ hrd ?_
  rw [hxl]
  exact ⟨g, 0, cap, cur.size, rfl, by simpa using hplace, by simp [Δ2, WT.put, WT.grow], by omega⟩
end Go.Rg
/-
  slices.Clone.
-/
namespace Go.Rg
open Go Go.Pv Go.Proofs.Tryz Go.RowKit
set_option maxRecDepth 1000000
set_option maxHeartbeats 1000000
theorem eqSlice (w : World) (a : Option Addr) (n c n' c' : Nat) : (binOp .eql 24 (.slice a n c) (.slice none n' c')).run prog w = .ok (.bool a.isNone) w :=
  Lib.run_eql_slice_nil w 24 9 a n c n' c' (by kernel_rfl)
theorem clone_zero (a : Addr) (c : Nat) (w : World) :
    Calls prog 79 #[.slice (some a) 0 c] w fun e w' => ∃ g, e = .returned (.slice (some g) 0 0) ∧ Below w.heap.size w w' := by
  have q24 := eqSlice
  have hap : ∀ (w : World) (g : Addr), (Builtin.append_ #[24, 24] 24 #[.slice (some g) 0 0, .slice (some a) 0 c]).run prog w = .ok (.slice (some g) 0 0) w := by
    intro w g
    have E : Elems prog (WT.of C18 w) w (.slice (some a) 0 c) (prog.cellsOf 9) [] := by
      have := elems_at (P := prog) (Δ := WT.of C18 w) (w := w) (b := 0) (o := 0) (cap := c) (a := some a) (ys := []) (sz := prog.cellsOf 9) (fun x hx => by simp at hx) (fun k => absurd rfl k) (fun i k x y hx => by simp at hx)
      exact this
    exact app_empty (P := prog) (argTypes := #[24, 24]) (ty := 24) (el := 9) ⟨24, 24, .slice 9, rfl, by kernel_rfl, rfl, by kernel_rfl, fun k h => by simp at h⟩ (by kernel_rfl) E (Nat.zero_le _)
  go_enter func79, ntmps79
  go_wp2
  go_ret
  exact ⟨_, rfl, (Below.refl _ w).alloc (Nat.le_refl _) _⟩
theorem rows_strs : ∀ (xs : List (List V)) (l : List ByteArray), textsOf xs = some l → ∀ x ∈ xs, x.length = 1
  | [], _, _, x, hx => by simp at hx
  | y :: r, l, h, x, hx => by
    match y, h with
    | [.sc (.string m)], h =>
      simp only [textsOf] at h
      cases hr : textsOf r with
      | none => rw [hr] at h; simp at h
      | some l' =>
        rcases List.mem_cons.1 hx with rfl | hx
        · rfl
        · exact rows_strs r l' hr x hx
theorem prim_79 (args : List V) (h h' : H) (v : V) (e : cloneP args h = some (v, h')) : CallOk C18 (GD C18) 79 args h v h' := by
  have hfn : FnOk C18.P 79 := ⟨_, func79, rfl, by decide +kernel⟩
  have nilcase : ∀ (Δ : WT) (w : World) (n c : Nat), Pv.Inv Δ h w → CallsIn Fence.wide 0 prog 79 #[.slice none n c] w (CallEnd (.list 1 [] .full) h Δ h w) := by
    intro Δ w n c inv
    refine callsIn_wide.2 ((Proofs.Any.slices_Clone_string_nil Proofs.Tryz.laysClone n c w).mono ?_)
    rintro en w' ⟨rfl, rfl⟩
    exact ⟨_, Δ, rfl, inv, .list 1 [] .full _ (RD.list' (xs := []) (Rows.nil _ _ 0 0) (fun k => absurd rfl k) (Nat.zero_le _)) ⟨none, rfl⟩, .refl _ _ _⟩
  unfold cloneP at e
  split at e
  · rename_i xs tk
    split at e
    · rename_i l hl
      obtain ⟨hxl, hxg⟩ := textsOf_get xs l hl
      have hr1 := rows_strs xs l hl
      refine ⟨hfn, fun Δ w vs hG inv gl hr => ?_⟩
      obtain ⟨p, us, hvs, hp, hus⟩ := hr.cons_inv
      have : us = [] := by have := hus.1; cases us <;> simp_all
      subst this
      cases hp with
      | list _ _ _ _ hd ht =>
        obtain ⟨a, cap, b, o, rfl, hR, hbase, hcap⟩ := hd.list_inv
        have hvs' : vs = #[.slice a xs.length cap] := by
          apply Array.ext'; rw [hvs]
        subst hvs'
        split at e
        · rename_i hem
          have hl0 : l = [] := by simpa using hem
          subst hl0
          have hx0 : xs = [] := List.eq_nil_of_length_eq_zero (by simpa using hxl)
          subst hx0
          simp only [Option.some.injEq, Prod.mk.injEq] at e
          obtain ⟨rfl, rfl⟩ := e
          cases a with
          | none => exact nilcase Δ w _ _ inv
          | some a =>
            have k2 : CallsIn Fence.wide 0 prog 79 #[.slice (some a) 0 cap] w (CallEnd (.list 1 [] .full) h Δ h w) := by
              refine callsIn_wide.2 ((clone_zero a cap w).mono ?_)
              rintro en w' ⟨g, rfl, hb⟩
              obtain ⟨i1, s1⟩ := below_inv inv hb
              exact ⟨_, Δ, rfl, i1, .list 1 [] .full _ (RD.list' (xs := []) (Rows.nil _ _ 0 0) (fun k => absurd rfl k) (Nat.zero_le _)) ⟨some g, rfl⟩, s1⟩
            exact k2
        · rename_i hem
          split at e
          · rename_i hlim
            simp only [Option.some.injEq, Prod.mk.injEq] at e
            obtain ⟨rfl, rfl⟩ := e
            have hne : xs ≠ [] := by
              intro k; subst k; apply hem
              have : l = [] := List.eq_nil_of_length_eq_zero (by simpa using hxl.symm)
              simp [this]
            obtain rfl := hbase hne
            have hlim' : l.length < 4294967296 := hlim
            have hc : ∀ j, j < l.length → w.cell? ⟨b, o + j, none⟩ = some (.string (l.getD j ByteArray.empty)) := by
              intro j hj
              have hlj : l[j]? = some l[j] := List.getElem?_eq_getElem hj
              obtain ⟨u, hu, hur⟩ := hR.2 j 0 _ _ (hxg j _ hlj) rfl
              cases hur
              have := inv.ι _ _ _ hu
              show w.cell? (at_ b (o + j)) = _
              rw [show o + j = o + j * 1 + 0 by omega, this]
              simp [hlj]
            have k2 : CallsIn Fence.wide 0 prog 79 #[.slice (some (at_ b o)) xs.length cap] w (CallEnd (.list 1 xs (.tail h.length)) (h ++ [.tail 9 xs.length]) Δ h w) := by
              refine callsIn_wide.2 ((Proofs.Any.slices_Clone_string Proofs.Tryz.laysClone b o xs.length cap l w (by omega) (by omega) hc).mono ?_)
              rintro en w' ⟨v', rfl, hown, hnn, hb⟩
              rcases hown.2 with ⟨_, h0⟩ | ⟨g, cap', cur, rfl, hg, hgc, hnc, _, hcs, htk⟩
              · exact absurd (List.eq_nil_of_length_eq_zero h0) hne
              · obtain ⟨Δ', i1, s1, r1⟩ := adopt_tail inv hb hg hgc (by omega) hnc xs rfl hr1 (by
                  intro i x hx
                  have hi : i < xs.length := (List.getElem?_eq_some_iff.1 hx).1
                  have hlj : l[i]? = some l[i] := List.getElem?_eq_getElem (by omega)
                  have := hxg i _ hlj
                  rw [hx] at this
                  simp only [Option.some.injEq, List.cons.injEq, and_true] at this
                  subst this
                  refine ⟨.string l[i], ?_, .sc _ rfl⟩
                  have hh : (cur.toList.take (xs.length * 1))[i]? = some (.string l[i]) := by
                    rw [htk]
                    simp [List.getElem?_take, hi, hlj]
                  rw [List.getElem?_take, if_pos (by omega)] at hh
                  simpa using hh)
                exact ⟨_, Δ', rfl, i1, r1, s1⟩
            exact k2
          · simp at e
    · simp at e
  · simp only [Option.some.injEq, Prod.mk.injEq] at e
    obtain ⟨rfl, rfl⟩ := e
    refine ⟨hfn, fun Δ w vs hG inv gl hr => ?_⟩
    obtain ⟨p, us, hvs, hp, hus⟩ := hr.cons_inv
    have : us = [] := by have := hus.1; cases us <;> simp_all
    subst this
    cases hp
    have hvs' : vs = #[.slice none 0 0] := by
      apply Array.ext'; rw [hvs]
    subst hvs'
    exact nilcase Δ w _ _ inv
  · simp at e
end Go.Rg
/-
  maps.Copy: what the contract's readings say.
-/
namespace Go.Rg
open Go Go.Pv Go.Proofs.Tryz Go.RowKit Go.Maps
open Go.WideElems (Fit rd rg rd_key rd_val rg_of)
set_option maxRecDepth 1000000
set_option maxHeartbeats 1000000
abbrev DW := DataW Unit
/-- An entry, as the contract reads it. -/
def lit2 (e : Value × V) : Lit × DW :=
  match e with
  | (.int q a, .sc (.string s)) => (.int q a, .lit (.string s.data.toList))
  | _ => (.bool false, .lit (.bool false))
noncomputable def R9 : Value → Option (DW × List MemPlace) := plainElem prog 9
theorem keyed3 : Keyed prog 3 := int_keyed un3
theorem mapOk_at {es : List (Value × V)} (h : mapOk es = true) {k : Value} {x : V} (hm : (k, x) ∈ es) :
    ∃ (n : Int) (s : ByteArray), k = .int .i64 n ∧ x = .sc (.string s) ∧ -9223372036854775808 ≤ n ∧ n ≤ 9223372036854775807 ∧ s.size < 1000000000 := by
  have := List.all_eq_true.1 h _ hm
  split at this
  · rename_i n s he
    simp only [Prod.mk.injEq] at he
    obtain ⟨rfl, rfl⟩ := he
    simp only [Bool.and_eq_true, decide_eq_true_eq] at this
    exact ⟨n, s, rfl, rfl, this.1.1, this.1.2, this.2⟩
  · simp at this
theorem wf64 {n : Int} (h1 : -9223372036854775808 ≤ n) (h2 : n ≤ 9223372036854775807) : (Lit.int .i64 n).wf = true := by
  simp [Lit.wf, IntKind.min, IntKind.max, IntKind.bits, IntKind.signed]
  omega
theorem mapIs_at {Δ : WT} {es : List (Value × V)} {arr : Array MapEntry} {clock : Nat} (h : MapIs Δ es arr clock) {x : MapEntry} (hx : x ∈ arr.toList) : ∃ v, (x.key, v) ∈ es ∧ Rep Δ v x.val := by
  obtain ⟨v, hv⟩ := h.from_ x hx
  obtain ⟨e, he, hk, hr⟩ := h.to _ _ hv
  have hn : arr.toList.Pairwise (fun x y => x.key ≠ y.key) := ((MapKept.stamped_iff arr clock).1 h.st).2.2
  have : e = x := by
    obtain ⟨i, hi⟩ := List.getElem?_of_mem he
    obtain ⟨j, hj⟩ := List.getElem?_of_mem hx
    obtain ⟨hi1, hi2⟩ := List.getElem?_eq_some_iff.1 hi
    obtain ⟨hj1, hj2⟩ := List.getElem?_eq_some_iff.1 hj
    have hp := List.pairwise_iff_getElem.1 hn
    rcases Nat.lt_trichotomy i j with hlt | heq | hlt
    · exact absurd (by rw [hi2, hj2]; exact hk) (hp i j hi1 hj1 hlt)
    · subst heq; exact hi2.symm.trans hj2
    · exact absurd (by rw [hi2, hj2]; exact hk.symm) (hp j i hj1 hi1 hlt)
  subst this
  exact ⟨v, hv, hr⟩
/-- What the contract reads in a map's block. -/
theorem fit_of {Δ : WT} {es : List (Value × V)} {arr : Array MapEntry} {clock : Nat} (h : MapIs Δ es arr clock) (hok : mapOk es = true) (hl : es.length < lim) :
    Fit prog 3 R9 arr clock ∧ ∀ p, p ∈ arr.toList.map (rg prog 3 R9) ↔ p ∈ es.map lit2 := by
  have rdx : ∀ x ∈ arr.toList, ∃ (n : Int) (s : ByteArray), x.key = .int .i64 n ∧ x.val = .string s ∧ (x.key, V.sc x.val) ∈ es ∧ rd prog 3 R9 x = some (lit2 (x.key, .sc x.val)) := by
    intro x hx
    obtain ⟨v, hv, hr⟩ := mapIs_at h hx
    obtain ⟨n, s, hk, rfl, h1, h2, h3⟩ := mapOk_at hok hv
    have hxv : x.val = .string s := by
      generalize x.val = u at hr
      cases hr; rfl
    refine ⟨n, s, hk, hxv, by rw [hxv]; exact hv, ?_⟩
    have hkey : keyOf prog 3 (.int .i64 n) = some (.int .i64 n) := keyOf_int_mk un3 (wf64 h1 h2)
    have hval : R9 (.string s) = some (.lit (.string s.data.toList), []) := plainElem_string un9 (by unfold maxLen; omega)
    have := WideElems.rd_mk (P := prog) (k := 3) (R := R9) (val := .string s) (born := x.born) hkey hval
    obtain ⟨xk, xv, xb⟩ := x
    simp only at hk hxv this ⊢
    subst hk; subst hxv
    exact this
  refine ⟨⟨?_, h.st, fun x hx => ?_⟩, fun p => ⟨fun hp => ?_, fun hp => ?_⟩⟩
  · rw [h.size]; unfold maxLen; unfold lim at hl; omega
  · obtain ⟨n, s, _, _, _, hrd⟩ := rdx x hx
    exact ⟨_, hrd⟩
  · obtain ⟨x, hx, rfl⟩ := List.mem_map.1 hp
    obtain ⟨n, s, _, _, hm, hrd⟩ := rdx x hx
    rw [rg_of hrd]
    exact List.mem_map.2 ⟨_, hm, rfl⟩
  · obtain ⟨⟨k, v⟩, hm, rfl⟩ := List.mem_map.1 hp
    obtain ⟨n, s, rfl, rfl, h1, h2, h3⟩ := mapOk_at hok hm
    obtain ⟨e, he, hk, hr⟩ := h.to _ _ hm
    obtain ⟨n', s', hk', hv', _, hrd⟩ := rdx e he
    refine List.mem_map.2 ⟨e, he, ?_⟩
    rw [rg_of hrd, hk]
    generalize e.val = u at hr
    cases hr
    rfl
theorem lit2_inj {es : List (Value × V)} (h : mapOk es = true) {gs : List (Value × V)} (h' : mapOk gs = true) {p q : Value × V} (hp : p ∈ es) (hq : q ∈ gs) (e : lit2 p = lit2 q) : p = q := by
  obtain ⟨k, x⟩ := p
  obtain ⟨k', x'⟩ := q
  obtain ⟨n, s, rfl, rfl, _, _, _⟩ := mapOk_at h hp
  obtain ⟨n', s', rfl, rfl, _, _, _⟩ := mapOk_at h' hq
  simp only [lit2, Prod.mk.injEq, Lit.int.injEq, true_and, DataW.lit.injEq, Lit.string.injEq] at e
  obtain ⟨rfl, e⟩ := e
  have : s = s' := by
    cases s; cases s'
    simp only [ByteArray.mk.injEq]
    exact Array.ext' e
  rw [this]
theorem lit2_key {es : List (Value × V)} (h : mapOk es = true) {gs : List (Value × V)} (h' : mapOk gs = true) {p q : Value × V} (hp : p ∈ es) (hq : q ∈ gs) : (lit2 p).1 = (lit2 q).1 ↔ p.1 = q.1 := by
  obtain ⟨k, x⟩ := p
  obtain ⟨k', x'⟩ := q
  obtain ⟨n, s, rfl, rfl, _, _, _⟩ := mapOk_at h hp
  obtain ⟨n', s', rfl, rfl, _, _, _⟩ := mapOk_at h' hq
  simp [lit2]
/-- .. and back. -/
theorem mapIs_of {Δ : WT} {gs : List (Value × V)} {arr : Array MapEntry} {clock : Nat} (F : Fit prog 3 R9 arr clock) (hok : mapOk gs = true) (hnd : (gs.map (·.1)).Nodup) (hm : ∀ p, p ∈ arr.toList.map (rg prog 3 R9) ↔ p ∈ gs.map lit2) : MapIs Δ gs arr clock := by
  have rdx : ∀ x ∈ arr.toList, ∃ (n : Int) (s : ByteArray), x.key = .int .i64 n ∧ x.val = .string s ∧ (x.key, V.sc x.val) ∈ gs := by
    intro x hx
    obtain ⟨y, hy⟩ := F.reads x hx
    have hp := (hm (rg prog 3 R9 x)).1 (List.mem_map.2 ⟨x, hx, rfl⟩)
    rw [rg_of hy] at hp
    obtain ⟨⟨k, v⟩, hg, hl⟩ := List.mem_map.1 hp
    obtain ⟨n, s, rfl, rfl, h1, h2, h3⟩ := mapOk_at hok hg
    have hk := rd_key hy
    obtain ⟨z, hz, hz2⟩ := rd_val hy
    rw [← hl] at hk hz2
    simp only [lit2] at hk hz2
    obtain ⟨n', hk', hn', _⟩ := keyOf_i64 un3 hk
    simp only [Lit.int.injEq, true_and] at hn'
    subst hn'
    have hv : x.val = .string s := by
      have hz' : plainElem (H := Unit) prog 9 x.val = some z := hz
      unfold plainElem at hz'
      rw [un9] at hz'
      generalize x.val = u at hz'
      cases u <;> simp at hz'
      obtain ⟨_, rfl⟩ := hz'
      simp only [DataW.lit.injEq, Lit.string.injEq] at hz2
      rename_i s' _
      have : s' = s := by
        cases s; cases s'
        simp only [ByteArray.mk.injEq]
        exact Array.ext' hz2.symm
      rw [this]
    exact ⟨n, s, hk', hv, by rw [hk', hv]; exact hg⟩
  have hn : (arr.toList.map (·.key)).Nodup := F.stamped.2.2
  have to : ∀ k x, (k, x) ∈ gs → ∃ e ∈ arr.toList, e.key = k ∧ Rep Δ x e.val := by
    intro k x hx
    obtain ⟨n, s, rfl, rfl, h1, h2, h3⟩ := mapOk_at hok hx
    have hp := (hm (lit2 (Value.int .i64 n, V.sc (.string s)))).2 (List.mem_map.2 ⟨_, hx, rfl⟩)
    obtain ⟨e, he, hr⟩ := List.mem_map.1 hp
    obtain ⟨y, hy⟩ := F.reads e he
    obtain ⟨n', s', hk, hv, hg⟩ := rdx e he
    have e1 : lit2 (e.key, V.sc e.val) = lit2 (Value.int .i64 n, V.sc (.string s)) := by
      rw [← hr]
      have hk2 := rd_key hy
      obtain ⟨z, hz, hz2⟩ := rd_val hy
      rw [rg_of hy]
      obtain ⟨m, hm1, hm2, _⟩ := keyOf_i64 un3 hk2
      rw [hk] at hm1
      simp only [encZ, Value.int.injEq, true_and] at hm1
      subst hm1
      have hz' : plainElem (H := Unit) prog 9 e.val = some z := hz
      rw [hv] at hz'
      unfold plainElem at hz'
      rw [un9] at hz'
      simp only at hz'
      split at hz'
      · simp only [Option.some.injEq] at hz'
        subst hz'
        rw [hk, hv]
        obtain ⟨y1, y2⟩ := y
        simp only at hm2 hz2
        rw [hm2, hz2]
        rfl
      · simp at hz'
    have := lit2_inj hok hok hg hx e1
    simp only [Prod.mk.injEq] at this
    refine ⟨e, he, this.1, ?_⟩
    rw [← this.2]
    exact .sc _
  refine ⟨?_, hnd, F.stamped, to, fun e he => ?_⟩
  · have hp : (arr.toList.map (·.key)).Perm (gs.map (·.1)) := (List.perm_ext_iff_of_nodup hn hnd).2 fun k => by
      constructor
      · intro hk
        obtain ⟨e, he, rfl⟩ := List.mem_map.1 hk
        obtain ⟨_, _, _, _, hg⟩ := rdx e he
        exact List.mem_map.2 ⟨_, hg, rfl⟩
      · intro hk
        obtain ⟨⟨k', x⟩, hg, rfl⟩ := List.mem_map.1 hk
        obtain ⟨e, he, h1, _⟩ := to _ _ hg
        exact List.mem_map.2 ⟨e, he, h1⟩
    have := hp.length_eq
    simpa using this
  · obtain ⟨_, _, _, _, hg⟩ := rdx e he
    exact ⟨_, hg⟩
/-- Entries laid over others. -/
theorem put_mem {D : List (Lit × DW)} {k : Lit} {d : DW} (hk : WideAt.IsKeyLit k) : ∃ L, (DataW.map D).put k d = .map L ∧ ∀ p, p ∈ L ↔ p = (k, d) ∨ (p ∈ D ∧ p.1 ≠ k) := by
  refine ⟨_, rfl, fun p => ?_⟩
  rw [ChangeMaps.mem_insert_iff, List.mem_filter]
  constructor
  · rintro (h | ⟨h, h2⟩)
    · exact .inl h
    · exact .inr ⟨h, (notKey_iff hk).1 h2⟩
  · rintro (h | ⟨h, h2⟩)
    · exact .inl h
    · exact .inr ⟨h, (notKey_iff hk).2 h2⟩
theorem fold_mem : ∀ (L2 : List (Lit × DW)) (L1 : List (Lit × DW)), (∀ p ∈ L2, WideAt.IsKeyLit p.1) → L2.Pairwise (fun p q => p.1 ≠ q.1) →
    ∃ L, L2.foldl (fun D p => D.put p.1 p.2) (DataW.map L1) = .map L ∧ ∀ p, p ∈ L ↔ p ∈ L2 ∨ (p ∈ L1 ∧ ∀ q ∈ L2, q.1 ≠ p.1)
  | [], L1, _, _ => ⟨L1, rfl, fun p => by simp⟩
  | a :: r, L1, hk, hd => by
    obtain ⟨h1, h2⟩ := List.pairwise_cons.1 hd
    obtain ⟨L', e1, m1⟩ := put_mem (D := L1) (k := a.1) (d := a.2) (hk a (by simp))
    obtain ⟨L, e2, m2⟩ := fold_mem r L' (fun p hp => hk p (by simp [hp])) h2
    refine ⟨L, by rw [List.foldl_cons, e1]; exact e2, fun p => ?_⟩
    rw [m2, m1]
    constructor
    · rintro (h | ⟨h | ⟨h, hne⟩, h'⟩)
      · exact .inl (by simp [h])
      · exact .inl (by rw [h]; simp)
      · refine .inr ⟨h, fun q hq => ?_⟩
        rcases List.mem_cons.1 hq with rfl | hq
        · exact fun e => hne e.symm
        · exact h' q hq
    · rintro (h | ⟨h, h'⟩)
      · rcases List.mem_cons.1 h with rfl | h
        · exact .inr ⟨.inl rfl, fun q hq => (h1 q hq).symm⟩
        · exact .inl h
      · exact .inr ⟨.inr ⟨h, fun e => h' a (by simp) e.symm⟩, fun q hq => h' q (by simp [hq])⟩
def mergeE (es fs : List (Value × V)) : List (Value × V) := fs.foldl (fun es e => setE e.1 e.2 es) es
theorem mapOk_key {es : List (Value × V)} (h : mapOk es = true) : ∀ e ∈ es, keyOk (.int .i64) e.1 = true := by
  intro e he
  obtain ⟨k, x⟩ := e
  obtain ⟨n, s, rfl, rfl, _⟩ := mapOk_at h he
  rfl
theorem mapOk_cons {e : Value × V} {es : List (Value × V)} : mapOk (e :: es) = true ↔ mapOk [e] = true ∧ mapOk es = true := by
  simp [mapOk]
theorem mapOk_of {es : List (Value × V)} (h : ∀ e ∈ es, mapOk [e] = true) : mapOk es = true := by
  induction es with
  | nil => rfl
  | cons e es ih => exact mapOk_cons.2 ⟨h e (by simp), ih fun x hx => h x (by simp [hx])⟩
theorem mapOk_one {es : List (Value × V)} (h : mapOk es = true) : ∀ e ∈ es, mapOk [e] = true := by
  induction es with
  | nil => simp
  | cons a es ih =>
    obtain ⟨h1, h2⟩ := mapOk_cons.1 h
    intro e he
    rcases List.mem_cons.1 he with rfl | he
    · exact h1
    · exact ih h2 e he
theorem merge_facts : ∀ (fs es : List (Value × V)), mapOk es = true → mapOk fs = true → (es.map (·.1)).Nodup → (fs.map (·.1)).Nodup →
    mapOk (mergeE es fs) = true ∧ ((mergeE es fs).map (·.1)).Nodup ∧ ∀ k x, (k, x) ∈ mergeE es fs ↔ (k, x) ∈ fs ∨ ((k, x) ∈ es ∧ ∀ q ∈ fs, q.1 ≠ k)
  | [], es, h1, _, h3, _ => ⟨h1, h3, fun k x => by simp [mergeE]⟩
  | a :: r, es, h1, h2, h3, h4 => by
    obtain ⟨a1, a2⟩ := mapOk_cons.1 h2
    obtain ⟨n1, n2⟩ := List.nodup_cons.1 (by simpa only [List.map_cons] using h4)
    have hka : keyOk (.int .i64) a.1 = true := mapOk_key h2 a (by simp)
    have hke := mapOk_key h1
    have hmem := setE_mem (k := a.1) (x := a.2) hka hke h3
    have hkeys := (setE_keys (k := a.1) (x := a.2) hka hke h3).1
    have hok : mapOk (setE a.1 a.2 es) = true := mapOk_of fun e he => by
      obtain ⟨k, x⟩ := e
      rcases (hmem k x).1 he with ⟨rfl, rfl⟩ | ⟨_, h⟩
      · exact a1
      · exact mapOk_one h1 _ h
    obtain ⟨m1, m2, m3⟩ := merge_facts r (setE a.1 a.2 es) hok a2 hkeys n2
    refine ⟨m1, m2, fun k x => ?_⟩
    show (k, x) ∈ mergeE (setE a.1 a.2 es) r ↔ _
    rw [m3, hmem]
    constructor
    · rintro (h | ⟨⟨rfl, rfl⟩ | ⟨hne, h⟩, h'⟩)
      · exact .inl (by simp [h])
      · exact .inl (by simp)
      · refine .inr ⟨h, fun q hq => ?_⟩
        rcases List.mem_cons.1 hq with rfl | hq
        · exact fun e => hne e.symm
        · exact h' q hq
    · rintro (h | ⟨h, h'⟩)
      · rcases List.mem_cons.1 h with h | h
        · obtain ⟨ak, ax⟩ := a
          simp only [Prod.mk.injEq] at h
          obtain ⟨rfl, rfl⟩ := h
          exact .inr ⟨.inl ⟨rfl, rfl⟩, fun q hq e => n1 (List.mem_map.2 ⟨q, hq, e⟩)⟩
        · exact .inl h
      · exact .inr ⟨.inr ⟨fun e => h' a (by simp) e.symm, h⟩, fun q hq => h' q (by simp [hq])⟩
end Go.Rg
/-
  maps.Copy.
-/
namespace Go.Rg
open Go Go.Pv Go.Proofs.Tryz Go.RowKit Go.Maps
open Go.WideElems (Fit rd rg rd_key rd_val rg_of)
set_option maxRecDepth 1000000
set_option maxHeartbeats 1000000
set_option linter.unusedSimpArgs false
theorem owns_of {Δ : WT} {w : World} {b : Nat} {es : List (Value × V)} {arr : Array MapEntry} {clock : Nat} (hb : w.heap[b]? = some (.map arr clock)) (h : MapIs Δ es arr clock) (hok : mapOk es = true) (hl : es.length < lim) :
    ∃ L, w.ownsMap prog 3 R9 b es.length (DataW.map L) ∧ (∀ p, p ∈ L ↔ p ∈ es.map lit2) ∧ L.Pairwise (fun p q => p.1 ≠ q.1) ∧ ∀ p ∈ L, WideAt.IsKeyLit p.1 := by
  obtain ⟨F, hm⟩ := fit_of h hok hl
  have own : w.ownsMap prog 3 R9 b es.length (DataW.map ((arr.toList.map (rg prog 3 R9)).foldr DataW.insert [])) := ⟨arr, clock, hb, F, by rw [h.size]; exact Nat.le_refl _, rfl⟩
  have ck := own.canonK keyed3
  refine ⟨_, own, fun p => ?_, ?_, ?_⟩
  · rw [mem_sorted]; exact hm p
  · obtain ⟨es', e, hr, _⟩ := ck
    simp only [DataW.map.injEq] at e
    rw [e]; exact apart_of_rising hr
  · obtain ⟨es', e, _, hk⟩ := ck
    simp only [DataW.map.injEq] at e
    rw [e]
    exact fun p hp => keyed3.one.key (hk p hp)
/-- A map's block turns. -/
theorem map_turns {Δ : WT} {h : H} {w w' : World} {id b : Nat} {es gs : List (Value × V)} (inv : Inv Δ h w) (ho : h[id]? = some (.map es)) (hμ : Δ.μ id = some (b, 0)) {arr arr' : Array MapEntry} {clock clock' : Nat} (hb : w.heap[b]? = some (.map arr clock))
    (hg : w.grownBy w' (some b)) (hb' : w'.heap[b]? = some (.map arr' clock')) (hmi : MapIs Δ gs arr' clock') : Inv Δ (h.set id (.map gs)) w' ∧ Step Δ h w Δ (h.set id (.map gs)) w' := by
  have hk : ∀ c, c < w.heap.size → c ≠ b → w'.heap[c]? = w.heap[c]? := fun c hlt hne => hg.block c hlt (by simp [hne])
  refine Upd.inv (T := fun c => c = b) ⟨(List.getElem?_eq_some_iff.1 ho).1, .refl _, rfl, fun _ _ => rfl, fun _ _ => rfl, fun c hc => ⟨_, 0, ho, rfl, by rw [hc]; exact hμ⟩, hg.os, hg.tape, hg.output, hg.size,
    fun c hlt hn => hk c hlt hn, fun _ _ _ _ => rfl, ?_, ?_, ⟨(inv.ob id _ ho).1, b, arr', clock', hμ, hb', hmi⟩, fun _ c p hm => .inr ?_, fun l r hl hr => ?_⟩ inv
  · intro c j u hu
    have h0 := inv.ι c j u hu
    have : c ≠ b := by rintro rfl; simp [World.cell?, at_, hb] at h0
    rw [cell?_eq (hk c (cell?_lt h0) this)]; exact h0
  · intro c S hS
    obtain ⟨ar, el, fr, hh, hs⟩ := inv.σ c S hS
    have : c ≠ b := by rintro rfl; rw [hb] at hh; simp at hh
    exact ⟨ar, el, fr, (hk c (Array.getElem?_eq_some_iff.1 hh).1 this).trans hh, hs⟩
  · rw [hμ] at hm; cases hm; rfl
  · subst hl; rw [hb] at hr; simp at hr
theorem prim_66 (args : List V) (h h' : H) (v : V) (e : copyP args h = some (v, h')) : CallOk C18 (GD C18) 66 args h v h' := by
  have hfn : FnOk C18.P 66 := ⟨_, func66, rfl, by decide +kernel⟩
  unfold copyP at e
  split at e
  · rename_i ia ib
    split at e
    · simp at e
    · rename_i hne
      split at e
      · rename_i es fs ha hb
        split at e
        · rename_i hc
          obtain ⟨c1, c2, c3⟩ := hc
          simp only [Option.some.injEq, Prod.mk.injEq] at e
          obtain ⟨rfl, rfl⟩ := e
          refine ⟨hfn, fun Δ w vs hG inv gl hr => ?_⟩
          obtain ⟨p, us, hvs, hp, hus⟩ := hr.cons_inv
          obtain ⟨p2, us2, hvs2, hp2, hus2⟩ := hus.cons_inv
          have : us2 = [] := by have := hus2.1; cases us2 <;> simp_all
          subst this
          cases hp with
          | mp _ ba hpa =>
            cases hp2 with
            | mp _ bb hpb =>
              have hvs' : vs = #[.map (some ba), .map (some bb)] := by
                apply Array.ext'; rw [hvs, hvs2]
              subst hvs'
              obtain ⟨hνa, ba', arra, cka, hμa, hha, hma⟩ := inv.ob ia _ ha
              obtain ⟨hνb, bb', arrb, ckb, hμb, hhb, hmb⟩ := inv.ob ib _ hb
              have ea := hpa.2.2 hνa.symm
              rw [hμa] at ea
              simp only [Option.some.injEq, Prod.mk.injEq, and_true] at ea
              subst ea
              have eb := hpb.2.2 hνb.symm
              rw [hμb] at eb
              simp only [Option.some.injEq, Prod.mk.injEq, and_true] at eb
              subst eb
              have hbb : ba' ≠ bb' := by
                rintro rfl
                exact hne (inv.dis ia ib _ _ ba' 0 0 ha hb rfl rfl hμa hμb)
              obtain ⟨L1, o1, m1, d1, k1⟩ := owns_of hha hma c1 (by omega)
              obtain ⟨L2, o2, m2, d2, k2⟩ := owns_of hhb hmb c2 (by omega)
              have hsz : Maps.size (DataW.map L2) ≤ fs.length := by
                obtain ⟨es', ck, _, F, hs, hD⟩ := o2
                simp only [DataW.map.injEq] at hD
                show L2.length ≤ _
                rw [hD, length_sorted]
                simpa using hs
              have hcalls := Proofs.AnyX.maps_Copy Proofs.Tryz.laysCopy keyed3 R9 ba' bb' es.length fs.length (DataW.map L1) (DataW.map L2) w o1 o2 hbb (by unfold maxLen; unfold lim at c3; omega)
              have k3 : CallsIn Fence.wide 0 prog 66 #[.map (some ba'), .map (some bb')] w (CallEnd (.tup []) (h.set ia (.map (fs.foldl (fun es e => setE e.1 e.2 es) es))) Δ h w) := by
                refine callsIn_wide.2 (hcalls.mono ?_)
                rintro en w' ⟨rfl, hd, _, hg⟩
                obtain ⟨L, eL, mL⟩ := fold_mem L2 L1 k2 d2
                obtain ⟨g1, g2, g3⟩ := merge_facts fs es c1 c2 hma.nd hmb.nd
                obtain ⟨arr', ck', hb', F, _, hD⟩ := hd
                have hD' : L = (arr'.toList.map (rg prog 3 R9)).foldr DataW.insert [] := by
                  have : Lib.mergeD (DataW.map L1) (DataW.map L2) = .map L := eL
                  rw [this] at hD
                  exact DataW.map.inj hD
                have hmi : MapIs Δ (mergeE es fs) arr' ck' := mapIs_of F g1 g2 fun p => by
                  have e1 : p ∈ arr'.toList.map (rg prog 3 R9) ↔ p ∈ L := by rw [hD', mem_sorted]
                  rw [e1, mL, m1, m2]
                  constructor
                  · rintro (hp | ⟨hp, hq⟩)
                    · obtain ⟨⟨k, x⟩, hx, rfl⟩ := List.mem_map.1 hp
                      exact List.mem_map.2 ⟨_, (g3 k x).2 (.inl hx), rfl⟩
                    · obtain ⟨⟨k, x⟩, hx, rfl⟩ := List.mem_map.1 hp
                      refine List.mem_map.2 ⟨_, (g3 k x).2 (.inr ⟨hx, fun q hqf hqk => ?_⟩), rfl⟩
                      exact hq (lit2 q) ((m2 _).2 (List.mem_map.2 ⟨q, hqf, rfl⟩)) ((lit2_key c2 c1 hqf hx).2 hqk)
                  · intro hp
                    obtain ⟨⟨k, x⟩, hx, rfl⟩ := List.mem_map.1 hp
                    rcases (g3 k x).1 hx with hx | ⟨hx, hq⟩
                    · exact .inl (List.mem_map.2 ⟨_, hx, rfl⟩)
                    · refine .inr ⟨List.mem_map.2 ⟨_, hx, rfl⟩, fun q hqL e => ?_⟩
                      obtain ⟨q', hq', rfl⟩ := List.mem_map.1 ((m2 q).1 hqL)
                      exact hq q' hq' ((lit2_key c2 c1 hq' hx).1 e)
                obtain ⟨i1, s1⟩ := map_turns inv ha hμa hha hg hb' hmi
                exact ⟨_, Δ, rfl, i1, .tup [] #[] rfl (fun i x v hx => by simp at hx), s1⟩
              exact k3
        · simp at e
      · simp at e
  · simp at e
end Go.Rg
/-
  slices.Sorted of maps.Keys.
-/
namespace Go.Rg
open Go Go.Pv Go.Proofs.Tryz Go.RowKit Go.Maps Go.Shelf
set_option maxRecDepth 1000000
set_option maxHeartbeats 1000000
theorem adopt_no {Δ : WT} {h : H} {w w' : World} (inv : Inv Δ h w) (hb : Below w.heap.size w w') {g cap n : Nat} {e : TypeId} {cur : Array Value} (hg : w.heap.size ≤ g) (hc : w'.heap[g]? = some (.cells cur e (0, 0))) (hn : n ≤ cap)
    (xs : List (List V)) (hxl : xs.length = n) (hrow : ∀ x ∈ xs, x.length = 1) (hx : ∀ (i : Nat) (x : V), xs[i]? = some [x] → ∃ v, cur[i]? = some v ∧ RD Δ.ι x v) :
    ∃ Δ', Inv Δ' h w' ∧ Step Δ h w Δ' h w' ∧ Rep Δ' (.list 1 xs .no) (.slice (some (at_ g 0)) n cap) := by
  have hι : SubI Δ.ι (Δ.grow g n cur).ι := by
    intro b o v e'
    have := inv.ι_lt e'
    simp only [WT.grow]; rw [if_neg (by omega)]; exact e'
  have ext : Ext Δ (Δ.grow g n cur) := ⟨hι, fun b S e' => by have := inv.σ_lt e'; simp only [WT.grow]; rw [if_neg (by omega)]; exact e', Nat.le_refl _, fun _ _ => Nat.le_refl _, fun _ _ _ => rfl, rfl⟩
  have hcell : ∀ o, w'.cell? (at_ g o) = cur[o]? := fun o => cell?_at hc
  have hk : ∀ b, b < w.heap.size → w'.heap[b]? = w.heap[b]? := fun b hlt => hb.block b hlt
  have hιk : ∀ b o, b < w.heap.size → (Δ.grow g n cur).ι b o = Δ.ι b o := fun b o hlt => by
    simp only [WT.grow]; rw [if_neg (by omega)]
  have i2 : Inv (Δ.grow g n cur) h w' := by
    refine ⟨fun b o v e0 => ?_, fun b S e0 => ?_, inv.N, fun id o ho => ?_, inv.dis⟩
    · have e1 : (if b = g then (if o < n then cur[o]? else none) else Δ.ι b o) = some v := e0
      by_cases hbg : b = g
      · rw [if_pos hbg] at e1
        rw [hbg]
        by_cases hon : o < n
        · rw [if_pos hon] at e1; rw [hcell]; exact e1
        · rw [if_neg hon] at e1; simp at e1
      · rw [if_neg hbg] at e1
        have h0 := inv.ι b o v e1
        rw [cell?_eq (hk b (cell?_lt h0))]; exact h0
    · have e1 : (if b = g then some cur.size else Δ.σ b) = some S := e0
      by_cases hbg : b = g
      · rw [if_pos hbg] at e1
        rw [hbg]
        exact ⟨cur, e, (0, 0), hc, Option.some.inj e1⟩
      · rw [if_neg hbg] at e1
        obtain ⟨arr, e2, fr, hh, hs⟩ := inv.σ b S e1
        exact ⟨arr, e2, fr, (hk b (Array.getElem?_eq_some_iff.1 hh).1).trans hh, hs⟩
    · exact (inv.ob id o ho).keep ext rfl rfl fun b p hl hm => ⟨hk b ((inv.ob id o ho).lt hl hm), fun j => hιk b j ((inv.ob id o ho).lt hl hm)⟩
  refine ⟨_, i2, ⟨ext, hb.os, hb.tape, hb.output, hb.size, fun b hlt _ => hk b hlt, fun _ _ k => k, fun b o hlt _ => hιk b o hlt, fun l r k => ⟨r, (hk l (Array.getElem?_eq_some_iff.1 k).1).trans k⟩⟩, ?_⟩
  have hrows : Pv.Rows (Δ.grow g n cur).ι 1 xs g 0 := by
    refine ⟨hrow, fun i k x y hxi hyk => ?_⟩
    have hx1 := hrow x (List.mem_of_getElem? hxi)
    match x, hx1 with
    | [z], _ =>
      have hk0 : k = 0 := by
        have := (List.getElem?_eq_some_iff.1 hyk).1
        simp at this; exact this
      subst hk0
      simp at hyk
      subst hyk
      obtain ⟨v, hv, hr⟩ := hx i z hxi
      have hi : i < n := by rw [← hxl]; exact (List.getElem?_eq_some_iff.1 hxi).1
      refine ⟨v, ?_, hr.mono hι⟩
      show (Δ.grow g n cur).ι g (0 + i * 1 + 0) = some v
      simp only [WT.grow, if_true]
      rw [if_pos (by omega)]
      simpa using hv
  have hrd := RD.list' (a := some (at_ g 0)) (cap := cap) hrows (fun _ => rfl) (by omega)
  rw [hxl] at hrd
  exact .list 1 xs .no _ hrd trivial
/-! ### Sorting -/
theorem insI_perm (n : Int) : ∀ l : List Int, (insI n l).Perm (n :: l)
  | [] => .refl _
  | a :: r => by
    unfold insI
    split
    · exact .refl _
    · exact ((insI_perm n r).cons a).trans (.swap _ _ _)
theorem sortI_perm : ∀ l : List Int, (sortI l).Perm l
  | [] => .refl _
  | a :: r => (insI_perm a _).trans ((sortI_perm r).cons a)
theorem insI_sorted (n : Int) : ∀ l : List Int, l.Pairwise (fun a b => leI a b = true) → (insI n l).Pairwise (fun a b => leI a b = true)
  | [], _ => by simp [insI]
  | a :: r, h => by
    obtain ⟨h1, h2⟩ := List.pairwise_cons.1 h
    unfold insI
    split
    · rename_i hle
      refine List.pairwise_cons.2 ⟨fun b hb => ?_, h⟩
      rcases List.mem_cons.1 hb with rfl | hb
      · simpa using hle
      · have := h1 b hb
        simp only [leI, decide_eq_true_eq] at this ⊢
        omega
    · rename_i hle
      refine List.pairwise_cons.2 ⟨fun b hb => ?_, insI_sorted n r h2⟩
      rcases List.mem_cons.1 ((insI_perm n r).mem_iff.1 hb) with rfl | hb
      · simp only [leI, decide_eq_true_eq]; omega
      · exact h1 b hb
theorem sortI_sorted : ∀ l : List Int, (sortI l).Pairwise (fun a b => leI a b = true)
  | [] => .nil
  | a :: r => insI_sorted a _ (sortI_sorted r)
theorem sortI_eq {l l' : List Int} (h : l.Perm l') : l.mergeSort leI = sortI l' := by
  have tr : ∀ a b c : Int, leI a b = true → leI b c = true → leI a c = true := fun a b c h1 h2 => by simp only [leI, decide_eq_true_eq] at *; exact Int.le_trans h1 h2
  have to : ∀ a b : Int, (leI a b || leI b a) = true := fun a b => by simp only [leI, Bool.or_eq_true, decide_eq_true_eq]; exact Int.le_total a b
  refine List.Perm.eq_of_pairwise (le := fun a b => leI a b = true) (fun a b _ _ h1 h2 => ?_) (List.pairwise_mergeSort tr to l) (sortI_sorted l') (((List.mergeSort_perm l leI).trans h).trans (sortI_perm l').symm)
  simp only [leI, decide_eq_true_eq] at h1 h2
  exact Int.le_antisymm h1 h2
theorem keysOf_lit : ∀ (es : List (Value × V)) (l : List Int), mapOk es = true → keysOf es = some l → (es.map lit2).map (fun p => intOf p.1) = l
  | [], l, _, h => by simp [keysOf] at h; subst h; rfl
  | (k, x) :: r, l, ho, h => by
    obtain ⟨n, s, rfl, rfl, _⟩ := mapOk_at ho (List.mem_cons_self)
    simp only [keysOf] at h
    obtain ⟨l', h1, rfl⟩ := Option.map_eq_some_iff.1 h
    have ih := keysOf_lit r l' (mapOk_cons.1 ho).2 h1
    simp only [List.map_cons, ih]
    rfl
theorem lit2_nodup {es : List (Value × V)} (ho : mapOk es = true) (hn : (es.map (·.1)).Nodup) : (es.map lit2).Nodup := by
  have h1 : es.Pairwise (fun p q => p.1 ≠ q.1) := List.pairwise_map.1 hn
  refine List.pairwise_map.2 (h1.imp_of_mem fun {p q} hp hq hne e => hne ?_)
  rw [lit2_inj ho ho hp hq e]
theorem sortsT (m : Nat) : Proofs.AnyZI.SortsIn prog Proofs.Tryz.sortedK_ren Fence.wide m :=
  ⟨fun blk off cap ss W hH hblk hsz => callsIn_wide.2 (Proofs.AnyM.slices_Sort_int Proofs.Tryz.sortK blk off cap ss W hH hblk hsz),
   fun p cap W => callsIn_wide.2 (Proofs.AnyM.slices_Sort_int_none Proofs.Tryz.sortK p cap W)⟩
theorem prim_68 (args : List V) (h h' : H) (v : V) (e : sortedP args h = some (v, h')) : CallOk C18 (GD C18) 68 args h v h' := by
  have hfn : FnOk C18.P 68 := ⟨_, func68, rfl, by decide +kernel⟩
  unfold sortedP at e
  split at e
  · rename_i id
    split at e
    · rename_i bt mid hid
      split at e
      · rename_i es hm
        split at e
        · rename_i l hl
          split at e
          · rename_i hc
            obtain ⟨c1, c2⟩ := hc
            simp only [Option.some.injEq, Prod.mk.injEq] at e
            obtain ⟨rfl, rfl⟩ := e
            refine ⟨hfn, fun Δ w vs hG inv gl hr => ?_⟩
            obtain ⟨p, us, hvs, hp, hus⟩ := hr.cons_inv
            have : us = [] := by have := hus.1; cases us <;> simp_all
            subst this
            cases hp with
            | fn _ _ _ u1 u2 hu hv h1 h2 =>
              have hu1 : u1 = #[] := Array.eq_empty_of_size_eq_zero (by simpa using hu)
              subst hu1
              obtain ⟨x0, hx0⟩ : ∃ x, u2.toList = [x] := by
                have : u2.toList.length = 1 := by simpa using hv
                match u2.toList, this with
                | [x], _ => exact ⟨x, rfl⟩
              have hr0 := h2 0 (.ref id 0) x0 rfl (by rw [← Array.getElem?_toList, hx0]; rfl)
              cases hr0 with
              | ref _ _ b hpb =>
                have hu2 : u2 = #[.pointer (some (at_ b 0))] := by apply Array.ext'; rw [hx0]
                subst hu2
                have hvs' : vs = #[.func (.func 102) #[] #[.pointer (some (at_ b 0))]] := by apply Array.ext'; rw [hvs]
                subst hvs'
                obtain ⟨hνb, b', hμb, hBT, hcells, _⟩ := inv.ob id _ hid
                have eb := hpb.2.2 hνb.symm
                rw [hμb] at eb
                simp only [Option.some.injEq, Prod.mk.injEq, and_true] at eb
                subst eb
                obtain ⟨v0, hv0, hr0⟩ := hcells 0 (.mp mid) rfl
                cases hr0 with
                | mp _ mb hpm =>
                  obtain ⟨hνm, mb', arr, clock, hμm, hhm, hmm⟩ := inv.ob mid _ hm
                  have em := hpm.2.2 hνm.symm
                  rw [hμm] at em
                  simp only [Option.some.injEq, Prod.mk.injEq, and_true] at em
                  subst em
                  have hlen : l.length = es.length := by
                    have := congrArg List.length (keysOf_lit es l c1 hl)
                    simpa using this.symm
                  obtain ⟨L, o1, m1, d1, k1⟩ := owns_of hhm hmm c1 (by omega)
                  have hLp : L.Perm (es.map lit2) := (List.perm_ext_iff_of_nodup (d1.imp fun {p q} hne e => hne (by rw [e])) (lit2_nodup c1 hmm.nd)).2 m1
                  have hkeys : (intKeys (DataW.map L)).Perm l := by
                    have := hLp.map (fun p => intOf p.1)
                    rw [keysOf_lit es l c1 hl] at this
                    exact this
                  have hsz : Maps.size (DataW.map L) = l.length := by
                    show L.length = _
                    rw [hLp.length_eq, hlen]; simp
                  have hbl : b' < w.heap.size := cell?_lt hv0
                  have hseq : SeqGives Fence.wide 2 prog 102 #[.pointer (some ⟨b', 0, none⟩)] encZ (fun ss => ss.Perm (intKeys (DataW.map L))) (Maps.size (DataW.map L)) w :=
                    Proofs.AnyZI.keys_gives (ρ := Proofs.Tryz.keysK_ren) { Proofs.Tryz.keysK with } Fence.wide _ trivial rfl (by omega) b' mb' es.length (DataW.map L) w hbl hv0 o1
                  have cS := Proofs.AnyZI.sorted_in Proofs.Tryz.sortedK Fence.wide 5 trivial trivial trivial trivial rfl (by omega) (sortsT _) (Proofs.enters_of func101 (by kernel_rfl) rfl) 102 #[.pointer (some ⟨b', 0, none⟩)] trivial (Proofs.enters_of func102 (by kernel_rfl) rfl) _ _ (by rw [hsz]; unfold maxLen; unfold lim at c2; omega) (by rw [hsz]; unfold lim at c2; omega) _ hseq
                  change CallsIn _ _ prog 68 _ _ _ at cS
                  have k3 : CallsIn Fence.wide 0 prog 68 #[.func (.func 102) #[] #[.pointer (some (at_ b' 0))]] w (CallEnd (.list 1 ((sortI l).map fun n => [.sc (.int .i64 n)]) .no) h Δ h w) := by
                    refine callsIn_wide.2 ((callsIn_wide.1 cS).mono ?_)
                    rintro en w' ⟨v', ss, rfl, hS, hrow, hnil, hb⟩
                    have hsort := sortI_eq (hS.trans hkeys)
                    have hssl : (sortI l).length = ss.length := by rw [← hsort]; simp
                    rcases hrow.2 with ⟨rfl, h0⟩ | ⟨g, cap, cur, rfl, hg, hgc, hnc, _, hcs, htk⟩
                    · have : sortI l = [] := List.eq_nil_of_length_eq_zero (by omega)
                      rw [this]
                      obtain ⟨i1, s1⟩ := below_inv inv hb
                      exact ⟨_, Δ, rfl, i1, .list 1 [] .no _ (RD.list' (xs := []) (Rows.nil _ _ 0 0) (fun k => absurd rfl k) (Nat.zero_le _)) trivial, s1⟩
                    · obtain ⟨Δ', i1, s1, r1⟩ := adopt_no inv hb hg hgc hnc ((sortI l).map fun n => [V.sc (.int .i64 n)]) (by simpa using hssl) (by intro x hx; obtain ⟨n, _, rfl⟩ := List.mem_map.1 hx; rfl) (by
                        intro i x hx
                        rw [List.getElem?_map] at hx
                        obtain ⟨n, hn, hx'⟩ := Option.map_eq_some_iff.1 hx
                        simp only [List.cons.injEq, and_true] at hx'
                        subst hx'
                        have hi : i < ss.length := by rw [← hssl]; exact (List.getElem?_eq_some_iff.1 hn).1
                        refine ⟨.int .i64 n, ?_, .sc _ rfl⟩
                        have hh : (cur.toList.take (ss.length * 1))[i]? = some (.int .i64 n) := by
                          rw [htk]
                          have : ss.mergeSort (fun x y => decide (x ≤ y)) = sortI l := hsort
                          rw [this, List.getElem?_map, hn]; rfl
                        rw [List.getElem?_take, if_pos (by omega)] at hh
                        simpa using hh)
                      exact ⟨_, Δ', rfl, i1, r1, s1⟩
                  exact k3
          · simp at e
        · simp at e
      · simp at e
    · simp at e
  · simp at e
theorem prims : PrimsOk C18 (GD C18) := by
  intro g p args h v h' hp e
  have hp' : primOf g = some p := hp
  unfold primOf at hp'
  split at hp' <;> simp only [Option.some.injEq, reduceCtorEq] at hp' <;> subst hp'
  · exact prim_104 args h h' v e
  · exact prim_66 args h h' v e
  · exact prim_68 args h h' v e
  · exact prim_79 args h h' v e
  · exact prim_108 args h h' v e
  · exact prim_128 args h h' v e
  · exact prim_132 args h h' v e
end Go.Rg
