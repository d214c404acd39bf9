/-
  the program of the seat, as the evaluator sees it.
-/
import Derived.Test.YteckonifhmdemaaGreatDoorProg
import Derived.KernelRfl
import Derived.Test.YteckonifhmdemaaGreatDoorA2
set_option linter.all false
/-
  The types, as the evaluator sees them.
-/
namespace Go.Rg
open Go Go.Pv Go.Proofs.Tryz
set_option maxRecDepth 100000
theorem un2 : prog.underlying 2 = some (TypeDesc.int IntKind.i64) := by kernel_rfl
theorem co2 : prog.cellsOf 2 = 1 := by kernel_rfl
theorem ia2 : isAggT prog 2 = false := by kernel_rfl
theorem ct2 : cellTys prog tyD 2 = [none] := by kernel_rfl
theorem fp2 : fieldPlaces prog 2 = none := by kernel_rfl
theorem eo2 : elOk prog 2 = true := by kernel_rfl
theorem zv2 : zeroV prog 2 = some [V.sc (Value.int IntKind.i64 (0))] := by kernel_rfl
theorem un3 : prog.underlying 3 = some (TypeDesc.int IntKind.i64) := by kernel_rfl
theorem co3 : prog.cellsOf 3 = 1 := by kernel_rfl
theorem ia3 : isAggT prog 3 = false := by kernel_rfl
theorem ct3 : cellTys prog tyD 3 = [none] := by kernel_rfl
theorem fp3 : fieldPlaces prog 3 = none := by kernel_rfl
theorem eo3 : elOk prog 3 = true := by kernel_rfl
theorem zv3 : zeroV prog 3 = some [V.sc (Value.int IntKind.i64 (0))] := by kernel_rfl
theorem un4 : prog.underlying 4 = some TypeDesc.bool := by kernel_rfl
theorem co4 : prog.cellsOf 4 = 1 := by kernel_rfl
theorem ia4 : isAggT prog 4 = false := by kernel_rfl
theorem ct4 : cellTys prog tyD 4 = [none] := by kernel_rfl
theorem fp4 : fieldPlaces prog 4 = none := by kernel_rfl
theorem eo4 : elOk prog 4 = true := by kernel_rfl
theorem zv4 : zeroV prog 4 = some [V.sc (Value.bool false)] := by kernel_rfl
theorem un5 : prog.underlying 5 = some (TypeDesc.int IntKind.u8) := by kernel_rfl
theorem co5 : prog.cellsOf 5 = 1 := by kernel_rfl
theorem ia5 : isAggT prog 5 = false := by kernel_rfl
theorem ct5 : cellTys prog tyD 5 = [none] := by kernel_rfl
theorem fp5 : fieldPlaces prog 5 = none := by kernel_rfl
theorem eo5 : elOk prog 5 = true := by kernel_rfl
theorem zv5 : zeroV prog 5 = some [V.sc (Value.int IntKind.u8 (0))] := by kernel_rfl
theorem un6 : prog.underlying 6 = some (TypeDesc.int IntKind.u8) := by kernel_rfl
theorem co6 : prog.cellsOf 6 = 1 := by kernel_rfl
theorem ia6 : isAggT prog 6 = false := by kernel_rfl
theorem ct6 : cellTys prog tyD 6 = [none] := by kernel_rfl
theorem fp6 : fieldPlaces prog 6 = none := by kernel_rfl
theorem eo6 : elOk prog 6 = true := by kernel_rfl
theorem zv6 : zeroV prog 6 = some [V.sc (Value.int IntKind.u8 (0))] := by kernel_rfl
theorem co7 : prog.cellsOf 7 = 4 := by kernel_rfl
theorem ia7 : isAggT prog 7 = true := by kernel_rfl
theorem ct7 : cellTys prog tyD 7 = [none, none, none, none] := by kernel_rfl
theorem fp7 : fieldPlaces prog 7 = some #[(0, 1), (1, 1), (2, 1), (3, 1)] := by kernel_rfl
theorem eo7 : elOk prog 7 = true := by kernel_rfl
theorem zv7 : zeroV prog 7 = some [V.sc (Value.int IntKind.i64 (0)), V.sc (Value.int IntKind.i64 (0)), V.sc (Value.bool false), V.sc (Value.int IntKind.u8 (0))] := by kernel_rfl
theorem co8 : prog.cellsOf 8 = 4 := by kernel_rfl
theorem ia8 : isAggT prog 8 = true := by kernel_rfl
theorem ct8 : cellTys prog tyD 8 = [none, none, none, none] := by kernel_rfl
theorem fp8 : fieldPlaces prog 8 = some #[(0, 1), (1, 1), (2, 1), (3, 1)] := by kernel_rfl
theorem eo8 : elOk prog 8 = true := by kernel_rfl
theorem zv8 : zeroV prog 8 = some [V.sc (Value.int IntKind.i64 (0)), V.sc (Value.int IntKind.i64 (0)), V.sc (Value.bool false), V.sc (Value.int IntKind.u8 (0))] := by kernel_rfl
theorem un9 : prog.underlying 9 = some TypeDesc.string := by kernel_rfl
theorem co9 : prog.cellsOf 9 = 1 := by kernel_rfl
theorem ia9 : isAggT prog 9 = false := by kernel_rfl
theorem ct9 : cellTys prog tyD 9 = [none] := by kernel_rfl
theorem fp9 : fieldPlaces prog 9 = none := by kernel_rfl
theorem eo9 : elOk prog 9 = true := by kernel_rfl
theorem zv9 : zeroV prog 9 = some [V.sc (Value.string ⟨#[]⟩)] := by kernel_rfl
theorem un10 : prog.underlying 10 = some TypeDesc.string := by kernel_rfl
theorem co10 : prog.cellsOf 10 = 1 := by kernel_rfl
theorem ia10 : isAggT prog 10 = false := by kernel_rfl
theorem ct10 : cellTys prog tyD 10 = [none] := by kernel_rfl
theorem fp10 : fieldPlaces prog 10 = none := by kernel_rfl
theorem eo10 : elOk prog 10 = true := by kernel_rfl
theorem zv10 : zeroV prog 10 = some [V.sc (Value.string ⟨#[]⟩)] := by kernel_rfl
theorem un11 : prog.underlying 11 = some TypeDesc.string := by kernel_rfl
theorem co11 : prog.cellsOf 11 = 1 := by kernel_rfl
theorem ia11 : isAggT prog 11 = false := by kernel_rfl
theorem ct11 : cellTys prog tyD 11 = [none] := by kernel_rfl
theorem fp11 : fieldPlaces prog 11 = none := by kernel_rfl
theorem eo11 : elOk prog 11 = true := by kernel_rfl
theorem zv11 : zeroV prog 11 = some [V.sc (Value.string ⟨#[]⟩)] := by kernel_rfl
theorem un12 : prog.underlying 12 = some (TypeDesc.int IntKind.u64) := by kernel_rfl
theorem co12 : prog.cellsOf 12 = 1 := by kernel_rfl
theorem ia12 : isAggT prog 12 = false := by kernel_rfl
theorem ct12 : cellTys prog tyD 12 = [none] := by kernel_rfl
theorem fp12 : fieldPlaces prog 12 = none := by kernel_rfl
theorem eo12 : elOk prog 12 = true := by kernel_rfl
theorem zv12 : zeroV prog 12 = some [V.sc (Value.int IntKind.u64 (0))] := by kernel_rfl
theorem co13 : prog.cellsOf 13 = 2 := by kernel_rfl
theorem ia13 : isAggT prog 13 = true := by kernel_rfl
theorem ct13 : cellTys prog tyD 13 = [none, none] := by kernel_rfl
theorem fp13 : fieldPlaces prog 13 = some #[(0, 1), (1, 1)] := by kernel_rfl
theorem eo13 : elOk prog 13 = true := by kernel_rfl
theorem zv13 : zeroV prog 13 = some [V.sc (Value.string ⟨#[]⟩), V.sc (Value.int IntKind.u64 (0))] := by kernel_rfl
theorem co14 : prog.cellsOf 14 = 2 := by kernel_rfl
theorem ia14 : isAggT prog 14 = true := by kernel_rfl
theorem ct14 : cellTys prog tyD 14 = [none, none] := by kernel_rfl
theorem fp14 : fieldPlaces prog 14 = some #[(0, 1), (1, 1)] := by kernel_rfl
theorem eo14 : elOk prog 14 = true := by kernel_rfl
theorem zv14 : zeroV prog 14 = some [V.sc (Value.string ⟨#[]⟩), V.sc (Value.int IntKind.u64 (0))] := by kernel_rfl
theorem un15 : prog.underlying 15 = some (TypeDesc.pointer 208) := by kernel_rfl
theorem co15 : prog.cellsOf 15 = 1 := by kernel_rfl
theorem ia15 : isAggT prog 15 = false := by kernel_rfl
theorem ct15 : cellTys prog tyD 15 = [none] := by kernel_rfl
theorem fp15 : fieldPlaces prog 15 = none := by kernel_rfl
theorem eo15 : elOk prog 15 = true := by kernel_rfl
theorem zv15 : zeroV prog 15 = some [V.sc (Value.pointer none)] := by kernel_rfl
theorem un16 : prog.underlying 16 = some (TypeDesc.pointer 211) := by kernel_rfl
theorem co16 : prog.cellsOf 16 = 1 := by kernel_rfl
theorem ia16 : isAggT prog 16 = false := by kernel_rfl
theorem ct16 : cellTys prog tyD 16 = [none] := by kernel_rfl
theorem fp16 : fieldPlaces prog 16 = none := by kernel_rfl
theorem eo16 : elOk prog 16 = true := by kernel_rfl
theorem zv16 : zeroV prog 16 = some [V.sc (Value.pointer none)] := by kernel_rfl
theorem un17 : prog.underlying 17 = some (TypeDesc.pointer 219) := by kernel_rfl
theorem co17 : prog.cellsOf 17 = 1 := by kernel_rfl
theorem ia17 : isAggT prog 17 = false := by kernel_rfl
theorem ct17 : cellTys prog tyD 17 = [none] := by kernel_rfl
theorem fp17 : fieldPlaces prog 17 = none := by kernel_rfl
theorem eo17 : elOk prog 17 = true := by kernel_rfl
theorem zv17 : zeroV prog 17 = some [V.sc (Value.pointer none)] := by kernel_rfl
theorem co18 : prog.cellsOf 18 = 1 := by kernel_rfl
theorem ia18 : isAggT prog 18 = true := by kernel_rfl
theorem ct18 : cellTys prog tyD 18 = [none] := by kernel_rfl
theorem fp18 : fieldPlaces prog 18 = some #[(0, 1)] := by kernel_rfl
theorem eo18 : elOk prog 18 = true := by kernel_rfl
theorem zv18 : zeroV prog 18 = some [V.sc (Value.pointer none)] := by kernel_rfl
theorem co19 : prog.cellsOf 19 = 1 := by kernel_rfl
theorem ia19 : isAggT prog 19 = true := by kernel_rfl
theorem ct19 : cellTys prog tyD 19 = [none] := by kernel_rfl
theorem fp19 : fieldPlaces prog 19 = some #[(0, 1)] := by kernel_rfl
theorem eo19 : elOk prog 19 = true := by kernel_rfl
theorem zv19 : zeroV prog 19 = some [V.sc (Value.pointer none)] := by kernel_rfl
theorem un21 : prog.underlying 21 = some (TypeDesc.int IntKind.i32) := by kernel_rfl
theorem co21 : prog.cellsOf 21 = 1 := by kernel_rfl
theorem ia21 : isAggT prog 21 = false := by kernel_rfl
theorem ct21 : cellTys prog tyD 21 = [none] := by kernel_rfl
theorem fp21 : fieldPlaces prog 21 = none := by kernel_rfl
theorem eo21 : elOk prog 21 = true := by kernel_rfl
theorem zv21 : zeroV prog 21 = some [V.sc (Value.int IntKind.i32 (0))] := by kernel_rfl
theorem un22 : prog.underlying 22 = some (TypeDesc.slice 3) := by kernel_rfl
theorem co22 : prog.cellsOf 22 = 1 := by kernel_rfl
theorem ia22 : isAggT prog 22 = false := by kernel_rfl
theorem ct22 : cellTys prog tyD 22 = [some 1] := by kernel_rfl
theorem fp22 : fieldPlaces prog 22 = none := by kernel_rfl
theorem eo22 : elOk prog 22 = true := by kernel_rfl
theorem zv22 : zeroV prog 22 = some [V.sc (Value.slice none 0 0)] := by kernel_rfl
theorem un24 : prog.underlying 24 = some (TypeDesc.slice 9) := by kernel_rfl
theorem co24 : prog.cellsOf 24 = 1 := by kernel_rfl
theorem ia24 : isAggT prog 24 = false := by kernel_rfl
theorem ct24 : cellTys prog tyD 24 = [some 1] := by kernel_rfl
theorem fp24 : fieldPlaces prog 24 = none := by kernel_rfl
theorem eo24 : elOk prog 24 = true := by kernel_rfl
theorem zv24 : zeroV prog 24 = some [V.sc (Value.slice none 0 0)] := by kernel_rfl
theorem co25 : prog.cellsOf 25 = 2 := by kernel_rfl
theorem ia25 : isAggT prog 25 = true := by kernel_rfl
theorem ct25 : cellTys prog tyD 25 = [none, some 1] := by kernel_rfl
theorem fp25 : fieldPlaces prog 25 = some #[(0, 1), (1, 1)] := by kernel_rfl
theorem eo25 : elOk prog 25 = true := by kernel_rfl
theorem zv25 : zeroV prog 25 = some [V.sc (Value.int IntKind.i64 (0)), V.sc (Value.slice none 0 0)] := by kernel_rfl
theorem co26 : prog.cellsOf 26 = 2 := by kernel_rfl
theorem ia26 : isAggT prog 26 = true := by kernel_rfl
theorem ct26 : cellTys prog tyD 26 = [none, some 1] := by kernel_rfl
theorem fp26 : fieldPlaces prog 26 = some #[(0, 1), (1, 1)] := by kernel_rfl
theorem eo26 : elOk prog 26 = true := by kernel_rfl
theorem zv26 : zeroV prog 26 = some [V.sc (Value.int IntKind.i64 (0)), V.sc (Value.slice none 0 0)] := by kernel_rfl
theorem un30 : prog.underlying 30 = some (TypeDesc.slice 38) := by kernel_rfl
theorem co30 : prog.cellsOf 30 = 1 := by kernel_rfl
theorem ia30 : isAggT prog 30 = false := by kernel_rfl
theorem ct30 : cellTys prog tyD 30 = [some 5] := by kernel_rfl
theorem fp30 : fieldPlaces prog 30 = none := by kernel_rfl
theorem eo30 : elOk prog 30 = true := by kernel_rfl
theorem zv30 : zeroV prog 30 = some [V.sc (Value.slice none 0 0)] := by kernel_rfl
theorem un33 : prog.underlying 33 = some (TypeDesc.slice 22) := by kernel_rfl
theorem co33 : prog.cellsOf 33 = 1 := by kernel_rfl
theorem ia33 : isAggT prog 33 = false := by kernel_rfl
theorem ct33 : cellTys prog tyD 33 = [some 1] := by kernel_rfl
theorem fp33 : fieldPlaces prog 33 = none := by kernel_rfl
theorem eo33 : elOk prog 33 = true := by kernel_rfl
theorem zv33 : zeroV prog 33 = some [V.sc (Value.slice none 0 0)] := by kernel_rfl
theorem co34 : prog.cellsOf 34 = 4 := by kernel_rfl
theorem ia34 : isAggT prog 34 = true := by kernel_rfl
theorem ct34 : cellTys prog tyD 34 = [none, none, none, none] := by kernel_rfl
theorem fp34 : fieldPlaces prog 34 = some #[(0, 1), (1, 1), (2, 1), (3, 1)] := by kernel_rfl
theorem eo34 : elOk prog 34 = true := by kernel_rfl
theorem zv34 : zeroV prog 34 = some [V.sc (Value.int IntKind.i64 (0)), V.sc (Value.int IntKind.i64 (0)), V.sc (Value.string ⟨#[]⟩), V.sc (Value.string ⟨#[]⟩)] := by kernel_rfl
theorem co35 : prog.cellsOf 35 = 4 := by kernel_rfl
theorem ia35 : isAggT prog 35 = true := by kernel_rfl
theorem ct35 : cellTys prog tyD 35 = [none, none, none, none] := by kernel_rfl
theorem fp35 : fieldPlaces prog 35 = some #[(0, 1), (1, 1), (2, 1), (3, 1)] := by kernel_rfl
theorem eo35 : elOk prog 35 = true := by kernel_rfl
theorem zv35 : zeroV prog 35 = some [V.sc (Value.int IntKind.i64 (0)), V.sc (Value.int IntKind.i64 (0)), V.sc (Value.string ⟨#[]⟩), V.sc (Value.string ⟨#[]⟩)] := by kernel_rfl
theorem un36 : prog.underlying 36 = some (TypeDesc.slice 53) := by kernel_rfl
theorem co36 : prog.cellsOf 36 = 1 := by kernel_rfl
theorem ia36 : isAggT prog 36 = false := by kernel_rfl
theorem ct36 : cellTys prog tyD 36 = [some 3] := by kernel_rfl
theorem fp36 : fieldPlaces prog 36 = none := by kernel_rfl
theorem eo36 : elOk prog 36 = true := by kernel_rfl
theorem zv36 : zeroV prog 36 = some [V.sc (Value.slice none 0 0)] := by kernel_rfl
theorem co37 : prog.cellsOf 37 = 5 := by kernel_rfl
theorem ia37 : isAggT prog 37 = true := by kernel_rfl
theorem ct37 : cellTys prog tyD 37 = [none, none, none, none, some 3] := by kernel_rfl
theorem fp37 : fieldPlaces prog 37 = some #[(0, 4), (4, 1)] := by kernel_rfl
theorem eo37 : elOk prog 37 = true := by kernel_rfl
theorem zv37 : zeroV prog 37 = some [V.sc (Value.int IntKind.i64 (0)), V.sc (Value.int IntKind.i64 (0)), V.sc (Value.string ⟨#[]⟩), V.sc (Value.string ⟨#[]⟩), V.sc (Value.slice none 0 0)] := by kernel_rfl
theorem co38 : prog.cellsOf 38 = 5 := by kernel_rfl
theorem ia38 : isAggT prog 38 = true := by kernel_rfl
theorem ct38 : cellTys prog tyD 38 = [none, none, none, none, some 3] := by kernel_rfl
theorem fp38 : fieldPlaces prog 38 = some #[(0, 4), (4, 1)] := by kernel_rfl
theorem eo38 : elOk prog 38 = true := by kernel_rfl
theorem zv38 : zeroV prog 38 = some [V.sc (Value.int IntKind.i64 (0)), V.sc (Value.int IntKind.i64 (0)), V.sc (Value.string ⟨#[]⟩), V.sc (Value.string ⟨#[]⟩), V.sc (Value.slice none 0 0)] := by kernel_rfl
theorem un39 : prog.underlying 39 = some (TypeDesc.int IntKind.i64) := by kernel_rfl
theorem co39 : prog.cellsOf 39 = 1 := by kernel_rfl
theorem ia39 : isAggT prog 39 = false := by kernel_rfl
theorem ct39 : cellTys prog tyD 39 = [none] := by kernel_rfl
theorem fp39 : fieldPlaces prog 39 = none := by kernel_rfl
theorem eo39 : elOk prog 39 = true := by kernel_rfl
theorem zv39 : zeroV prog 39 = some [V.sc (Value.int IntKind.i64 (0))] := by kernel_rfl
theorem un43 : prog.underlying 43 = some (TypeDesc.slice 30) := by kernel_rfl
theorem co43 : prog.cellsOf 43 = 1 := by kernel_rfl
theorem ia43 : isAggT prog 43 = false := by kernel_rfl
theorem ct43 : cellTys prog tyD 43 = [some 1] := by kernel_rfl
theorem fp43 : fieldPlaces prog 43 = none := by kernel_rfl
theorem eo43 : elOk prog 43 = true := by kernel_rfl
theorem zv43 : zeroV prog 43 = some [V.sc (Value.slice none 0 0)] := by kernel_rfl
theorem co52 : prog.cellsOf 52 = 3 := by kernel_rfl
theorem ia52 : isAggT prog 52 = true := by kernel_rfl
theorem ct52 : cellTys prog tyD 52 = [none, none, some 1] := by kernel_rfl
theorem fp52 : fieldPlaces prog 52 = some #[(0, 1), (1, 1), (2, 1)] := by kernel_rfl
theorem eo52 : elOk prog 52 = true := by kernel_rfl
theorem zv52 : zeroV prog 52 = some [V.sc (Value.int IntKind.i64 (0)), V.sc (Value.string ⟨#[]⟩), V.sc (Value.slice none 0 0)] := by kernel_rfl
theorem co53 : prog.cellsOf 53 = 3 := by kernel_rfl
theorem ia53 : isAggT prog 53 = true := by kernel_rfl
theorem ct53 : cellTys prog tyD 53 = [none, none, some 1] := by kernel_rfl
theorem fp53 : fieldPlaces prog 53 = some #[(0, 1), (1, 1), (2, 1)] := by kernel_rfl
theorem eo53 : elOk prog 53 = true := by kernel_rfl
theorem zv53 : zeroV prog 53 = some [V.sc (Value.int IntKind.i64 (0)), V.sc (Value.string ⟨#[]⟩), V.sc (Value.slice none 0 0)] := by kernel_rfl
theorem un65 : prog.underlying 65 = some (TypeDesc.slice 24) := by kernel_rfl
theorem co65 : prog.cellsOf 65 = 1 := by kernel_rfl
theorem ia65 : isAggT prog 65 = false := by kernel_rfl
theorem ct65 : cellTys prog tyD 65 = [some 1] := by kernel_rfl
theorem fp65 : fieldPlaces prog 65 = none := by kernel_rfl
theorem eo65 : elOk prog 65 = true := by kernel_rfl
theorem zv65 : zeroV prog 65 = some [V.sc (Value.slice none 0 0)] := by kernel_rfl
theorem un68 : prog.underlying 68 = some (TypeDesc.array 2 3) := by kernel_rfl
theorem co68 : prog.cellsOf 68 = 2 := by kernel_rfl
theorem ia68 : isAggT prog 68 = true := by kernel_rfl
theorem ct68 : cellTys prog tyD 68 = [none, none] := by kernel_rfl
theorem fp68 : fieldPlaces prog 68 = none := by kernel_rfl
theorem eo68 : elOk prog 68 = true := by kernel_rfl
theorem zv68 : zeroV prog 68 = some [V.sc (Value.int IntKind.i64 (0)), V.sc (Value.int IntKind.i64 (0))] := by kernel_rfl
theorem un75 : prog.underlying 75 = some (TypeDesc.array 12 4) := by kernel_rfl
theorem co75 : prog.cellsOf 75 = 12 := by kernel_rfl
theorem ia75 : isAggT prog 75 = true := by kernel_rfl
theorem ct75 : cellTys prog tyD 75 = [none, none, none, none, none, none, none, none, none, none, none, none] := by kernel_rfl
theorem fp75 : fieldPlaces prog 75 = none := by kernel_rfl
theorem eo75 : elOk prog 75 = true := by kernel_rfl
theorem zv75 : zeroV prog 75 = some [V.sc (Value.bool false), V.sc (Value.bool false), V.sc (Value.bool false), V.sc (Value.bool false), V.sc (Value.bool false), V.sc (Value.bool false), V.sc (Value.bool false), V.sc (Value.bool false), V.sc (Value.bool false), V.sc (Value.bool false), V.sc (Value.bool false), V.sc (Value.bool false)] := by kernel_rfl
theorem un78 : prog.underlying 78 = some (TypeDesc.slice 26) := by kernel_rfl
theorem co78 : prog.cellsOf 78 = 1 := by kernel_rfl
theorem ia78 : isAggT prog 78 = false := by kernel_rfl
theorem ct78 : cellTys prog tyD 78 = [some 2] := by kernel_rfl
theorem fp78 : fieldPlaces prog 78 = none := by kernel_rfl
theorem eo78 : elOk prog 78 = true := by kernel_rfl
theorem zv78 : zeroV prog 78 = some [V.sc (Value.slice none 0 0)] := by kernel_rfl
theorem un79 : prog.underlying 79 = some (TypeDesc.slice 35) := by kernel_rfl
theorem co79 : prog.cellsOf 79 = 1 := by kernel_rfl
theorem ia79 : isAggT prog 79 = false := by kernel_rfl
theorem ct79 : cellTys prog tyD 79 = [some 4] := by kernel_rfl
theorem fp79 : fieldPlaces prog 79 = none := by kernel_rfl
theorem eo79 : elOk prog 79 = true := by kernel_rfl
theorem zv79 : zeroV prog 79 = some [V.sc (Value.slice none 0 0)] := by kernel_rfl
theorem un84 : prog.underlying 84 = some (TypeDesc.slice 68) := by kernel_rfl
theorem co84 : prog.cellsOf 84 = 1 := by kernel_rfl
theorem ia84 : isAggT prog 84 = false := by kernel_rfl
theorem ct84 : cellTys prog tyD 84 = [some 2] := by kernel_rfl
theorem fp84 : fieldPlaces prog 84 = none := by kernel_rfl
theorem eo84 : elOk prog 84 = true := by kernel_rfl
theorem zv84 : zeroV prog 84 = some [V.sc (Value.slice none 0 0)] := by kernel_rfl
theorem un88 : prog.underlying 88 = some (TypeDesc.slice 5) := by kernel_rfl
theorem co88 : prog.cellsOf 88 = 1 := by kernel_rfl
theorem ia88 : isAggT prog 88 = false := by kernel_rfl
theorem ct88 : cellTys prog tyD 88 = [some 1] := by kernel_rfl
theorem fp88 : fieldPlaces prog 88 = none := by kernel_rfl
theorem eo88 : elOk prog 88 = true := by kernel_rfl
theorem zv88 : zeroV prog 88 = some [V.sc (Value.slice none 0 0)] := by kernel_rfl
theorem un98 : prog.underlying 98 = some (TypeDesc.map 3 9) := by kernel_rfl
theorem co98 : prog.cellsOf 98 = 1 := by kernel_rfl
theorem ia98 : isAggT prog 98 = false := by kernel_rfl
theorem ct98 : cellTys prog tyD 98 = [none] := by kernel_rfl
theorem fp98 : fieldPlaces prog 98 = none := by kernel_rfl
theorem eo98 : elOk prog 98 = true := by kernel_rfl
theorem zv98 : zeroV prog 98 = some [V.sc (Value.map none)] := by kernel_rfl
theorem un114 : prog.underlying 114 = some (TypeDesc.int IntKind.u32) := by kernel_rfl
theorem co114 : prog.cellsOf 114 = 1 := by kernel_rfl
theorem ia114 : isAggT prog 114 = false := by kernel_rfl
theorem ct114 : cellTys prog tyD 114 = [none] := by kernel_rfl
theorem fp114 : fieldPlaces prog 114 = none := by kernel_rfl
theorem eo114 : elOk prog 114 = true := by kernel_rfl
theorem zv114 : zeroV prog 114 = some [V.sc (Value.int IntKind.u32 (0))] := by kernel_rfl
theorem un115 : prog.underlying 115 = some (TypeDesc.slice 114) := by kernel_rfl
theorem co115 : prog.cellsOf 115 = 1 := by kernel_rfl
theorem ia115 : isAggT prog 115 = false := by kernel_rfl
theorem ct115 : cellTys prog tyD 115 = [some 1] := by kernel_rfl
theorem fp115 : fieldPlaces prog 115 = none := by kernel_rfl
theorem eo115 : elOk prog 115 = true := by kernel_rfl
theorem zv115 : zeroV prog 115 = some [V.sc (Value.slice none 0 0)] := by kernel_rfl
theorem un118 : prog.underlying 118 = some (TypeDesc.int IntKind.u64) := by kernel_rfl
theorem co118 : prog.cellsOf 118 = 1 := by kernel_rfl
theorem ia118 : isAggT prog 118 = false := by kernel_rfl
theorem ct118 : cellTys prog tyD 118 = [none] := by kernel_rfl
theorem fp118 : fieldPlaces prog 118 = none := by kernel_rfl
theorem eo118 : elOk prog 118 = true := by kernel_rfl
theorem zv118 : zeroV prog 118 = some [V.sc (Value.int IntKind.u64 (0))] := by kernel_rfl
theorem un123 : prog.underlying 123 = some (TypeDesc.slice 127) := by kernel_rfl
theorem co123 : prog.cellsOf 123 = 1 := by kernel_rfl
theorem ia123 : isAggT prog 123 = false := by kernel_rfl
theorem ct123 : cellTys prog tyD 123 = [some 2] := by kernel_rfl
theorem fp123 : fieldPlaces prog 123 = none := by kernel_rfl
theorem eo123 : elOk prog 123 = true := by kernel_rfl
theorem zv123 : zeroV prog 123 = some [V.sc (Value.slice none 0 0)] := by kernel_rfl
theorem co126 : prog.cellsOf 126 = 2 := by kernel_rfl
theorem ia126 : isAggT prog 126 = true := by kernel_rfl
theorem ct126 : cellTys prog tyD 126 = [none, none] := by kernel_rfl
theorem fp126 : fieldPlaces prog 126 = some #[(0, 1), (1, 1)] := by kernel_rfl
theorem eo126 : elOk prog 126 = true := by kernel_rfl
theorem zv126 : zeroV prog 126 = some [V.sc (Value.string ⟨#[]⟩), V.sc (Value.bool false)] := by kernel_rfl
theorem co127 : prog.cellsOf 127 = 2 := by kernel_rfl
theorem ia127 : isAggT prog 127 = true := by kernel_rfl
theorem ct127 : cellTys prog tyD 127 = [none, none] := by kernel_rfl
theorem fp127 : fieldPlaces prog 127 = some #[(0, 1), (1, 1)] := by kernel_rfl
theorem eo127 : elOk prog 127 = true := by kernel_rfl
theorem zv127 : zeroV prog 127 = some [V.sc (Value.string ⟨#[]⟩), V.sc (Value.bool false)] := by kernel_rfl
theorem un139 : prog.underlying 139 = some (TypeDesc.pointer 141) := by kernel_rfl
theorem co139 : prog.cellsOf 139 = 1 := by kernel_rfl
theorem ia139 : isAggT prog 139 = false := by kernel_rfl
theorem ct139 : cellTys prog tyD 139 = [none] := by kernel_rfl
theorem fp139 : fieldPlaces prog 139 = none := by kernel_rfl
theorem eo139 : elOk prog 139 = true := by kernel_rfl
theorem zv139 : zeroV prog 139 = some [V.sc (Value.pointer none)] := by kernel_rfl
theorem co140 : prog.cellsOf 140 = 2 := by kernel_rfl
theorem ia140 : isAggT prog 140 = true := by kernel_rfl
theorem ct140 : cellTys prog tyD 140 = [none, some 1] := by kernel_rfl
theorem fp140 : fieldPlaces prog 140 = some #[(0, 1), (1, 1)] := by kernel_rfl
theorem eo140 : elOk prog 140 = true := by kernel_rfl
theorem zv140 : zeroV prog 140 = some [V.sc (Value.pointer none), V.sc (Value.slice none 0 0)] := by kernel_rfl
theorem co141 : prog.cellsOf 141 = 2 := by kernel_rfl
theorem ia141 : isAggT prog 141 = true := by kernel_rfl
theorem ct141 : cellTys prog tyD 141 = [none, some 1] := by kernel_rfl
theorem fp141 : fieldPlaces prog 141 = some #[(0, 1), (1, 1)] := by kernel_rfl
theorem eo141 : elOk prog 141 = true := by kernel_rfl
theorem zv141 : zeroV prog 141 = some [V.sc (Value.pointer none), V.sc (Value.slice none 0 0)] := by kernel_rfl
theorem co142 : prog.cellsOf 142 = 2 := by kernel_rfl
theorem ia142 : isAggT prog 142 = true := by kernel_rfl
theorem ct142 : cellTys prog tyD 142 = [none, some 1] := by kernel_rfl
theorem fp142 : fieldPlaces prog 142 = some #[(0, 2)] := by kernel_rfl
theorem eo142 : elOk prog 142 = true := by kernel_rfl
theorem zv142 : zeroV prog 142 = some [V.sc (Value.pointer none), V.sc (Value.slice none 0 0)] := by kernel_rfl
theorem co143 : prog.cellsOf 143 = 2 := by kernel_rfl
theorem ia143 : isAggT prog 143 = true := by kernel_rfl
theorem ct143 : cellTys prog tyD 143 = [none, some 1] := by kernel_rfl
theorem fp143 : fieldPlaces prog 143 = some #[(0, 2)] := by kernel_rfl
theorem eo143 : elOk prog 143 = true := by kernel_rfl
theorem zv143 : zeroV prog 143 = some [V.sc (Value.pointer none), V.sc (Value.slice none 0 0)] := by kernel_rfl
theorem un150 : prog.underlying 150 = some (TypeDesc.int IntKind.u64) := by kernel_rfl
theorem co150 : prog.cellsOf 150 = 1 := by kernel_rfl
theorem ia150 : isAggT prog 150 = false := by kernel_rfl
theorem ct150 : cellTys prog tyD 150 = [none] := by kernel_rfl
theorem fp150 : fieldPlaces prog 150 = none := by kernel_rfl
theorem eo150 : elOk prog 150 = true := by kernel_rfl
theorem zv150 : zeroV prog 150 = some [V.sc (Value.int IntKind.u64 (0))] := by kernel_rfl
theorem un165 : prog.underlying 165 = some (TypeDesc.array 8 114) := by kernel_rfl
theorem co165 : prog.cellsOf 165 = 8 := by kernel_rfl
theorem ia165 : isAggT prog 165 = true := by kernel_rfl
theorem ct165 : cellTys prog tyD 165 = [none, none, none, none, none, none, none, none] := by kernel_rfl
theorem fp165 : fieldPlaces prog 165 = none := by kernel_rfl
theorem eo165 : elOk prog 165 = true := by kernel_rfl
theorem zv165 : zeroV prog 165 = some [V.sc (Value.int IntKind.u32 (0)), V.sc (Value.int IntKind.u32 (0)), V.sc (Value.int IntKind.u32 (0)), V.sc (Value.int IntKind.u32 (0)), V.sc (Value.int IntKind.u32 (0)), V.sc (Value.int IntKind.u32 (0)), V.sc (Value.int IntKind.u32 (0)), V.sc (Value.int IntKind.u32 (0))] := by kernel_rfl
theorem un166 : prog.underlying 166 = some (TypeDesc.array 8 114) := by kernel_rfl
theorem co166 : prog.cellsOf 166 = 8 := by kernel_rfl
theorem ia166 : isAggT prog 166 = true := by kernel_rfl
theorem ct166 : cellTys prog tyD 166 = [none, none, none, none, none, none, none, none] := by kernel_rfl
theorem fp166 : fieldPlaces prog 166 = none := by kernel_rfl
theorem eo166 : elOk prog 166 = true := by kernel_rfl
theorem zv166 : zeroV prog 166 = some [V.sc (Value.int IntKind.u32 (0)), V.sc (Value.int IntKind.u32 (0)), V.sc (Value.int IntKind.u32 (0)), V.sc (Value.int IntKind.u32 (0)), V.sc (Value.int IntKind.u32 (0)), V.sc (Value.int IntKind.u32 (0)), V.sc (Value.int IntKind.u32 (0)), V.sc (Value.int IntKind.u32 (0))] := by kernel_rfl
theorem un172 : prog.underlying 172 = some (TypeDesc.pointer 143) := by kernel_rfl
theorem co172 : prog.cellsOf 172 = 1 := by kernel_rfl
theorem ia172 : isAggT prog 172 = false := by kernel_rfl
theorem ct172 : cellTys prog tyD 172 = [none] := by kernel_rfl
theorem fp172 : fieldPlaces prog 172 = none := by kernel_rfl
theorem eo172 : elOk prog 172 = true := by kernel_rfl
theorem zv172 : zeroV prog 172 = some [V.sc (Value.pointer none)] := by kernel_rfl
theorem un173 : prog.underlying 173 = some (TypeDesc.pointer 5) := by kernel_rfl
theorem co173 : prog.cellsOf 173 = 1 := by kernel_rfl
theorem ia173 : isAggT prog 173 = false := by kernel_rfl
theorem ct173 : cellTys prog tyD 173 = [none] := by kernel_rfl
theorem fp173 : fieldPlaces prog 173 = none := by kernel_rfl
theorem eo173 : elOk prog 173 = true := by kernel_rfl
theorem zv173 : zeroV prog 173 = some [V.sc (Value.pointer none)] := by kernel_rfl
theorem un178 : prog.underlying 178 = some (TypeDesc.int IntKind.i64) := by kernel_rfl
theorem co178 : prog.cellsOf 178 = 1 := by kernel_rfl
theorem ia178 : isAggT prog 178 = false := by kernel_rfl
theorem ct178 : cellTys prog tyD 178 = [none] := by kernel_rfl
theorem fp178 : fieldPlaces prog 178 = none := by kernel_rfl
theorem eo178 : elOk prog 178 = true := by kernel_rfl
theorem zv178 : zeroV prog 178 = some [V.sc (Value.int IntKind.i64 (0))] := by kernel_rfl
theorem un186 : prog.underlying 186 = some (TypeDesc.pointer 166) := by kernel_rfl
theorem co186 : prog.cellsOf 186 = 1 := by kernel_rfl
theorem ia186 : isAggT prog 186 = false := by kernel_rfl
theorem ct186 : cellTys prog tyD 186 = [none] := by kernel_rfl
theorem fp186 : fieldPlaces prog 186 = none := by kernel_rfl
theorem eo186 : elOk prog 186 = true := by kernel_rfl
theorem zv186 : zeroV prog 186 = some [V.sc (Value.pointer none)] := by kernel_rfl
theorem un187 : prog.underlying 187 = some (TypeDesc.array 64 114) := by kernel_rfl
theorem co187 : prog.cellsOf 187 = 64 := by kernel_rfl
theorem ia187 : isAggT prog 187 = true := by kernel_rfl
theorem fp187 : fieldPlaces prog 187 = none := by kernel_rfl
theorem eo187 : elOk prog 187 = true := by kernel_rfl
theorem un190 : prog.underlying 190 = some (TypeDesc.array 32 5) := by kernel_rfl
theorem co190 : prog.cellsOf 190 = 32 := by kernel_rfl
theorem ia190 : isAggT prog 190 = true := by kernel_rfl
theorem ct190 : cellTys prog tyD 190 = [none, none, none, none, none, none, none, none, none, none, none, none, none, none, none, none, none, none, none, none, none, none, none, none, none, none, none, none, none, none, none, none] := by kernel_rfl
theorem fp190 : fieldPlaces prog 190 = none := by kernel_rfl
theorem eo190 : elOk prog 190 = true := by kernel_rfl
theorem un194 : prog.underlying 194 = some TypeDesc.unsafePointer := by kernel_rfl
theorem co194 : prog.cellsOf 194 = 1 := by kernel_rfl
theorem ia194 : isAggT prog 194 = false := by kernel_rfl
theorem ct194 : cellTys prog tyD 194 = [none] := by kernel_rfl
theorem fp194 : fieldPlaces prog 194 = none := by kernel_rfl
theorem eo194 : elOk prog 194 = true := by kernel_rfl
theorem zv194 : zeroV prog 194 = some [V.sc (Value.pointer none)] := by kernel_rfl
theorem un196 : prog.underlying 196 = some (TypeDesc.int IntKind.u64) := by kernel_rfl
theorem co196 : prog.cellsOf 196 = 1 := by kernel_rfl
theorem ia196 : isAggT prog 196 = false := by kernel_rfl
theorem ct196 : cellTys prog tyD 196 = [none] := by kernel_rfl
theorem fp196 : fieldPlaces prog 196 = none := by kernel_rfl
theorem eo196 : elOk prog 196 = true := by kernel_rfl
theorem zv196 : zeroV prog 196 = some [V.sc (Value.int IntKind.u64 (0))] := by kernel_rfl
theorem un200 : prog.underlying 200 = some (TypeDesc.pointer 3) := by kernel_rfl
theorem co200 : prog.cellsOf 200 = 1 := by kernel_rfl
theorem ia200 : isAggT prog 200 = false := by kernel_rfl
theorem ct200 : cellTys prog tyD 200 = [none] := by kernel_rfl
theorem fp200 : fieldPlaces prog 200 = none := by kernel_rfl
theorem eo200 : elOk prog 200 = true := by kernel_rfl
theorem zv200 : zeroV prog 200 = some [V.sc (Value.pointer none)] := by kernel_rfl
theorem un203 : prog.underlying 203 = some (TypeDesc.pointer 196) := by kernel_rfl
theorem co203 : prog.cellsOf 203 = 1 := by kernel_rfl
theorem ia203 : isAggT prog 203 = false := by kernel_rfl
theorem ct203 : cellTys prog tyD 203 = [none] := by kernel_rfl
theorem fp203 : fieldPlaces prog 203 = none := by kernel_rfl
theorem eo203 : elOk prog 203 = true := by kernel_rfl
theorem zv203 : zeroV prog 203 = some [V.sc (Value.pointer none)] := by kernel_rfl
theorem un209 : prog.underlying 209 = some (TypeDesc.array 0 16) := by kernel_rfl
theorem co209 : prog.cellsOf 209 = 0 := by kernel_rfl
theorem ia209 : isAggT prog 209 = true := by kernel_rfl
theorem ct209 : cellTys prog tyD 209 = [] := by kernel_rfl
theorem fp209 : fieldPlaces prog 209 = none := by kernel_rfl
theorem eo209 : elOk prog 209 = true := by kernel_rfl
theorem zv209 : zeroV prog 209 = some [] := by kernel_rfl
theorem co210 : prog.cellsOf 210 = 0 := by kernel_rfl
theorem ia210 : isAggT prog 210 = true := by kernel_rfl
theorem ct210 : cellTys prog tyD 210 = [] := by kernel_rfl
theorem fp210 : fieldPlaces prog 210 = some #[(0, 0)] := by kernel_rfl
theorem eo210 : elOk prog 210 = true := by kernel_rfl
theorem zv210 : zeroV prog 210 = some [] := by kernel_rfl
theorem co211 : prog.cellsOf 211 = 0 := by kernel_rfl
theorem ia211 : isAggT prog 211 = true := by kernel_rfl
theorem ct211 : cellTys prog tyD 211 = [] := by kernel_rfl
theorem fp211 : fieldPlaces prog 211 = some #[(0, 0)] := by kernel_rfl
theorem eo211 : elOk prog 211 = true := by kernel_rfl
theorem zv211 : zeroV prog 211 = some [] := by kernel_rfl
theorem un213 : prog.underlying 213 = some (TypeDesc.int IntKind.u8) := by kernel_rfl
theorem co213 : prog.cellsOf 213 = 1 := by kernel_rfl
theorem ia213 : isAggT prog 213 = false := by kernel_rfl
theorem ct213 : cellTys prog tyD 213 = [none] := by kernel_rfl
theorem fp213 : fieldPlaces prog 213 = none := by kernel_rfl
theorem eo213 : elOk prog 213 = true := by kernel_rfl
theorem zv213 : zeroV prog 213 = some [V.sc (Value.int IntKind.u8 (0))] := by kernel_rfl
theorem un214 : prog.underlying 214 = some (TypeDesc.int IntKind.u8) := by kernel_rfl
theorem co214 : prog.cellsOf 214 = 1 := by kernel_rfl
theorem ia214 : isAggT prog 214 = false := by kernel_rfl
theorem ct214 : cellTys prog tyD 214 = [none] := by kernel_rfl
theorem fp214 : fieldPlaces prog 214 = none := by kernel_rfl
theorem eo214 : elOk prog 214 = true := by kernel_rfl
theorem zv214 : zeroV prog 214 = some [V.sc (Value.int IntKind.u8 (0))] := by kernel_rfl
theorem un216 : prog.underlying 216 = some (TypeDesc.int IntKind.i32) := by kernel_rfl
theorem co216 : prog.cellsOf 216 = 1 := by kernel_rfl
theorem ia216 : isAggT prog 216 = false := by kernel_rfl
theorem ct216 : cellTys prog tyD 216 = [none] := by kernel_rfl
theorem fp216 : fieldPlaces prog 216 = none := by kernel_rfl
theorem eo216 : elOk prog 216 = true := by kernel_rfl
theorem zv216 : zeroV prog 216 = some [V.sc (Value.int IntKind.i32 (0))] := by kernel_rfl
theorem un217 : prog.underlying 217 = some (TypeDesc.int IntKind.i32) := by kernel_rfl
theorem co217 : prog.cellsOf 217 = 1 := by kernel_rfl
theorem ia217 : isAggT prog 217 = false := by kernel_rfl
theorem ct217 : cellTys prog tyD 217 = [none] := by kernel_rfl
theorem fp217 : fieldPlaces prog 217 = none := by kernel_rfl
theorem eo217 : elOk prog 217 = true := by kernel_rfl
theorem zv217 : zeroV prog 217 = some [V.sc (Value.int IntKind.i32 (0))] := by kernel_rfl
theorem co218 : prog.cellsOf 218 = 11 := by kernel_rfl
theorem ia218 : isAggT prog 218 = true := by kernel_rfl
theorem ct218 : cellTys prog tyD 218 = [none, none, none, none, none, none, none, none, none, none, none] := by kernel_rfl
theorem fp218 : fieldPlaces prog 218 = some #[(0, 1), (1, 1), (2, 1), (3, 1), (4, 1), (5, 1), (6, 1), (7, 1), (8, 1), (9, 1), (10, 1)] := by kernel_rfl
theorem eo218 : elOk prog 218 = true := by kernel_rfl
theorem zv218 : zeroV prog 218 = some [V.sc (Value.int IntKind.u64 (0)), V.sc (Value.int IntKind.u64 (0)), V.sc (Value.int IntKind.u32 (0)), V.sc (Value.int IntKind.u8 (0)), V.sc (Value.int IntKind.u8 (0)), V.sc (Value.int IntKind.u8 (0)), V.sc (Value.int IntKind.u8 (0)), V.sc Value.nilFunc, V.sc (Value.pointer none), V.sc (Value.int IntKind.i32 (0)), V.sc (Value.int IntKind.i32 (0))] := by kernel_rfl
theorem co219 : prog.cellsOf 219 = 11 := by kernel_rfl
theorem ia219 : isAggT prog 219 = true := by kernel_rfl
theorem ct219 : cellTys prog tyD 219 = [none, none, none, none, none, none, none, none, none, none, none] := by kernel_rfl
theorem fp219 : fieldPlaces prog 219 = some #[(0, 1), (1, 1), (2, 1), (3, 1), (4, 1), (5, 1), (6, 1), (7, 1), (8, 1), (9, 1), (10, 1)] := by kernel_rfl
theorem eo219 : elOk prog 219 = true := by kernel_rfl
theorem zv219 : zeroV prog 219 = some [V.sc (Value.int IntKind.u64 (0)), V.sc (Value.int IntKind.u64 (0)), V.sc (Value.int IntKind.u32 (0)), V.sc (Value.int IntKind.u8 (0)), V.sc (Value.int IntKind.u8 (0)), V.sc (Value.int IntKind.u8 (0)), V.sc (Value.int IntKind.u8 (0)), V.sc Value.nilFunc, V.sc (Value.pointer none), V.sc (Value.int IntKind.i32 (0)), V.sc (Value.int IntKind.i32 (0))] := by kernel_rfl
end Go.Rg
/-
  SHA-256 as a plain function; the evaluator's operations at words.
-/
set_option linter.unusedSimpArgs false
set_option linter.unusedVariables false
namespace Go.Sha
open Go Go.Pv

abbrev W32 := BitVec 32
/-- A word, as an integer. -/
def w (x : W32) : Int := x.toNat
theorem w_def (x : W32) : w x = (x.toNat : Int) := rfl
theorem w_zero : w 0#32 = 0 := rfl
theorem wrap32 (n : Nat) : IntKind.u32.wrap (n : Int) = w (BitVec.ofNat 32 n) := by
  have e1 : ((2 : Int) ^ IntKind.u32.bits) = 4294967296 := by decide
  simp only [IntKind.wrap, e1, IntKind.signed, Bool.false_and, Bool.false_eq_true, if_false, w, BitVec.toNat_ofNat]
  omega
theorem w_mod (x : W32) : BitVec.ofInt 32 (w x) = x := by
  apply BitVec.eq_of_toNat_eq
  rw [BitVec.toNat_ofInt, w]
  have := x.isLt
  omega
theorem b32 : IntKind.u32.bits = 32 := rfl
theorem wrap_toNat (x : W32) : IntKind.u32.wrap (x.toNat : Int) = w x := by rw [wrap32]; simp
section
variable (P : Program) (t : TypeId) (p q : Operand) (x y : W32)
theorem add32 : binOpV P .add t p q (.sc (.int .u32 (w x))) (.sc (.int .u32 (w y))) = .ret (.sc (.int .u32 (w (x + y)))) := by
  rw [binOpV_add, w, w, ← Int.natCast_add, wrap32]
  have : BitVec.ofNat 32 (x.toNat + y.toNat) = x + y := by apply BitVec.eq_of_toNat_eq; simp
  rw [this]
theorem xor32 : binOpV P .xor t p q (.sc (.int .u32 (w x))) (.sc (.int .u32 (w y))) = .ret (.sc (.int .u32 (w (x ^^^ y)))) := by
  refine (binOpV_xor (P := P) t p q .u32 (w x) (w y)).trans ?_
  show HP.ret (V.sc (.int .u32 (IntKind.u32.wrap ((BitVec.ofInt 32 (w x) ^^^ BitVec.ofInt 32 (w y)).toNat : Int)))) = _
  rw [w_mod, w_mod, wrap_toNat]
theorem and32 : binOpV P .and t p q (.sc (.int .u32 (w x))) (.sc (.int .u32 (w y))) = .ret (.sc (.int .u32 (w (x &&& y)))) := by
  refine (binOpV_and (P := P) t p q .u32 (w x) (w y)).trans ?_
  show HP.ret (V.sc (.int .u32 (IntKind.u32.wrap ((BitVec.ofInt 32 (w x) &&& BitVec.ofInt 32 (w y)).toNat : Int)))) = _
  rw [w_mod, w_mod, wrap_toNat]
theorem or32 : binOpV P .or t p q (.sc (.int .u32 (w x))) (.sc (.int .u32 (w y))) = .ret (.sc (.int .u32 (w (x ||| y)))) := by
  refine (binOpV_or (P := P) t p q .u32 (w x) (w y)).trans ?_
  show HP.ret (V.sc (.int .u32 (IntKind.u32.wrap ((BitVec.ofInt 32 (w x) ||| BitVec.ofInt 32 (w y)).toNat : Int)))) = _
  rw [w_mod, w_mod, wrap_toNat]
theorem not32 : unOpV P .xor (.sc (.int .u32 (w x))) = .ret (.sc (.int .u32 (w (~~~x)))) := by
  refine (unOpV_xor .u32 (w x)).trans ?_
  show HP.ret (V.sc (.int .u32 (IntKind.u32.wrap ((BitVec.ofInt 32 (if IntKind.u32.signed then -1 else IntKind.u32.max) ^^^ BitVec.ofInt 32 (w x)).toNat : Int)))) = _
  have : BitVec.ofInt 32 (if IntKind.u32.signed = true then -1 else IntKind.u32.max) = BitVec.allOnes 32 := by decide
  rw [w_mod, this, BitVec.allOnes_xor, wrap_toNat]
theorem shr32 (k : IntKind) (n : Nat) (h : n ≤ 32) : binOpV P .shr t p q (.sc (.int .u32 (w x))) (.sc (.int k (n : Int))) = .ret (.sc (.int .u32 (w (x >>> n)))) := by
  rw [binOpV_shr t p q .u32 k (w x) n (by omega)]
  have e : (w x).fdiv (2 ^ min (n : Int).toNat IntKind.u32.bits) = w (x >>> n) := by
    have hm : min n 32 = n := Nat.min_eq_left h
    rw [Int.toNat_natCast, b32, hm, w, w, BitVec.toNat_ushiftRight, Nat.shiftRight_eq_div_pow, Int.fdiv_eq_ediv_of_nonneg _ (Int.pow_nonneg (by decide))]
    rw [Int.natCast_ediv, Int.natCast_pow]; rfl
  rw [e]
theorem shl32 (k : IntKind) (n : Nat) (h : n ≤ 32) : binOpV P .shl t p q (.sc (.int .u32 (w x))) (.sc (.int k (n : Int))) = .ret (.sc (.int .u32 (w (x <<< n)))) := by
  rw [binOpV_shl t p q .u32 k (w x) n (by omega)]
  have e : (w x * 2 ^ min (n : Int).toNat IntKind.u32.bits : Int) = ((x.toNat * 2 ^ n : Nat) : Int) := by
    have hm : min n 32 = n := Nat.min_eq_left h
    rw [Int.toNat_natCast, b32, hm, w, Int.natCast_mul, Int.natCast_pow]; rfl
  have e2 : BitVec.ofNat 32 (x.toNat * 2 ^ n) = x <<< n := by
    apply BitVec.eq_of_toNat_eq; simp [Nat.shiftLeft_eq]
  rw [e, wrap32, e2]
end

/-- A byte, as an integer. -/
def u8i (b : UInt8) : Int := b.toNat
/-- A word's last byte. -/
def lo (x : W32) : UInt8 := UInt8.ofNat x.toNat
/-- Words as values. -/
def wV (l : List W32) : List V := l.map fun x => .sc (.int .u32 (w x))
/-! ### The function -/
def rotr (x : W32) (n : Nat) : W32 := x >>> n ||| x <<< (32 - n)
def kTab : List W32 := [
  0x428a2f98, 0x71374491, 0xb5c0fbcf, 0xe9b5dba5, 0x3956c25b, 0x59f111f1, 0x923f82a4, 0xab1c5ed5,
  0xd807aa98, 0x12835b01, 0x243185be, 0x550c7dc3, 0x72be5d74, 0x80deb1fe, 0x9bdc06a7, 0xc19bf174,
  0xe49b69c1, 0xefbe4786, 0x0fc19dc6, 0x240ca1cc, 0x2de92c6f, 0x4a7484aa, 0x5cb0a9dc, 0x76f988da,
  0x983e5152, 0xa831c66d, 0xb00327c8, 0xbf597fc7, 0xc6e00bf3, 0xd5a79147, 0x06ca6351, 0x14292967,
  0x27b70a85, 0x2e1b2138, 0x4d2c6dfc, 0x53380d13, 0x650a7354, 0x766a0abb, 0x81c2c92e, 0x92722c85,
  0xa2bfe8a1, 0xa81a664b, 0xc24b8b70, 0xc76c51a3, 0xd192e819, 0xd6990624, 0xf40e3585, 0x106aa070,
  0x19a4c116, 0x1e376c08, 0x2748774c, 0x34b0bcb5, 0x391c0cb3, 0x4ed8aa4a, 0x5b9cca4f, 0x682e6ff3,
  0x748f82ee, 0x78a5636f, 0x84c87814, 0x8cc70208, 0x90befffa, 0xa4506ceb, 0xbef9a3f7, 0xc67178f2]
structure S8 where
  (a b c d e f g h : W32)
def S8.l (s : S8) : List W32 := [s.a, s.b, s.c, s.d, s.e, s.f, s.g, s.h]
def h0 : S8 := ⟨0x6a09e667, 0xbb67ae85, 0x3c6ef372, 0xa54ff53a, 0x510e527f, 0x9b05688c, 0x1f83d9ab, 0x5be0cd19⟩
def t1 (s : S8) (k x : W32) : W32 := s.h + (rotr s.e 6 ^^^ rotr s.e 11 ^^^ rotr s.e 25) + (s.e &&& s.f ^^^ ~~~s.e &&& s.g) + k + x
def t2 (s : S8) : W32 := (rotr s.a 2 ^^^ rotr s.a 13 ^^^ rotr s.a 22) + (s.a &&& s.b ^^^ s.a &&& s.c ^^^ s.b &&& s.c)
def rnd (s : S8) (kx : W32 × W32) : S8 := ⟨t1 s kx.1 kx.2 + t2 s, s.a, s.b, s.c, s.d + t1 s kx.1 kx.2, s.e, s.f, s.g⟩
def S8.add (s t : S8) : S8 := ⟨s.a + t.a, s.b + t.b, s.c + t.c, s.d + t.d, s.e + t.e, s.f + t.f, s.g + t.g, s.h + t.h⟩
def be (a b c d : UInt8) : W32 := (BitVec.ofNat 32 a.toNat) <<< 24 ||| (BitVec.ofNat 32 b.toNat) <<< 16 ||| (BitVec.ofNat 32 c.toNat) <<< 8 ||| BitVec.ofNat 32 d.toNat
def words : List UInt8 → List W32
  | a :: b :: c :: d :: r => be a b c d :: words r
  | _ => []
/-- The next word of a schedule. -/
def nextW (l : List W32) : W32 :=
  let x := l.getD (l.length - 15) 0
  let y := l.getD (l.length - 2) 0
  l.getD (l.length - 16) 0 + (rotr x 7 ^^^ rotr x 18 ^^^ x >>> 3) + l.getD (l.length - 7) 0 + (rotr y 17 ^^^ rotr y 19 ^^^ y >>> 10)
def grow : Nat → List W32 → List W32
  | 0, l => l
  | n + 1, l => grow n (l ++ [nextW l])
def sched (b : List UInt8) : List W32 := grow 48 (words b)
def block (s : S8) (b : List UInt8) : S8 := s.add ((kTab.zip (sched b)).foldl rnd s)
def zeros (n : Nat) : Nat := (119 - n % 64) % 64
def len8 (n : Nat) : List UInt8 := [7, 6, 5, 4, 3, 2, 1, 0].map fun i => UInt8.ofNat (8 * n / 2 ^ (8 * i))
def padded (s : List UInt8) : List UInt8 := s ++ [128] ++ List.replicate (zeros s.length) 0 ++ len8 s.length
def chunks : Nat → List UInt8 → List (List UInt8)
  | 0, _ => []
  | n + 1, l => l.take 64 :: chunks n (l.drop 64)
def bytes4 (x : W32) : List UInt8 := [lo (x >>> 24), lo (x >>> 16), lo (x >>> 8), lo x]
def sumB (s : List UInt8) : List UInt8 := ((chunks ((padded s).length / 64) (padded s)).foldl block h0).l.flatMap bytes4
def sum (s : ByteArray) : ByteArray := ⟨(sumB s.data.toList).toArray⟩
end Go.Sha
/-
  SHA-256 once more, over numbers; it is the same function.
-/
set_option linter.unusedSimpArgs false
set_option linter.unusedVariables false
namespace Go.Sha
def rotN (x n m : Nat) : Nat := Nat.lor (Nat.shiftRight x n) (Nat.mod (Nat.shiftLeft x m) 4294967296)
def addN (x y : Nat) : Nat := Nat.mod (Nat.add x y) 4294967296
def t1N (e f g h k x : Nat) : Nat := addN (addN (addN (addN h (Nat.xor (Nat.xor (rotN e 6 26) (rotN e 11 21)) (rotN e 25 7))) (Nat.xor (Nat.land e f) (Nat.land (Nat.sub 4294967295 e) g))) k) x
def t2N (a b c : Nat) : Nat := addN (Nat.xor (Nat.xor (rotN a 2 30) (rotN a 13 19)) (rotN a 22 10)) (Nat.xor (Nat.xor (Nat.land a b) (Nat.land a c)) (Nat.land b c))
def roundsN : List Nat → List Nat → Nat → Nat → Nat → Nat → Nat → Nat → Nat → Nat → List Nat
  | k :: ks, x :: xs, a, b, c, d, e, f, g, h => roundsN ks xs (addN (t1N e f g h k x) (t2N a b c)) a b c (addN d (t1N e f g h k x)) e f g
  | _, _, a, b, c, d, e, f, g, h => [a, b, c, d, e, f, g, h]
def nextN (r : List Nat) : Nat :=
  addN (addN (addN (r.getD 15 0) (Nat.xor (Nat.xor (rotN (r.getD 14 0) 7 25) (rotN (r.getD 14 0) 18 14)) (Nat.shiftRight (r.getD 14 0) 3))) (r.getD 6 0)) (Nat.xor (Nat.xor (rotN (r.getD 1 0) 17 15) (rotN (r.getD 1 0) 19 13)) (Nat.shiftRight (r.getD 1 0) 10))
def growN : Nat → List Nat → List Nat
  | 0, r => r
  | n + 1, r => growN n (nextN r :: r)
def beN (a b c d : UInt8) : Nat := Nat.lor (Nat.lor (Nat.lor (Nat.shiftLeft a.toNat 24) (Nat.shiftLeft b.toNat 16)) (Nat.shiftLeft c.toNat 8)) d.toNat
def wordsN : List UInt8 → List Nat → List Nat
  | a :: b :: c :: d :: r, acc => wordsN r (beN a b c d :: acc)
  | _, acc => acc
def kN : List Nat := [
  0x428a2f98, 0x71374491, 0xb5c0fbcf, 0xe9b5dba5, 0x3956c25b, 0x59f111f1, 0x923f82a4, 0xab1c5ed5,
  0xd807aa98, 0x12835b01, 0x243185be, 0x550c7dc3, 0x72be5d74, 0x80deb1fe, 0x9bdc06a7, 0xc19bf174,
  0xe49b69c1, 0xefbe4786, 0x0fc19dc6, 0x240ca1cc, 0x2de92c6f, 0x4a7484aa, 0x5cb0a9dc, 0x76f988da,
  0x983e5152, 0xa831c66d, 0xb00327c8, 0xbf597fc7, 0xc6e00bf3, 0xd5a79147, 0x06ca6351, 0x14292967,
  0x27b70a85, 0x2e1b2138, 0x4d2c6dfc, 0x53380d13, 0x650a7354, 0x766a0abb, 0x81c2c92e, 0x92722c85,
  0xa2bfe8a1, 0xa81a664b, 0xc24b8b70, 0xc76c51a3, 0xd192e819, 0xd6990624, 0xf40e3585, 0x106aa070,
  0x19a4c116, 0x1e376c08, 0x2748774c, 0x34b0bcb5, 0x391c0cb3, 0x4ed8aa4a, 0x5b9cca4f, 0x682e6ff3,
  0x748f82ee, 0x78a5636f, 0x84c87814, 0x8cc70208, 0x90befffa, 0xa4506ceb, 0xbef9a3f7, 0xc67178f2]
def addL : List Nat → List Nat → List Nat
  | x :: xs, y :: ys => addN x y :: addL xs ys
  | _, _ => []
def blockN (s : List Nat) (b : List UInt8) : List Nat :=
  match s with
  | [a0, b0, c0, d0, e0, f0, g0, h0] => addL s (roundsN kN (growN 48 (wordsN b [])).reverse a0 b0 c0 d0 e0 f0 g0 h0)
  | _ => []
def h0N : List Nat := [0x6a09e667, 0xbb67ae85, 0x3c6ef372, 0xa54ff53a, 0x510e527f, 0x9b05688c, 0x1f83d9ab, 0x5be0cd19]
def bytesN (n : Nat) : List UInt8 := [UInt8.ofNat (Nat.shiftRight n 24), UInt8.ofNat (Nat.shiftRight n 16), UInt8.ofNat (Nat.shiftRight n 8), UInt8.ofNat n]
def foldN : List (List UInt8) → List Nat → List Nat
  | [], s => s
  | b :: r, s => foldN r (blockN s b)
def sumN (s : List UInt8) : List UInt8 := (foldN (chunks ((padded s).length / 64) (padded s)) h0N).flatMap bytesN
def sumF (s : ByteArray) : ByteArray := ⟨(sumN s.data.toList).toArray⟩
end Go.Sha
/-
  The two functions are one.
-/
set_option linter.unusedSimpArgs false
set_option linter.unusedVariables false
set_option maxRecDepth 10000
namespace Go.Sha
theorem rotN_eq (x : W32) (n m : Nat) (h : 32 - n = m) : rotN x.toNat n m = (rotr x n).toNat := by
  subst h
  show (x.toNat >>> n ||| (x.toNat <<< (32 - n)) % 4294967296) = _
  simp [rotr]
theorem addN_eq (x y : W32) : addN x.toNat y.toNat = (x + y).toNat := by
  show (x.toNat + y.toNat) % 4294967296 = _
  simp
theorem not_eq (x : W32) : 4294967295 - x.toNat = (~~~x).toNat := by
  rw [BitVec.toNat_not]
theorem xorN_eq (x y : W32) : Nat.xor x.toNat y.toNat = (x ^^^ y).toNat := by
  show x.toNat ^^^ y.toNat = _
  simp
theorem andN_eq (x y : W32) : Nat.land x.toNat y.toNat = (x &&& y).toNat := by
  show x.toNat &&& y.toNat = _
  simp
theorem shrN_eq (x : W32) (n : Nat) : Nat.shiftRight x.toNat n = (x >>> n).toNat := by
  show x.toNat >>> n = _
  simp
theorem subN_eq (x : W32) : Nat.sub 4294967295 x.toNat = (~~~x).toNat := not_eq x
theorem t1N_eq (s : S8) (k x : W32) : t1N s.e.toNat s.f.toNat s.g.toNat s.h.toNat k.toNat x.toNat = (t1 s k x).toNat := by
  simp only [t1N, t1, subN_eq, rotN_eq _ 6 26 rfl, rotN_eq _ 11 21 rfl, rotN_eq _ 25 7 rfl, xorN_eq, andN_eq, addN_eq]
theorem t2N_eq (s : S8) : t2N s.a.toNat s.b.toNat s.c.toNat = (t2 s).toNat := by
  simp only [t2N, t2, rotN_eq _ 2 30 rfl, rotN_eq _ 13 19 rfl, rotN_eq _ 22 10 rfl, xorN_eq, andN_eq, addN_eq]
def S8.n (s : S8) : List Nat := s.l.map (·.toNat)
theorem roundsN_eq : ∀ (ks xs : List W32) (s : S8), roundsN (ks.map (·.toNat)) (xs.map (·.toNat)) s.a.toNat s.b.toNat s.c.toNat s.d.toNat s.e.toNat s.f.toNat s.g.toNat s.h.toNat = ((ks.zip xs).foldl rnd s).n
  | [], xs, s => by cases xs <;> rfl
  | k :: ks, [], s => rfl
  | k :: ks, x :: xs, s => by
    simp only [List.map_cons, roundsN, List.zip_cons_cons, List.foldl_cons, t1N_eq, t2N_eq, addN_eq]
    exact roundsN_eq ks xs (rnd s (k, x))
theorem getD_rev (l : List W32) (i : Nat) (h : i < l.length) : (l.reverse.map (·.toNat)).getD i 0 = (l.getD (l.length - 1 - i) 0).toNat := by
  simp only [List.getD_eq_getElem?_getD, List.getElem?_map, List.getElem?_reverse h]
  rw [List.getElem?_eq_getElem (by omega)]
  rfl
theorem nextN_eq (l : List W32) (h : 16 ≤ l.length) : nextN (l.reverse.map (·.toNat)) = (nextW l).toNat := by
  have e15 : l.length - 1 - 15 = l.length - 16 := by omega
  have e14 : l.length - 1 - 14 = l.length - 15 := by omega
  have e6 : l.length - 1 - 6 = l.length - 7 := by omega
  have e1 : l.length - 1 - 1 = l.length - 2 := by omega
  unfold nextN
  rw [getD_rev l 15 (by omega), getD_rev l 14 (by omega), getD_rev l 6 (by omega), getD_rev l 1 (by omega), e15, e14, e6, e1]
  simp only [nextW, rotN_eq _ 7 25 rfl, rotN_eq _ 18 14 rfl, rotN_eq _ 17 15 rfl, rotN_eq _ 19 13 rfl, xorN_eq, shrN_eq, addN_eq]
theorem growN_eq : ∀ (n : Nat) (l : List W32), 16 ≤ l.length → growN n (l.reverse.map (·.toNat)) = (grow n l).reverse.map (·.toNat)
  | 0, l, h => rfl
  | n + 1, l, h => by
    have := growN_eq n (l ++ [nextW l]) (by simp; omega)
    rw [growN, grow, ← this, nextN_eq l h]
    simp
theorem beN_eq (a b c d : UInt8) : beN a b c d = (be a b c d).toNat := by
  have ha := a.toNat_lt
  have hb := b.toNat_lt
  have hc := c.toNat_lt
  have hd := d.toNat_lt
  show (a.toNat <<< 24 ||| b.toNat <<< 16 ||| c.toNat <<< 8 ||| d.toNat) = _
  simp only [be, BitVec.toNat_or, BitVec.toNat_shiftLeft, BitVec.toNat_ofNat, Nat.shiftLeft_eq]
  rw [Nat.mod_eq_of_lt (show a.toNat < 2 ^ 32 by omega), Nat.mod_eq_of_lt (show b.toNat < 2 ^ 32 by omega), Nat.mod_eq_of_lt (show c.toNat < 2 ^ 32 by omega), Nat.mod_eq_of_lt (show d.toNat < 2 ^ 32 by omega),
    Nat.mod_eq_of_lt (show a.toNat * 2 ^ 24 < 2 ^ 32 by omega), Nat.mod_eq_of_lt (show b.toNat * 2 ^ 16 < 2 ^ 32 by omega), Nat.mod_eq_of_lt (show c.toNat * 2 ^ 8 < 2 ^ 32 by omega)]
theorem wordsN_eq : ∀ (b : List UInt8) (acc : List Nat), wordsN b acc = ((words b).map (·.toNat)).reverse ++ acc
  | a :: b :: c :: d :: r, acc => by
    rw [wordsN, wordsN_eq r, words, beN_eq]; simp
  | [], acc => rfl
  | [_], acc => rfl
  | [_, _], acc => rfl
  | [_, _, _], acc => rfl
theorem words_length : ∀ (n : Nat) (b : List UInt8), b.length = 4 * n → (words b).length = n
  | 0, b, h => by
    have : b = [] := List.length_eq_zero_iff.1 (by omega)
    subst this; rfl
  | n + 1, b, h => by
    match b, h with
    | a :: c :: d :: e :: r, h =>
      have h' : r.length = 4 * n := by simp at h; omega
      simp [words, words_length n r h']
theorem kN_eq : kN = kTab.map (·.toNat) := by decide +kernel
theorem blockN_eq (s : S8) (b : List UInt8) (hb : b.length = 64) : blockN s.n b = (block s b).n := by
  have hw : (words b).length = 16 := words_length 16 b (by omega)
  have hg : (growN 48 (wordsN b [])).reverse = (sched b).map (·.toNat) := by
    rw [wordsN_eq, List.append_nil, ← List.map_reverse, growN_eq 48 (words b) (by omega), ← List.map_reverse, List.reverse_reverse]; rfl
  show addL s.n (roundsN kN (growN 48 (wordsN b [])).reverse s.a.toNat s.b.toNat s.c.toNat s.d.toNat s.e.toNat s.f.toNat s.g.toNat s.h.toNat) = _
  rw [hg, kN_eq, roundsN_eq]
  simp only [block]
  generalize (kTab.zip (sched b)).foldl rnd s = t
  simp only [S8.n, S8.l, S8.add, List.map_cons, List.map_nil, addL, addN_eq]
theorem chunks_length : ∀ (n : Nat) (l : List UInt8), l.length = 64 * n → ∀ c ∈ chunks n l, c.length = 64
  | 0, l, h, c, hc => by simp [chunks] at hc
  | n + 1, l, h, c, hc => by
    simp only [chunks, List.mem_cons] at hc
    rcases hc with rfl | hc
    · simp; omega
    · exact chunks_length n (l.drop 64) (by simp; omega) c hc
theorem foldN_eq : ∀ (cs : List (List UInt8)) (s : S8), (∀ c ∈ cs, c.length = 64) → foldN cs s.n = (cs.foldl block s).n
  | [], s, h => rfl
  | c :: cs, s, h => by
    rw [foldN, blockN_eq s c (h c (by simp)), List.foldl_cons]
    exact foldN_eq cs (block s c) (fun c hc => h c (by simp [hc]))
theorem bytesN_eq (x : W32) : bytesN x.toNat = bytes4 x := by
  simp only [bytesN, bytes4, shrN_eq, lo]
theorem padded_mod (l : List UInt8) : (padded l).length = 64 * ((padded l).length / 64) := by
  have h : (padded l).length = l.length + 1 + zeros l.length + 8 := by
    simp only [padded, List.length_append, List.length_replicate, List.length_singleton]; rfl
  rw [h]; unfold zeros; omega
theorem sumN_eq (s : List UInt8) : sumN s = sumB s := by
  unfold sumN sumB
  have h0 : h0N = h0.n := rfl
  rw [h0, foldN_eq _ _ (chunks_length _ _ (padded_mod s))]
  simp only [S8.n, List.flatMap_map, bytesN_eq]
theorem sumF_eq (s : ByteArray) : sumF s = sum s := by rw [sumF, sum, sumN_eq]
end Go.Sha
/-
  The program, as the evaluator sees it.
-/
namespace Go.Rg
open Go Go.Pv Go.Proofs.Tryz
set_option maxRecDepth 100000
def befoTab : List (Nat × List (Nat × List Nat)) := [(3, [(16, [0, 0, 3, 7, 0, 16, 48, 112, 255, 511]), (33, [0, 0, 0, 0, 0, 24, 56, 120, 0, 504, 1023, 2047, 4095, 4095, 0, 24575, 65535]), (39, [0, 0, 0, 6, 0, 16, 62, 0, 0, 384, 0, 0, 3072, 8190, 16383, 32767]), (49, [0, 0, 0, 6, 14, 0, 0, 96, 224, 511, 0, 0, 0, 6144, 14336, 0, 0, 98304, 229376, 524287, 1048575]), (51, [0, 0, 0, 6, 14, 31, 0, 0, 0, 384, 896, 2047, 4095, 8191, 16383, 16383, 16383, 114687, 245759, 524287, 16383, 16383, 16383, 6307839, 14696447, 33554431, 67108863, 134217727])]),
  (4, [(8, [0, 0, 0, 0, 0, 24, 63, 127, 255, 255, 0, 1535, 4095]), (9, [0, 1, 3, 7, 7, 31, 63, 127, 255, 511, 1023, 2047, 511, 511, 12799, 29183, 65535, 131071]), (14, [0, 1, 0, 7, 15, 31, 63, 127, 255, 511, 255, 2047, 4095, 8191, 255, 32767, 65535, 131071, 262143, 524287, 262143, 2097151, 4194303, 8388607, 262143, 17039359, 262143, 67371007, 262143, 470024191, 1006895103, 2080636927, 4278452223, 8573419519, 17179869183, 34359738367]), (17, [0, 0, 0, 0, 0, 24, 63, 127, 255, 255, 0, 1535, 4095]), (21, [0, 1, 0, 0, 8, 28, 63, 0, 255]), (22, [0, 1, 0, 0, 8, 28, 63, 0, 255]), (27, [0, 1, 0, 0, 8, 0, 56, 120, 248, 0, 1016, 2047, 4095, 8191]), (39, [0, 1, 0, 4, 0, 16, 60, 124, 255, 511, 1023, 1023, 3071, 1023, 15359, 31743, 65535, 131071, 262143])]),
  (5, [(27, [0, 1, 0, 7, 15, 0, 32, 0, 224, 480, 1023]), (29, [0, 0, 2, 0, 14, 30, 63, 0, 128, 0, 896, 2047, 4095, 8191])]),
  (6, [(8, [0, 0, 0, 0, 8, 0, 56, 127, 255, 511, 511, 0, 3071, 8191]), (9, [0, 0, 0, 0, 8, 0, 56, 127, 255, 511, 511, 0, 3071, 8191]), (16, [0, 1, 3, 7, 0, 16, 0, 64, 199, 455, 1015, 2047, 0, 4096, 13255, 29639, 0, 65536, 0, 262144, 816071, 1864647, 4158407, 8385479, 16777215, 33554431]), (22, [0, 1, 3, 7, 15, 31, 15, 127, 255, 511, 1023, 2047, 1023, 5119, 1023, 17407, 62463, 127999, 262143, 524287, 1048575, 1048575, 3145727, 1048575, 15728639, 32505855, 67108863, 134217727, 268435455, 536870911])]),
  (7, [(13, [0, 1, 3, 7, 15, 31, 63, 127, 127, 127, 1023, 127, 127, 127, 16383, 32767, 65535]), (22, [0, 1, 3, 3, 15, 31, 3, 3, 195, 451, 1023, 2047, 4095, 8191, 4095, 4095, 53247, 118783, 262143, 524287, 4095, 1052671, 4095, 4095, 12587007, 29364223, 66064383, 133173247, 268435455, 536870911, 1073741823, 2147483647]), (25, [0, 0, 3, 7, 15, 31, 15, 127, 15, 271, 15, 1807, 4095, 8191]), (27, [0, 0, 0, 7, 15, 31, 63, 31, 255, 511, 31, 1055, 31, 7199, 16383, 32767, 65535, 131071])]),
  (8, [(10, [0, 1, 3, 7, 7, 31, 63, 127, 255, 511, 1023, 511, 4095, 8191, 16383, 32767, 65535, 32767, 163839, 524287, 1048575, 2097151, 4194303, 4194303, 16777215, 4194303, 37748735, 4194303, 138412031, 507510783, 1073741823, 2147483647]), (12, [0, 1, 0, 4, 0, 31, 63, 127, 127, 0, 767, 2047]), (14, [0, 1, 3, 3, 11, 31, 63, 127, 255, 511, 1023, 255, 2303, 255, 14591, 32767, 255, 65791, 197631, 459775, 255, 1048831, 255, 4194559, 13042687, 29819903, 66520063, 134153215, 268435455, 536870911, 1073741823])]),
  (9, [(12, [0, 0, 3, 7, 0, 16, 48, 112, 255, 511]), (13, [0, 0, 0, 0, 0, 24, 56, 0, 248, 511, 1023, 2047, 2047, 0, 12287, 32767]), (43, [0, 1, 3, 7, 7, 23, 55, 127, 255, 511, 1023, 2047, 4095, 8191, 16383, 32767, 65535, 65535, 262143, 524287, 1048575, 65535, 2162687, 65535, 14745599, 31522815, 67108863, 134217727, 268435455, 536870911, 536870911, 2147483647, 4294967295, 8589934591, 17179869183, 34359738367, 68719476735, 137438953471, 274877906943, 549755813887, 1099511627775, 2199023255551, 2199023255551, 2199023255551, 10995116277759, 32985348833279, 68169720922111, 138538465099775, 281474976710655, 562949953421311, 1125899906842623])]),
  (10, [(5, [0, 0, 0, 0, 14, 0, 62, 127, 255]), (16, [0, 1, 0, 7, 15, 31, 63, 63, 255, 511, 1023, 2047, 2047, 8191, 16383, 32767]), (18, [0, 0, 3, 0, 8, 0, 56, 120, 0, 0, 512, 1536, 3584, 8056, 0, 16384, 49152, 130936, 262143, 524287, 0]), (42, [0, 0, 3, 7, 15, 0, 32, 0, 255, 511, 1023, 1023, 0, 6143, 16383]), (43, [0, 0, 3, 7, 0, 16, 63, 127, 0]), (49, [0, 0, 3, 0, 0, 31, 63]), (57, [0, 0, 3, 7, 0, 0, 48, 112, 0, 496, 1023, 2047, 0]), (60, [0, 0, 0, 0, 12, 28, 0, 127, 0, 0, 0, 0, 3072, 7168, 0, 32767, 65535])]),
  (11, [(12, [0, 0, 0, 6, 14, 30, 63, 127, 255, 255, 0, 1535, 4095]), (17, [0, 1, 0, 4, 15, 31, 63, 127, 255, 63, 575, 1599, 3647, 8191, 16383, 32767, 65535, 131071, 65535, 327679, 851967, 2097151, 65535, 4259839, 16777215, 33554431, 67108863, 134217727, 268435455, 536870911, 268435455, 1342177279, 3489660927, 8589934591, 17179869183, 268435455, 268435455, 103347650559, 240786604031, 515664510975, 1099511627775, 2199023255551])]),
  (12, [(15, [0, 1, 0, 4, 12, 28, 0, 64, 192, 448, 960, 1984, 4092, 8191, 0, 32767]), (26, [0, 1, 3, 7, 15, 31, 63, 127, 255, 255, 1023, 2047, 4095, 8191, 16383, 16383, 49151, 131071, 262143, 524287, 1048575, 1048575, 3145727, 8388607, 16777215, 33554431, 67108863, 134217727, 268435455, 536870911, 1073741823, 2147483647, 4294967295, 8589934591, 17179869183, 34359738367])]),
  (13, [(5, [0, 1, 0, 0, 12, 28, 60, 124, 255, 511, 1023])]),
  (14, [(1, [0, 1, 0, 0, 8, 0, 0, 64, 192, 448, 992, 2040, 4092, 8191, 0, 32767]), (5, [0, 1, 0, 0, 12, 28, 60, 124, 255, 511, 1023])]),
  (18, [(11, [0, 1, 0, 0, 8, 0, 56, 120, 0, 508, 1020, 2047, 4095, 8191])]),
  (19, [(8, [0, 0, 3, 7, 0, 16, 63, 127, 255, 511, 1023, 2047, 4095, 4095, 16383, 32767, 4095, 4095, 135167, 462847, 987135, 2097151, 4194303, 8388607]), (10, [0, 1, 0, 7, 0, 0, 48, 112, 255, 511, 1023, 1023, 2047, 8191]), (11, [0, 1, 0, 0, 12, 28, 0, 64, 0, 0, 768, 1792, 4032, 8128, 0, 32764, 65532, 131071, 262143, 524287])]),
  (21, [(1, [0, 1, 0, 0, 8, 28, 63, 0, 255]), (17, [0, 1, 0, 0, 8, 24, 60, 0, 252, 511, 1023, 2047]), (19, [0, 1, 0, 0, 8, 24, 60, 0, 255, 511, 1023]), (7, [0, 1, 0, 0, 8, 0, 56, 120, 248, 504, 1023, 2047, 4095]), (20, [0, 0, 2, 0, 8, 30, 62, 126, 254, 126, 638, 2046, 4094, 8190, 4095, 32767])]),
  (24, [(6, [0, 1, 3, 7, 15, 7, 39, 127, 255, 511, 7, 1031, 4095, 8191, 16383])]),
  (25, [(7, [0, 1, 3, 7, 15, 31, 63, 127, 255, 511, 255, 1279, 255, 4351, 15615, 31999, 64767, 131071, 262143, 524287, 1048575, 2097151, 4194303, 8388607, 2097151, 18874367, 52428799, 2097151, 136314879, 2097151, 538968063, 2097151, 2149580799, 8589934591, 17179869183, 34359738367])]),
  (26, [(7, [0, 0, 3, 7, 0, 0, 48, 112, 255])]),
  (27, [(6, [0, 0, 0, 6, 14, 31, 63, 127, 255, 255, 1023, 2047, 4095, 8191, 255, 16639, 49407, 114943, 246015, 524287, 1048575]), (14, [0, 0, 3, 7, 0, 0, 48, 112, 255])]),
  (28, [(6, [0, 0, 3, 7, 15, 0, 0, 96, 224, 480, 1023, 2047, 4095, 4095, 16383, 32767, 65535, 4095, 4095, 397311, 921599, 1970175, 4194303, 8388607, 16777215, 33554431, 33554431, 134217727, 268435455, 536870911, 33554431, 33554431, 3254779903, 7549747199, 16139681791, 34359738367, 68719476735, 137438953471])]),
  (29, [(6, [0, 0, 3, 0, 0, 16, 56, 127, 255])]),
  (30, [(7, [0, 0, 2, 0, 0, 24, 56, 126, 254, 511, 0, 0, 0, 6144, 14336, 32767, 65535, 131071]), (9, [0, 0, 0, 6, 14, 30, 0, 126, 254, 511, 0, 0, 3072, 7168, 0, 32767, 65535, 131071])]),
  (31, [(13, [0, 0, 3, 7, 0, 0, 48, 112, 255, 511, 1023, 1023, 1023, 7167, 15359, 32767, 65535])]),
  (32, [(6, [0, 0, 3, 7, 0, 0, 48, 127, 255, 511]), (7, [0, 0, 0, 6, 14, 30, 0, 0, 192, 478, 1022, 2046, 4095, 8191])]),
  (33, [(3, [0, 1, 0, 0, 8, 0, 56, 120, 255, 0, 1023])]),
  (36, [(5, [0, 1, 3, 0, 8, 24, 0, 71, 255])]),
  (39, [(6, [0, 0, 3, 7, 0, 0, 48, 112, 255])]),
  (40, [(2, [0, 1, 3, 7, 15, 31, 63, 127, 63, 63, 831, 2047, 4095, 8191])]),
  (41, [(5, [0, 1, 0, 4, 0, 28, 60, 0, 128, 0, 896, 1920, 3968, 8064, 16380, 32764, 65535, 131071, 262143])]),
  (42, [(1, [0, 1, 0, 4, 12, 0, 32, 124, 255, 0, 1023])]),
  (43, [(1, [0, 1, 0, 0, 8, 28, 0, 64, 252, 511, 0, 2047])]),
  (47, [(3, [0, 1, 0, 0, 8, 0, 56, 120, 255, 0, 1023])]),
  (49, [(3, [0, 1, 0, 0, 12, 31, 63])]),
  (51, [(2, [0, 1, 3, 7, 15, 31, 0, 64, 192, 448, 960, 1984, 0, 4096, 16320, 32767, 65535])]),
  (52, [(3, [0, 0, 2, 6, 14, 14, 62, 126, 254, 510, 1022, 2046, 510, 4606, 16382, 32766, 511, 131071])]),
  (54, [(6, [0, 0, 3, 0, 0, 24, 7, 127])]),
  (57, [(11, [0, 0, 0, 6, 14, 30, 62, 0, 0, 384, 896, 1920, 3968, 0, 0, 24576, 57344, 122880, 253952, 0, 0, 1572864, 3670016, 7864320, 16777214, 33554431, 67108863])]),
  (59, [(11, [0, 1, 0, 7, 15, 31, 0, 64, 0, 448, 960, 1984, 4095, 8191, 16383, 32767, 16383, 131071, 262143, 524287, 16383, 1064959, 16383, 7356415, 15745023, 32522239, 67108863, 134217727])]),
  (62, [(1, [0, 0, 3, 7, 15, 31, 63, 127, 31, 287, 799, 1823, 3871, 8191, 16383, 32767])]),
  (72, [(6, [0, 0, 3, 7, 0, 0, 48, 127, 255, 511])]),
  (74, [(8, [0, 1, 3, 7, 7, 23, 63, 127, 7, 7, 519, 1799, 3847, 8191, 16383]), (10, [0, 0, 2, 7, 0, 0, 32, 112, 240, 0, 0, 1024, 3584, 7680, 16368, 32752, 65535, 131071]), (11, [0, 0, 2, 7, 0, 0, 32, 112, 240, 496, 1008, 2047, 4095])]),
  (76, [(9, [0, 0, 3, 0, 0, 24, 7, 127])]),
  (77, [(23, [0, 1, 3, 0, 8, 24, 7, 127, 255])]),
  (86, [(3, [0, 0, 0, 0, 0, 0, 48, 112, 0, 0, 768, 1792, 4083, 8179, 16383, 32767])]),
  (88, [(5, [0, 0, 0, 4, 14, 30, 62, 126, 0, 0, 512, 1536, 3840, 7936, 16128, 32512, 65534, 0, 0, 262144, 786432, 1966080, 4063232, 8257536, 16646144, 33554430, 0, 0, 134217728, 402653184, 1006632960, 2080374784, 4227858432, 8589934590, 17179869182, 34359738367, 68719476735]), (9, [0, 0, 2, 7, 15, 31, 0, 0, 128, 448, 960, 2047, 4095, 0, 0, 16384, 57344, 122880, 253952, 524287, 1048575]), (10, [0, 0, 2, 7, 15, 31, 0, 0, 128, 448, 960, 2047, 4095, 0, 0, 16384, 57344, 122880, 253952, 524287, 1048575]), (11, [0, 0, 0, 4, 14, 30, 0, 126, 0, 0, 512, 1792, 3840, 8190, 0, 32766, 65534, 131071, 262143]), (20, [0, 1, 3, 0, 8, 0, 56, 120, 0, 376, 1016, 2047, 0, 0, 8192, 24576, 61440, 0, 131072, 0, 524288, 1572864, 4063232, 8384512, 16777215, 0, 0, 100663296, 234881024, 536870911, 0, 0, 3221225472, 7516192768, 17179869183, 34359738367]), (21, [0, 1, 0, 7, 15, 0, 47, 127, 0, 0, 512, 1536, 3840, 0, 0, 16384, 49152, 122880, 261888, 0, 524288, 1572864, 0, 4194304, 12582912, 33030144, 67108608, 134217727, 268435455]), (22, [0, 0, 3, 0, 0, 16, 48, 0, 128, 384, 0, 1024, 3072, 0, 15360, 0, 0, 65536, 196608, 0, 524288, 1572864, 4194303, 8388607]), (27, [0, 0, 0, 6, 14, 0, 0, 96, 224, 510, 1022, 2047, 4095])]),
  (92, [(4, [0, 0, 3, 7, 0, 0, 48, 15, 255, 511])]),
  (108, [(1, [0, 1, 3, 7, 15, 0, 32, 96, 224, 480, 1023, 2047])]),
  (112, [(7, [0, 0, 3, 0, 0, 31, 0, 0, 192, 511, 1023, 2047, 4095]), (8, [0, 0, 3, 0, 0, 24, 63, 0, 0, 384, 1023, 2047, 4095, 8191])]),
  (113, [(7, [0, 1, 3, 0, 8, 24, 7, 127, 255]), (15, [0, 0, 3, 7, 0, 31, 0, 0, 192, 448, 0, 2047, 0, 4095, 12287, 32767])]),
  (115, [(1, [0, 0, 3, 0, 0, 16, 56, 127, 255])]),
  (122, [(17, [0, 1, 3, 7, 7, 23, 63, 127, 7, 7, 775, 1799, 4095, 8191, 16383])]),
  (124, [(5, [0, 1, 0, 4, 3, 31]), (6, [0, 1, 0, 0, 12, 31, 0, 0, 128, 448, 0, 1024, 0, 4096, 15360, 32704, 65535, 0, 262143, 0, 524288, 1572864, 4194303, 8388607]), (7, [0, 0, 3, 0, 0, 16, 56, 0, 0, 256, 896, 2040, 0, 4096, 0, 16384, 61440, 131064, 262143, 524287]), (8, [0, 0, 3]), (14, [0, 0, 1, 7, 15, 0, 32, 96, 255, 1, 1023, 2047])]),
  (131, [(1, [0, 0, 2, 7, 15, 31])]),
  (133, [(4, [0, 0, 3, 7, 15, 15, 63, 127, 15, 15, 527, 1807, 3855, 8191, 16383]), (6, [0, 0, 0, 0, 8, 0, 0, 64, 224, 480, 0, 0, 3072, 7168, 16355, 32739, 65535, 131071])]),
  (134, [(10, [0, 0, 0, 0, 0, 24, 0, 0, 0, 384, 960, 1984, 0, 0, 12288, 28672, 65475, 131011, 262143, 524287])]),
  (135, [(10, [0, 0, 0, 0, 0, 24, 0, 0, 0, 384, 960, 1984, 0, 0, 12288, 28672, 65475, 131011, 262143, 524287])]),
  (137, [(3, [0, 0, 0, 0, 0, 0, 48, 112, 0, 0, 768, 1792, 4083, 8179, 16383, 32767])]),
  (138, [(5, [0, 0, 3, 7, 15, 15, 63, 127, 15, 15, 527, 1807, 3855, 8191, 16383, 32767]), (11, [0, 0, 0, 0, 8, 0, 0, 64, 224, 480, 0, 0, 3072, 7168, 16355, 32739, 65535, 131071]), (16, [0, 0, 3, 7, 0, 0, 32, 112, 240, 511, 1023]), (17, [0, 0, 0, 0, 8, 0, 0, 64, 224, 480, 0, 0, 3072, 7168, 16355, 32739, 65535, 131071]), (22, [0, 0, 3, 7, 0, 0, 32, 112, 240, 511, 1023]), (23, [0, 0, 0, 0, 8, 0, 0, 64, 224, 480, 0, 0, 3072, 7168, 16355, 32739, 65535, 131071])]),
  (140, [(1, [0, 0, 0, 0, 0, 0, 48, 112, 0, 0, 768, 1792, 4083, 8179, 16383, 32767]), (3, [0, 0, 3, 7, 15, 15, 63, 127, 15, 15, 783, 1807, 4095, 8191, 16383]), (5, [0, 0, 3, 7, 15, 15, 63, 127, 15, 15, 783, 1807, 4095, 8191]), (8, [0, 0, 0, 0, 0, 0, 48, 112, 0, 0, 768, 1792, 4083, 8179, 16383, 32767])]),
  (141, [(1, [0, 0, 0, 0, 0, 0, 48, 112, 0, 0, 768, 1792, 4083, 8179, 16383, 32767]), (3, [0, 0, 3, 7, 15, 15, 63, 127, 15, 15, 783, 1807, 4095, 8191]), (5, [0, 0, 3, 7, 15, 15, 63, 127, 15, 15, 783, 1807, 4095, 8191, 16383]), (8, [0, 0, 0, 0, 0, 0, 48, 112, 0, 0, 768, 1792, 4083, 8179, 16383, 32767]), (10, [0, 0, 0, 0, 0, 0, 48, 112, 0, 0, 768, 1792, 4083, 8179, 16383, 32767]), (13, [0, 0, 3, 7, 15, 15, 63, 127, 15, 15, 783, 1807, 4095, 8191]), (15, [0, 0, 3, 7, 15, 15, 63, 127, 15, 15, 783, 1807, 4095, 8191, 16383]), (18, [0, 0, 0, 0, 0, 0, 48, 112, 0, 0, 768, 1792, 4083, 8179, 16383, 32767]), (21, [0, 0, 0, 0, 0, 0, 48, 112, 0, 0, 768, 1792, 4083, 8179, 16383, 32767])]),
  (142, [(3, [0, 0, 0, 6, 14, 31, 63])]),
  (143, [(4, [0, 0, 0, 4, 14, 30, 62, 126, 0, 0, 512, 1536, 3840, 7936, 16128, 32512, 65534, 0, 0, 262144, 786432, 1966080, 4063232, 8257536, 16646144, 33554430, 0, 0, 134217728, 402653184, 1006632960, 2080374784, 4227858432, 8589934590, 17179869183, 34359738367]), (9, [0, 1, 3, 7, 0, 16, 48, 112, 15, 511]), (10, [0, 0, 2, 6, 14, 0, 0, 96, 0, 256, 992, 2046, 0, 4096, 12288, 28672, 65534, 0, 0, 393440, 0, 1048576, 4063456, 8388606, 16777215, 33554431])]),
  (147, [(3, [0, 1, 3, 7, 15, 0, 32, 96, 224, 480, 1023, 0, 4095])]),
  (148, [(3, [0, 1, 0, 7, 15, 31, 31, 31, 223, 511, 1023, 31, 31, 31, 12319, 28703, 63519, 129055, 262143, 524287]), (5, [0, 0, 0, 6, 15, 31, 0, 0, 0, 384, 960, 1984, 4095, 8191]), (6, [0, 0, 0, 6, 0, 0, 0, 96, 0, 0, 0, 1536, 3840, 7936, 0, 0, 0, 98304, 245760, 507904, 1048335, 2096911, 4194303, 8388607])]),
  (150, [(1, [0, 1, 3, 0, 8, 24, 56, 127, 255, 511]), (2, [0, 1, 3, 0, 8, 24, 56, 127, 255, 511]), (3, [0, 1, 3, 0, 8, 24, 56, 127, 255, 511])]),
  (156, [(0, [0, 1, 3, 7, 15, 31, 0, 127, 255, 0, 512, 1536, 3584, 7680, 16383, 32767])]),
  (157, [(1, [0, 0, 3, 7, 0, 0, 48, 112, 255])])]
def befoOf (f id : Nat) : List Nat := ((befoTab.lookup f).bind (·.lookup id)).getD []
@[simp] theorem bf_3_16 : befoOf 3 16 = [0, 0, 3, 7, 0, 16, 48, 112, 255, 511] := rfl
@[simp] theorem bf_3_33 : befoOf 3 33 = [0, 0, 0, 0, 0, 24, 56, 120, 0, 504, 1023, 2047, 4095, 4095, 0, 24575, 65535] := rfl
@[simp] theorem bf_3_39 : befoOf 3 39 = [0, 0, 0, 6, 0, 16, 62, 0, 0, 384, 0, 0, 3072, 8190, 16383, 32767] := rfl
@[simp] theorem bf_3_49 : befoOf 3 49 = [0, 0, 0, 6, 14, 0, 0, 96, 224, 511, 0, 0, 0, 6144, 14336, 0, 0, 98304, 229376, 524287, 1048575] := rfl
@[simp] theorem bf_3_51 : befoOf 3 51 = [0, 0, 0, 6, 14, 31, 0, 0, 0, 384, 896, 2047, 4095, 8191, 16383, 16383, 16383, 114687, 245759, 524287, 16383, 16383, 16383, 6307839, 14696447, 33554431, 67108863, 134217727] := rfl
@[simp] theorem bf_4_8 : befoOf 4 8 = [0, 0, 0, 0, 0, 24, 63, 127, 255, 255, 0, 1535, 4095] := rfl
@[simp] theorem bf_4_9 : befoOf 4 9 = [0, 1, 3, 7, 7, 31, 63, 127, 255, 511, 1023, 2047, 511, 511, 12799, 29183, 65535, 131071] := rfl
@[simp] theorem bf_4_14 : befoOf 4 14 = [0, 1, 0, 7, 15, 31, 63, 127, 255, 511, 255, 2047, 4095, 8191, 255, 32767, 65535, 131071, 262143, 524287, 262143, 2097151, 4194303, 8388607, 262143, 17039359, 262143, 67371007, 262143, 470024191, 1006895103, 2080636927, 4278452223, 8573419519, 17179869183, 34359738367] := rfl
@[simp] theorem bf_4_17 : befoOf 4 17 = [0, 0, 0, 0, 0, 24, 63, 127, 255, 255, 0, 1535, 4095] := rfl
@[simp] theorem bf_4_21 : befoOf 4 21 = [0, 1, 0, 0, 8, 28, 63, 0, 255] := rfl
@[simp] theorem bf_4_22 : befoOf 4 22 = [0, 1, 0, 0, 8, 28, 63, 0, 255] := rfl
@[simp] theorem bf_4_27 : befoOf 4 27 = [0, 1, 0, 0, 8, 0, 56, 120, 248, 0, 1016, 2047, 4095, 8191] := rfl
@[simp] theorem bf_4_39 : befoOf 4 39 = [0, 1, 0, 4, 0, 16, 60, 124, 255, 511, 1023, 1023, 3071, 1023, 15359, 31743, 65535, 131071, 262143] := rfl
@[simp] theorem bf_5_27 : befoOf 5 27 = [0, 1, 0, 7, 15, 0, 32, 0, 224, 480, 1023] := rfl
@[simp] theorem bf_5_29 : befoOf 5 29 = [0, 0, 2, 0, 14, 30, 63, 0, 128, 0, 896, 2047, 4095, 8191] := rfl
@[simp] theorem bf_6_8 : befoOf 6 8 = [0, 0, 0, 0, 8, 0, 56, 127, 255, 511, 511, 0, 3071, 8191] := rfl
@[simp] theorem bf_6_9 : befoOf 6 9 = [0, 0, 0, 0, 8, 0, 56, 127, 255, 511, 511, 0, 3071, 8191] := rfl
@[simp] theorem bf_6_16 : befoOf 6 16 = [0, 1, 3, 7, 0, 16, 0, 64, 199, 455, 1015, 2047, 0, 4096, 13255, 29639, 0, 65536, 0, 262144, 816071, 1864647, 4158407, 8385479, 16777215, 33554431] := rfl
@[simp] theorem bf_6_22 : befoOf 6 22 = [0, 1, 3, 7, 15, 31, 15, 127, 255, 511, 1023, 2047, 1023, 5119, 1023, 17407, 62463, 127999, 262143, 524287, 1048575, 1048575, 3145727, 1048575, 15728639, 32505855, 67108863, 134217727, 268435455, 536870911] := rfl
@[simp] theorem bf_7_13 : befoOf 7 13 = [0, 1, 3, 7, 15, 31, 63, 127, 127, 127, 1023, 127, 127, 127, 16383, 32767, 65535] := rfl
@[simp] theorem bf_7_22 : befoOf 7 22 = [0, 1, 3, 3, 15, 31, 3, 3, 195, 451, 1023, 2047, 4095, 8191, 4095, 4095, 53247, 118783, 262143, 524287, 4095, 1052671, 4095, 4095, 12587007, 29364223, 66064383, 133173247, 268435455, 536870911, 1073741823, 2147483647] := rfl
@[simp] theorem bf_7_25 : befoOf 7 25 = [0, 0, 3, 7, 15, 31, 15, 127, 15, 271, 15, 1807, 4095, 8191] := rfl
@[simp] theorem bf_7_27 : befoOf 7 27 = [0, 0, 0, 7, 15, 31, 63, 31, 255, 511, 31, 1055, 31, 7199, 16383, 32767, 65535, 131071] := rfl
@[simp] theorem bf_8_10 : befoOf 8 10 = [0, 1, 3, 7, 7, 31, 63, 127, 255, 511, 1023, 511, 4095, 8191, 16383, 32767, 65535, 32767, 163839, 524287, 1048575, 2097151, 4194303, 4194303, 16777215, 4194303, 37748735, 4194303, 138412031, 507510783, 1073741823, 2147483647] := rfl
@[simp] theorem bf_8_12 : befoOf 8 12 = [0, 1, 0, 4, 0, 31, 63, 127, 127, 0, 767, 2047] := rfl
@[simp] theorem bf_8_14 : befoOf 8 14 = [0, 1, 3, 3, 11, 31, 63, 127, 255, 511, 1023, 255, 2303, 255, 14591, 32767, 255, 65791, 197631, 459775, 255, 1048831, 255, 4194559, 13042687, 29819903, 66520063, 134153215, 268435455, 536870911, 1073741823] := rfl
@[simp] theorem bf_9_12 : befoOf 9 12 = [0, 0, 3, 7, 0, 16, 48, 112, 255, 511] := rfl
@[simp] theorem bf_9_13 : befoOf 9 13 = [0, 0, 0, 0, 0, 24, 56, 0, 248, 511, 1023, 2047, 2047, 0, 12287, 32767] := rfl
@[simp] theorem bf_9_43 : befoOf 9 43 = [0, 1, 3, 7, 7, 23, 55, 127, 255, 511, 1023, 2047, 4095, 8191, 16383, 32767, 65535, 65535, 262143, 524287, 1048575, 65535, 2162687, 65535, 14745599, 31522815, 67108863, 134217727, 268435455, 536870911, 536870911, 2147483647, 4294967295, 8589934591, 17179869183, 34359738367, 68719476735, 137438953471, 274877906943, 549755813887, 1099511627775, 2199023255551, 2199023255551, 2199023255551, 10995116277759, 32985348833279, 68169720922111, 138538465099775, 281474976710655, 562949953421311, 1125899906842623] := rfl
@[simp] theorem bf_10_5 : befoOf 10 5 = [0, 0, 0, 0, 14, 0, 62, 127, 255] := rfl
@[simp] theorem bf_10_16 : befoOf 10 16 = [0, 1, 0, 7, 15, 31, 63, 63, 255, 511, 1023, 2047, 2047, 8191, 16383, 32767] := rfl
@[simp] theorem bf_10_18 : befoOf 10 18 = [0, 0, 3, 0, 8, 0, 56, 120, 0, 0, 512, 1536, 3584, 8056, 0, 16384, 49152, 130936, 262143, 524287, 0] := rfl
@[simp] theorem bf_10_42 : befoOf 10 42 = [0, 0, 3, 7, 15, 0, 32, 0, 255, 511, 1023, 1023, 0, 6143, 16383] := rfl
@[simp] theorem bf_10_43 : befoOf 10 43 = [0, 0, 3, 7, 0, 16, 63, 127, 0] := rfl
@[simp] theorem bf_10_49 : befoOf 10 49 = [0, 0, 3, 0, 0, 31, 63] := rfl
@[simp] theorem bf_10_57 : befoOf 10 57 = [0, 0, 3, 7, 0, 0, 48, 112, 0, 496, 1023, 2047, 0] := rfl
@[simp] theorem bf_10_60 : befoOf 10 60 = [0, 0, 0, 0, 12, 28, 0, 127, 0, 0, 0, 0, 3072, 7168, 0, 32767, 65535] := rfl
@[simp] theorem bf_11_12 : befoOf 11 12 = [0, 0, 0, 6, 14, 30, 63, 127, 255, 255, 0, 1535, 4095] := rfl
@[simp] theorem bf_11_17 : befoOf 11 17 = [0, 1, 0, 4, 15, 31, 63, 127, 255, 63, 575, 1599, 3647, 8191, 16383, 32767, 65535, 131071, 65535, 327679, 851967, 2097151, 65535, 4259839, 16777215, 33554431, 67108863, 134217727, 268435455, 536870911, 268435455, 1342177279, 3489660927, 8589934591, 17179869183, 268435455, 268435455, 103347650559, 240786604031, 515664510975, 1099511627775, 2199023255551] := rfl
@[simp] theorem bf_12_15 : befoOf 12 15 = [0, 1, 0, 4, 12, 28, 0, 64, 192, 448, 960, 1984, 4092, 8191, 0, 32767] := rfl
@[simp] theorem bf_12_26 : befoOf 12 26 = [0, 1, 3, 7, 15, 31, 63, 127, 255, 255, 1023, 2047, 4095, 8191, 16383, 16383, 49151, 131071, 262143, 524287, 1048575, 1048575, 3145727, 8388607, 16777215, 33554431, 67108863, 134217727, 268435455, 536870911, 1073741823, 2147483647, 4294967295, 8589934591, 17179869183, 34359738367] := rfl
@[simp] theorem bf_13_5 : befoOf 13 5 = [0, 1, 0, 0, 12, 28, 60, 124, 255, 511, 1023] := rfl
@[simp] theorem bf_14_1 : befoOf 14 1 = [0, 1, 0, 0, 8, 0, 0, 64, 192, 448, 992, 2040, 4092, 8191, 0, 32767] := rfl
@[simp] theorem bf_14_5 : befoOf 14 5 = [0, 1, 0, 0, 12, 28, 60, 124, 255, 511, 1023] := rfl
@[simp] theorem bf_18_11 : befoOf 18 11 = [0, 1, 0, 0, 8, 0, 56, 120, 0, 508, 1020, 2047, 4095, 8191] := rfl
@[simp] theorem bf_19_8 : befoOf 19 8 = [0, 0, 3, 7, 0, 16, 63, 127, 255, 511, 1023, 2047, 4095, 4095, 16383, 32767, 4095, 4095, 135167, 462847, 987135, 2097151, 4194303, 8388607] := rfl
@[simp] theorem bf_19_10 : befoOf 19 10 = [0, 1, 0, 7, 0, 0, 48, 112, 255, 511, 1023, 1023, 2047, 8191] := rfl
@[simp] theorem bf_19_11 : befoOf 19 11 = [0, 1, 0, 0, 12, 28, 0, 64, 0, 0, 768, 1792, 4032, 8128, 0, 32764, 65532, 131071, 262143, 524287] := rfl
@[simp] theorem bf_21_1 : befoOf 21 1 = [0, 1, 0, 0, 8, 28, 63, 0, 255] := rfl
@[simp] theorem bf_21_17 : befoOf 21 17 = [0, 1, 0, 0, 8, 24, 60, 0, 252, 511, 1023, 2047] := rfl
@[simp] theorem bf_21_19 : befoOf 21 19 = [0, 1, 0, 0, 8, 24, 60, 0, 255, 511, 1023] := rfl
@[simp] theorem bf_21_7 : befoOf 21 7 = [0, 1, 0, 0, 8, 0, 56, 120, 248, 504, 1023, 2047, 4095] := rfl
@[simp] theorem bf_21_20 : befoOf 21 20 = [0, 0, 2, 0, 8, 30, 62, 126, 254, 126, 638, 2046, 4094, 8190, 4095, 32767] := rfl
@[simp] theorem bf_24_6 : befoOf 24 6 = [0, 1, 3, 7, 15, 7, 39, 127, 255, 511, 7, 1031, 4095, 8191, 16383] := rfl
@[simp] theorem bf_25_7 : befoOf 25 7 = [0, 1, 3, 7, 15, 31, 63, 127, 255, 511, 255, 1279, 255, 4351, 15615, 31999, 64767, 131071, 262143, 524287, 1048575, 2097151, 4194303, 8388607, 2097151, 18874367, 52428799, 2097151, 136314879, 2097151, 538968063, 2097151, 2149580799, 8589934591, 17179869183, 34359738367] := rfl
@[simp] theorem bf_26_7 : befoOf 26 7 = [0, 0, 3, 7, 0, 0, 48, 112, 255] := rfl
@[simp] theorem bf_27_6 : befoOf 27 6 = [0, 0, 0, 6, 14, 31, 63, 127, 255, 255, 1023, 2047, 4095, 8191, 255, 16639, 49407, 114943, 246015, 524287, 1048575] := rfl
@[simp] theorem bf_27_14 : befoOf 27 14 = [0, 0, 3, 7, 0, 0, 48, 112, 255] := rfl
@[simp] theorem bf_28_6 : befoOf 28 6 = [0, 0, 3, 7, 15, 0, 0, 96, 224, 480, 1023, 2047, 4095, 4095, 16383, 32767, 65535, 4095, 4095, 397311, 921599, 1970175, 4194303, 8388607, 16777215, 33554431, 33554431, 134217727, 268435455, 536870911, 33554431, 33554431, 3254779903, 7549747199, 16139681791, 34359738367, 68719476735, 137438953471] := rfl
@[simp] theorem bf_29_6 : befoOf 29 6 = [0, 0, 3, 0, 0, 16, 56, 127, 255] := rfl
@[simp] theorem bf_30_7 : befoOf 30 7 = [0, 0, 2, 0, 0, 24, 56, 126, 254, 511, 0, 0, 0, 6144, 14336, 32767, 65535, 131071] := rfl
@[simp] theorem bf_30_9 : befoOf 30 9 = [0, 0, 0, 6, 14, 30, 0, 126, 254, 511, 0, 0, 3072, 7168, 0, 32767, 65535, 131071] := rfl
@[simp] theorem bf_31_13 : befoOf 31 13 = [0, 0, 3, 7, 0, 0, 48, 112, 255, 511, 1023, 1023, 1023, 7167, 15359, 32767, 65535] := rfl
@[simp] theorem bf_32_6 : befoOf 32 6 = [0, 0, 3, 7, 0, 0, 48, 127, 255, 511] := rfl
@[simp] theorem bf_32_7 : befoOf 32 7 = [0, 0, 0, 6, 14, 30, 0, 0, 192, 478, 1022, 2046, 4095, 8191] := rfl
@[simp] theorem bf_33_3 : befoOf 33 3 = [0, 1, 0, 0, 8, 0, 56, 120, 255, 0, 1023] := rfl
@[simp] theorem bf_36_5 : befoOf 36 5 = [0, 1, 3, 0, 8, 24, 0, 71, 255] := rfl
@[simp] theorem bf_39_6 : befoOf 39 6 = [0, 0, 3, 7, 0, 0, 48, 112, 255] := rfl
@[simp] theorem bf_40_2 : befoOf 40 2 = [0, 1, 3, 7, 15, 31, 63, 127, 63, 63, 831, 2047, 4095, 8191] := rfl
@[simp] theorem bf_41_5 : befoOf 41 5 = [0, 1, 0, 4, 0, 28, 60, 0, 128, 0, 896, 1920, 3968, 8064, 16380, 32764, 65535, 131071, 262143] := rfl
@[simp] theorem bf_42_1 : befoOf 42 1 = [0, 1, 0, 4, 12, 0, 32, 124, 255, 0, 1023] := rfl
@[simp] theorem bf_43_1 : befoOf 43 1 = [0, 1, 0, 0, 8, 28, 0, 64, 252, 511, 0, 2047] := rfl
@[simp] theorem bf_47_3 : befoOf 47 3 = [0, 1, 0, 0, 8, 0, 56, 120, 255, 0, 1023] := rfl
@[simp] theorem bf_49_3 : befoOf 49 3 = [0, 1, 0, 0, 12, 31, 63] := rfl
@[simp] theorem bf_51_2 : befoOf 51 2 = [0, 1, 3, 7, 15, 31, 0, 64, 192, 448, 960, 1984, 0, 4096, 16320, 32767, 65535] := rfl
@[simp] theorem bf_52_3 : befoOf 52 3 = [0, 0, 2, 6, 14, 14, 62, 126, 254, 510, 1022, 2046, 510, 4606, 16382, 32766, 511, 131071] := rfl
@[simp] theorem bf_54_6 : befoOf 54 6 = [0, 0, 3, 0, 0, 24, 7, 127] := rfl
@[simp] theorem bf_57_11 : befoOf 57 11 = [0, 0, 0, 6, 14, 30, 62, 0, 0, 384, 896, 1920, 3968, 0, 0, 24576, 57344, 122880, 253952, 0, 0, 1572864, 3670016, 7864320, 16777214, 33554431, 67108863] := rfl
@[simp] theorem bf_59_11 : befoOf 59 11 = [0, 1, 0, 7, 15, 31, 0, 64, 0, 448, 960, 1984, 4095, 8191, 16383, 32767, 16383, 131071, 262143, 524287, 16383, 1064959, 16383, 7356415, 15745023, 32522239, 67108863, 134217727] := rfl
@[simp] theorem bf_62_1 : befoOf 62 1 = [0, 0, 3, 7, 15, 31, 63, 127, 31, 287, 799, 1823, 3871, 8191, 16383, 32767] := rfl
@[simp] theorem bf_72_6 : befoOf 72 6 = [0, 0, 3, 7, 0, 0, 48, 127, 255, 511] := rfl
@[simp] theorem bf_74_8 : befoOf 74 8 = [0, 1, 3, 7, 7, 23, 63, 127, 7, 7, 519, 1799, 3847, 8191, 16383] := rfl
@[simp] theorem bf_74_10 : befoOf 74 10 = [0, 0, 2, 7, 0, 0, 32, 112, 240, 0, 0, 1024, 3584, 7680, 16368, 32752, 65535, 131071] := rfl
@[simp] theorem bf_74_11 : befoOf 74 11 = [0, 0, 2, 7, 0, 0, 32, 112, 240, 496, 1008, 2047, 4095] := rfl
@[simp] theorem bf_76_9 : befoOf 76 9 = [0, 0, 3, 0, 0, 24, 7, 127] := rfl
@[simp] theorem bf_77_23 : befoOf 77 23 = [0, 1, 3, 0, 8, 24, 7, 127, 255] := rfl
@[simp] theorem bf_86_3 : befoOf 86 3 = [0, 0, 0, 0, 0, 0, 48, 112, 0, 0, 768, 1792, 4083, 8179, 16383, 32767] := rfl
@[simp] theorem bf_88_5 : befoOf 88 5 = [0, 0, 0, 4, 14, 30, 62, 126, 0, 0, 512, 1536, 3840, 7936, 16128, 32512, 65534, 0, 0, 262144, 786432, 1966080, 4063232, 8257536, 16646144, 33554430, 0, 0, 134217728, 402653184, 1006632960, 2080374784, 4227858432, 8589934590, 17179869182, 34359738367, 68719476735] := rfl
@[simp] theorem bf_88_9 : befoOf 88 9 = [0, 0, 2, 7, 15, 31, 0, 0, 128, 448, 960, 2047, 4095, 0, 0, 16384, 57344, 122880, 253952, 524287, 1048575] := rfl
@[simp] theorem bf_88_10 : befoOf 88 10 = [0, 0, 2, 7, 15, 31, 0, 0, 128, 448, 960, 2047, 4095, 0, 0, 16384, 57344, 122880, 253952, 524287, 1048575] := rfl
@[simp] theorem bf_88_11 : befoOf 88 11 = [0, 0, 0, 4, 14, 30, 0, 126, 0, 0, 512, 1792, 3840, 8190, 0, 32766, 65534, 131071, 262143] := rfl
@[simp] theorem bf_88_20 : befoOf 88 20 = [0, 1, 3, 0, 8, 0, 56, 120, 0, 376, 1016, 2047, 0, 0, 8192, 24576, 61440, 0, 131072, 0, 524288, 1572864, 4063232, 8384512, 16777215, 0, 0, 100663296, 234881024, 536870911, 0, 0, 3221225472, 7516192768, 17179869183, 34359738367] := rfl
@[simp] theorem bf_88_21 : befoOf 88 21 = [0, 1, 0, 7, 15, 0, 47, 127, 0, 0, 512, 1536, 3840, 0, 0, 16384, 49152, 122880, 261888, 0, 524288, 1572864, 0, 4194304, 12582912, 33030144, 67108608, 134217727, 268435455] := rfl
@[simp] theorem bf_88_22 : befoOf 88 22 = [0, 0, 3, 0, 0, 16, 48, 0, 128, 384, 0, 1024, 3072, 0, 15360, 0, 0, 65536, 196608, 0, 524288, 1572864, 4194303, 8388607] := rfl
@[simp] theorem bf_88_27 : befoOf 88 27 = [0, 0, 0, 6, 14, 0, 0, 96, 224, 510, 1022, 2047, 4095] := rfl
@[simp] theorem bf_92_4 : befoOf 92 4 = [0, 0, 3, 7, 0, 0, 48, 15, 255, 511] := rfl
@[simp] theorem bf_108_1 : befoOf 108 1 = [0, 1, 3, 7, 15, 0, 32, 96, 224, 480, 1023, 2047] := rfl
@[simp] theorem bf_112_7 : befoOf 112 7 = [0, 0, 3, 0, 0, 31, 0, 0, 192, 511, 1023, 2047, 4095] := rfl
@[simp] theorem bf_112_8 : befoOf 112 8 = [0, 0, 3, 0, 0, 24, 63, 0, 0, 384, 1023, 2047, 4095, 8191] := rfl
@[simp] theorem bf_113_7 : befoOf 113 7 = [0, 1, 3, 0, 8, 24, 7, 127, 255] := rfl
@[simp] theorem bf_113_15 : befoOf 113 15 = [0, 0, 3, 7, 0, 31, 0, 0, 192, 448, 0, 2047, 0, 4095, 12287, 32767] := rfl
@[simp] theorem bf_115_1 : befoOf 115 1 = [0, 0, 3, 0, 0, 16, 56, 127, 255] := rfl
@[simp] theorem bf_122_17 : befoOf 122 17 = [0, 1, 3, 7, 7, 23, 63, 127, 7, 7, 775, 1799, 4095, 8191, 16383] := rfl
@[simp] theorem bf_124_5 : befoOf 124 5 = [0, 1, 0, 4, 3, 31] := rfl
@[simp] theorem bf_124_6 : befoOf 124 6 = [0, 1, 0, 0, 12, 31, 0, 0, 128, 448, 0, 1024, 0, 4096, 15360, 32704, 65535, 0, 262143, 0, 524288, 1572864, 4194303, 8388607] := rfl
@[simp] theorem bf_124_7 : befoOf 124 7 = [0, 0, 3, 0, 0, 16, 56, 0, 0, 256, 896, 2040, 0, 4096, 0, 16384, 61440, 131064, 262143, 524287] := rfl
@[simp] theorem bf_124_8 : befoOf 124 8 = [0, 0, 3] := rfl
@[simp] theorem bf_124_14 : befoOf 124 14 = [0, 0, 1, 7, 15, 0, 32, 96, 255, 1, 1023, 2047] := rfl
@[simp] theorem bf_131_1 : befoOf 131 1 = [0, 0, 2, 7, 15, 31] := rfl
@[simp] theorem bf_133_4 : befoOf 133 4 = [0, 0, 3, 7, 15, 15, 63, 127, 15, 15, 527, 1807, 3855, 8191, 16383] := rfl
@[simp] theorem bf_133_6 : befoOf 133 6 = [0, 0, 0, 0, 8, 0, 0, 64, 224, 480, 0, 0, 3072, 7168, 16355, 32739, 65535, 131071] := rfl
@[simp] theorem bf_134_10 : befoOf 134 10 = [0, 0, 0, 0, 0, 24, 0, 0, 0, 384, 960, 1984, 0, 0, 12288, 28672, 65475, 131011, 262143, 524287] := rfl
@[simp] theorem bf_135_10 : befoOf 135 10 = [0, 0, 0, 0, 0, 24, 0, 0, 0, 384, 960, 1984, 0, 0, 12288, 28672, 65475, 131011, 262143, 524287] := rfl
@[simp] theorem bf_137_3 : befoOf 137 3 = [0, 0, 0, 0, 0, 0, 48, 112, 0, 0, 768, 1792, 4083, 8179, 16383, 32767] := rfl
@[simp] theorem bf_138_5 : befoOf 138 5 = [0, 0, 3, 7, 15, 15, 63, 127, 15, 15, 527, 1807, 3855, 8191, 16383, 32767] := rfl
@[simp] theorem bf_138_11 : befoOf 138 11 = [0, 0, 0, 0, 8, 0, 0, 64, 224, 480, 0, 0, 3072, 7168, 16355, 32739, 65535, 131071] := rfl
@[simp] theorem bf_138_16 : befoOf 138 16 = [0, 0, 3, 7, 0, 0, 32, 112, 240, 511, 1023] := rfl
@[simp] theorem bf_138_17 : befoOf 138 17 = [0, 0, 0, 0, 8, 0, 0, 64, 224, 480, 0, 0, 3072, 7168, 16355, 32739, 65535, 131071] := rfl
@[simp] theorem bf_138_22 : befoOf 138 22 = [0, 0, 3, 7, 0, 0, 32, 112, 240, 511, 1023] := rfl
@[simp] theorem bf_138_23 : befoOf 138 23 = [0, 0, 0, 0, 8, 0, 0, 64, 224, 480, 0, 0, 3072, 7168, 16355, 32739, 65535, 131071] := rfl
@[simp] theorem bf_140_1 : befoOf 140 1 = [0, 0, 0, 0, 0, 0, 48, 112, 0, 0, 768, 1792, 4083, 8179, 16383, 32767] := rfl
@[simp] theorem bf_140_3 : befoOf 140 3 = [0, 0, 3, 7, 15, 15, 63, 127, 15, 15, 783, 1807, 4095, 8191, 16383] := rfl
@[simp] theorem bf_140_5 : befoOf 140 5 = [0, 0, 3, 7, 15, 15, 63, 127, 15, 15, 783, 1807, 4095, 8191] := rfl
@[simp] theorem bf_140_8 : befoOf 140 8 = [0, 0, 0, 0, 0, 0, 48, 112, 0, 0, 768, 1792, 4083, 8179, 16383, 32767] := rfl
@[simp] theorem bf_141_1 : befoOf 141 1 = [0, 0, 0, 0, 0, 0, 48, 112, 0, 0, 768, 1792, 4083, 8179, 16383, 32767] := rfl
@[simp] theorem bf_141_3 : befoOf 141 3 = [0, 0, 3, 7, 15, 15, 63, 127, 15, 15, 783, 1807, 4095, 8191] := rfl
@[simp] theorem bf_141_5 : befoOf 141 5 = [0, 0, 3, 7, 15, 15, 63, 127, 15, 15, 783, 1807, 4095, 8191, 16383] := rfl
@[simp] theorem bf_141_8 : befoOf 141 8 = [0, 0, 0, 0, 0, 0, 48, 112, 0, 0, 768, 1792, 4083, 8179, 16383, 32767] := rfl
@[simp] theorem bf_141_10 : befoOf 141 10 = [0, 0, 0, 0, 0, 0, 48, 112, 0, 0, 768, 1792, 4083, 8179, 16383, 32767] := rfl
@[simp] theorem bf_141_13 : befoOf 141 13 = [0, 0, 3, 7, 15, 15, 63, 127, 15, 15, 783, 1807, 4095, 8191] := rfl
@[simp] theorem bf_141_15 : befoOf 141 15 = [0, 0, 3, 7, 15, 15, 63, 127, 15, 15, 783, 1807, 4095, 8191, 16383] := rfl
@[simp] theorem bf_141_18 : befoOf 141 18 = [0, 0, 0, 0, 0, 0, 48, 112, 0, 0, 768, 1792, 4083, 8179, 16383, 32767] := rfl
@[simp] theorem bf_141_21 : befoOf 141 21 = [0, 0, 0, 0, 0, 0, 48, 112, 0, 0, 768, 1792, 4083, 8179, 16383, 32767] := rfl
@[simp] theorem bf_142_3 : befoOf 142 3 = [0, 0, 0, 6, 14, 31, 63] := rfl
@[simp] theorem bf_143_4 : befoOf 143 4 = [0, 0, 0, 4, 14, 30, 62, 126, 0, 0, 512, 1536, 3840, 7936, 16128, 32512, 65534, 0, 0, 262144, 786432, 1966080, 4063232, 8257536, 16646144, 33554430, 0, 0, 134217728, 402653184, 1006632960, 2080374784, 4227858432, 8589934590, 17179869183, 34359738367] := rfl
@[simp] theorem bf_143_9 : befoOf 143 9 = [0, 1, 3, 7, 0, 16, 48, 112, 15, 511] := rfl
@[simp] theorem bf_143_10 : befoOf 143 10 = [0, 0, 2, 6, 14, 0, 0, 96, 0, 256, 992, 2046, 0, 4096, 12288, 28672, 65534, 0, 0, 393440, 0, 1048576, 4063456, 8388606, 16777215, 33554431] := rfl
@[simp] theorem bf_147_3 : befoOf 147 3 = [0, 1, 3, 7, 15, 0, 32, 96, 224, 480, 1023, 0, 4095] := rfl
@[simp] theorem bf_148_3 : befoOf 148 3 = [0, 1, 0, 7, 15, 31, 31, 31, 223, 511, 1023, 31, 31, 31, 12319, 28703, 63519, 129055, 262143, 524287] := rfl
@[simp] theorem bf_148_5 : befoOf 148 5 = [0, 0, 0, 6, 15, 31, 0, 0, 0, 384, 960, 1984, 4095, 8191] := rfl
@[simp] theorem bf_148_6 : befoOf 148 6 = [0, 0, 0, 6, 0, 0, 0, 96, 0, 0, 0, 1536, 3840, 7936, 0, 0, 0, 98304, 245760, 507904, 1048335, 2096911, 4194303, 8388607] := rfl
@[simp] theorem bf_150_1 : befoOf 150 1 = [0, 1, 3, 0, 8, 24, 56, 127, 255, 511] := rfl
@[simp] theorem bf_150_2 : befoOf 150 2 = [0, 1, 3, 0, 8, 24, 56, 127, 255, 511] := rfl
@[simp] theorem bf_150_3 : befoOf 150 3 = [0, 1, 3, 0, 8, 24, 56, 127, 255, 511] := rfl
@[simp] theorem bf_156_0 : befoOf 156 0 = [0, 1, 3, 7, 15, 31, 0, 127, 255, 0, 512, 1536, 3584, 7680, 16383, 32767] := rfl
@[simp] theorem bf_157_1 : befoOf 157 1 = [0, 0, 3, 7, 0, 0, 48, 112, 255] := rfl
def deadTab : List (Nat × List (Nat × List Nat)) := [
  (2, [(0, [0])]),
  (3, [(0, [20]), (1, [59]), (2, [60]), (3, [0, 1, 2, 3, 4, 5, 6, 7, 8, 9, 21, 61]), (4, [0, 1, 61, 62, 63, 64]), (5, [3, 65, 66, 67, 68]), (6, [69, 70, 71, 72, 73]), (7, [74, 75, 76]), (8, [77, 78, 79, 80, 81]), (9, [82]), (11, [83, 84, 85, 86, 87, 88, 89, 90, 91, 92, 93, 94, 95]), (12, [97, 98]), (13, [96, 99]), (14, [100, 101, 102, 103, 104]), (15, [105, 106]), (16, [105, 107, 108, 109, 110, 111, 112, 113, 114, 115]), (17, [116, 117]), (19, [121, 122, 123]), (20, [124, 125, 126, 127, 128, 129, 130, 131]), (22, [135, 136, 137]), (23, [138, 139, 140, 141, 142]), (25, [146, 147, 148]), (26, [149, 150, 151, 152, 153, 154, 155, 156]), (27, [34, 157, 158, 159, 160, 161, 162, 163, 164]), (28, [35, 36, 37, 38, 165, 166, 167, 168, 169, 170, 171, 172]), (29, [2, 4, 5, 6, 7, 8, 9, 21, 22, 23, 24, 25, 26, 27, 28, 30, 32, 118, 119, 120, 132, 133, 134, 143, 144, 145, 173]), (30, [173, 174]), (31, [32, 143, 144, 145, 146, 175]), (32, [30, 132, 133, 134, 135, 176]), (33, [27, 28, 40, 118, 119, 120, 121, 177, 178, 179, 180, 181, 182, 183, 184, 185, 186, 187, 188, 189, 190]), (34, [39, 191, 192, 193, 194]), (35, [4, 5, 6, 22, 23, 26, 96, 195, 196]), (36, [197, 198]), (37, [199, 200, 201, 202, 203]), (38, [2, 7, 8, 44, 204, 205, 206, 207, 208, 209, 210, 211, 212, 213, 214]), (39, [25, 42, 43, 215, 216, 217, 218, 219, 220, 221, 222, 223, 224, 225, 226, 227, 228, 229]), (40, [2, 7, 8, 25, 41, 199]), (42, [233, 234, 235]), (44, [236, 237, 238]), (45, [240, 241, 296]), (46, [239]), (47, [242, 243, 244]), (48, [246, 247, 268]), (49, [245, 248, 249, 250, 251, 252, 253, 254, 255, 256, 257, 258, 259, 260, 261, 262, 263, 264, 265, 266, 267]), (50, [9, 21, 24, 46, 47, 48, 230, 231, 232, 268]), (51, [48, 245, 269, 270, 271, 272, 273, 274, 275, 276, 277, 278, 279, 280, 281, 282, 283, 284, 285, 286, 287, 288, 289, 290, 291, 292, 293, 294, 295]), (52, [9, 21, 24, 46, 47, 230, 231, 232, 296]), (53, [47, 239, 297, 298]), (55, [302, 303, 304]), (56, [305, 306, 307, 308, 309, 310, 311, 312]), (57, [50, 313, 314, 315, 316, 317, 318, 319, 320]), (58, [51, 52, 53, 54, 55, 56, 57, 58, 321, 322, 323, 324, 325, 326, 327, 328, 329, 330, 331, 332, 333, 334, 335, 336, 337, 338]), (59, [9, 21, 24, 46, 230, 231, 232, 299, 300, 301, 339]), (60, [339, 340]), (61, [46, 299, 300, 301, 302, 341]), (62, [9, 21, 24, 230, 231, 232, 233, 342])]),
  (4, [(0, [14]), (1, [37]), (2, [38]), (3, [0, 1, 2, 3, 4, 5, 6, 15, 39]), (4, [0, 1, 39, 40, 41, 42]), (5, [3, 43, 44, 45, 46]), (6, [47, 48, 49]), (7, [50, 51, 52, 53, 54, 55]), (8, [56, 57, 58, 59, 60, 61, 62, 63, 64, 65]), (9, [21, 66, 67, 68, 69, 70, 71, 72, 73, 74, 75, 76, 77, 78, 79, 80, 81, 82]), (10, [2, 4, 5, 6, 15, 16, 17, 18, 19, 20, 83]), (11, [83]), (12, [84, 85, 86, 87]), (13, [89, 90, 126]), (14, [88, 91, 92, 93, 94, 95, 96, 97, 98, 99, 100, 101, 102, 103, 104, 105, 106, 107, 108, 109, 110, 111, 112, 113, 114, 115, 116, 117, 118, 119, 120, 121, 122, 123, 124, 125]), (15, [2, 4, 5, 6, 15, 16, 17, 18, 19, 20, 22, 126]), (16, [22, 88, 127, 128, 129, 130, 131, 132]), (17, [5, 17, 23, 133, 134, 135, 136, 137, 138, 139, 140, 141, 142]), (18, [25, 143]), (19, [2, 4, 6, 15, 16, 18, 19, 20, 24, 144]), (20, [2, 4, 27, 144, 145, 146, 147, 148, 149, 150, 151, 152]), (21, [26, 153, 154, 155, 156, 157, 158, 159]), (22, [20, 24, 160, 161, 162, 163, 164, 165, 166]), (24, [167, 168, 169, 170]), (25, [172, 173, 176]), (26, [171, 174, 175]), (27, [176, 177, 178, 179, 180, 181, 182, 183, 184, 185, 186, 187, 188, 189]), (28, [6, 28, 29, 30, 171, 190, 191]), (30, [195, 196, 197]), (31, [198, 199, 200]), (32, [201]), (33, [202, 203, 204, 205]), (34, [207, 208, 252]), (35, [206, 209, 210, 211, 212, 213]), (36, [214, 215, 216, 217, 218, 219, 220, 221]), (37, [15, 16, 18, 19, 32, 33, 34, 192, 193, 194, 222]), (38, [36, 222, 223, 224, 225, 226, 227, 228, 229, 230, 231, 232, 233]), (39, [34, 35, 234, 235, 236, 237, 238, 239, 240, 241, 242, 243, 244, 245, 246, 247, 248, 249, 250, 251]), (40, [15, 16, 18, 19, 32, 33, 192, 193, 194, 252]), (41, [32, 33, 201, 206, 253]), (42, [15, 16, 18, 19, 192, 193, 194, 195, 254])]),
  (5, [(0, [14]), (1, [38]), (2, [39]), (3, [0, 1, 2, 3, 4, 5, 6, 15, 40]), (4, [0, 1, 40, 41, 42, 43]), (5, [2, 3, 44, 45, 46, 47]), (6, [48, 49, 50]), (7, [4, 51, 52, 53, 54, 55, 56]), (8, [57, 58, 59, 60, 61, 62, 63]), (9, [64, 65, 66, 67, 68, 69, 70, 71, 72]), (10, [73, 74, 75, 76, 77, 78, 79, 80, 81]), (11, [21, 22, 23, 25, 82, 83, 84, 85, 86, 87, 88, 89, 90, 91, 92, 93, 94, 95, 96, 97, 98]), (12, [5, 6, 15, 16, 17, 18, 19, 20, 24, 99]), (13, [5, 99, 100, 101, 102, 103, 104, 105]), (14, [106, 107, 108, 109, 110, 111, 112]), (15, [28, 113]), (16, [6, 15, 16, 17, 18, 19, 20, 24, 26, 27, 114]), (17, [30, 114, 115, 116, 117, 118, 119, 120, 121, 122, 123]), (18, [6, 24, 29, 124, 125, 126, 127, 128, 129, 130, 131]), (20, [135, 136, 137]), (21, [138, 139, 140, 141, 142]), (22, [143, 144, 145]), (23, [15, 16, 17, 18, 19, 20, 26, 27, 32, 132, 133, 134, 146]), (24, [146]), (25, [147, 148]), (26, [150, 151, 162, 192]), (27, [149, 152, 153, 154, 155, 156, 157, 158, 159, 160, 161]), (28, [35, 36, 162, 163, 164, 165, 166, 167, 168, 169, 170, 171, 172]), (29, [173, 174, 175, 176, 177, 178, 179, 180, 181, 182, 183, 184, 185]), (30, [34, 186, 187, 188]), (31, [37, 189, 190, 191]), (32, [15, 16, 17, 18, 19, 20, 26, 27, 32, 33, 132, 133, 134, 192]), (33, [32, 33, 143, 149, 193]), (34, [15, 16, 17, 18, 19, 20, 26, 27, 132, 133, 134, 135, 194])]),
  (6, [(0, [2, 3, 14]), (1, [30]), (2, [31]), (3, [0, 1, 4, 5, 6, 9, 10, 15, 32]), (4, [0, 1, 32, 33, 34, 35]), (5, [36, 37, 38]), (6, [39, 40, 41, 42, 43, 44, 45]), (7, [9, 46, 47, 48, 49, 50, 51, 52]), (8, [53, 54, 55, 56, 57, 58, 59, 60, 61, 62, 63]), (9, [10, 19, 64, 65, 66, 67, 68, 69, 70, 71, 72, 73, 74]), (10, [21, 22, 23, 75, 76, 77, 78, 79, 80, 81, 82, 83, 84, 85, 86, 87, 88, 89, 90, 91]), (11, [4, 5, 6, 15, 16, 17, 18, 20, 92]), (12, [4, 5, 6, 92, 93, 94, 95, 96, 97, 98, 99, 100]), (13, [25, 101, 102, 103, 104, 105, 106, 107]), (14, [15, 16, 17, 18, 20, 24, 108, 109]), (15, [108, 110, 111, 112, 113]), (16, [15, 16, 17, 18, 20, 24, 114, 115, 116, 117, 118, 119, 120, 121, 122, 123, 124, 125, 126, 127, 128, 129, 130, 131, 132, 133, 134, 135, 136, 137, 138, 139]), (17, [17, 20, 114]), (18, [140, 141, 142, 143]), (19, [145, 146, 192]), (20, [144, 147, 148, 149, 150, 151]), (21, [29, 152, 153, 154, 155, 156, 157, 158, 159, 160, 161, 162]), (22, [27, 28, 163, 164, 165, 166, 167, 168, 169, 170, 171, 172, 173, 174, 175, 176, 177, 178, 179, 180, 181, 182, 183, 184, 185, 186, 187, 188, 189, 190, 191]), (23, [15, 16, 18, 24, 26, 192]), (24, [15, 16, 18, 24, 26, 144, 193])]),
  (7, [(0, [4, 5, 12]), (1, [28]), (2, [29]), (3, [0, 1, 2, 3, 10, 11, 13, 30]), (4, [0, 1, 30, 31, 32, 33]), (5, [2, 3, 34, 35, 36, 37]), (6, [38, 39, 40]), (7, [41, 42, 43, 44, 45, 46, 47]), (8, [10, 48, 49, 50, 51, 52, 53, 54]), (9, [55, 56, 57, 58]), (10, [11, 59, 60, 61, 62]), (11, [63, 64, 65, 66, 67, 68, 69, 70]), (12, [71, 72, 73, 74, 75, 76, 77, 78]), (13, [22, 24, 79, 80, 81, 82, 83, 84, 85, 86, 87, 88, 89, 90, 91, 92, 93, 94]), (14, [13, 14, 15, 16, 17, 18, 19, 20, 21, 23, 95]), (15, [95]), (17, [96, 97, 98]), (18, [27, 100, 101, 105]), (19, [99]), (20, [102, 103, 104]), (21, [106, 107]), (22, [105, 108, 109, 110, 111, 112, 113, 114, 115, 116, 117, 118, 119, 120, 121, 122, 123, 124, 125, 126, 127, 128, 129, 130, 131, 132, 133, 134, 135, 136, 137, 138]), (23, [19, 20, 25, 26, 99, 139, 140, 141, 142, 143, 144, 145]), (24, [13, 14, 15, 16, 17, 18, 21, 23, 146]), (25, [146, 147, 148, 149, 150, 151, 152, 153, 154, 155, 156, 157, 158, 159]), (26, [13, 14, 15, 16, 17, 18, 21, 23, 160, 161]), (27, [13, 14, 15, 16, 17, 18, 21, 23, 160, 162, 163, 164, 165, 166, 167, 168, 169, 170, 171, 172, 173, 174, 175, 176, 177, 178])]),
  (8, [(0, [14]), (1, [26]), (2, [15, 27]), (3, [0, 1, 2, 3, 4, 5, 6, 28]), (4, [0, 1, 28, 29, 30, 31]), (5, [32, 33, 34]), (6, [2, 35, 36, 37, 38, 39, 40]), (7, [41, 42, 43, 44, 45, 46, 47]), (8, [48]), (9, [6, 49, 50, 51, 52, 53, 54]), (10, [16, 18, 20, 21, 55, 56, 57, 58, 59, 60, 61, 62, 63, 64, 65, 66, 67, 68, 69, 70, 71, 72, 73, 74, 75, 76, 77, 78, 79, 80, 81, 82, 83, 84, 85]), (11, [3, 4, 5, 17, 19, 86]), (12, [3, 4, 86, 87, 88, 89, 90, 91, 92, 93, 94, 95]), (13, [96, 97, 98]), (14, [22, 23, 99, 100, 101, 102, 103, 104, 105, 106, 107, 108, 109, 110, 111, 112, 113, 114, 115, 116, 117, 118, 119, 120, 121, 122, 123, 124, 125, 126, 127, 128]), (15, [5, 17, 19, 24, 129]), (16, [5, 129, 130, 131, 132, 133]), (17, [17, 19, 24, 25, 134, 135, 136, 137, 138, 139, 140, 141, 142, 143, 144, 145, 146, 147, 148, 149, 150])]),
  (9, [(0, [10]), (1, [43]), (2, [44]), (3, [0, 1, 2, 3, 4, 11, 45]), (4, [0, 1, 45, 46, 47, 48]), (5, [49, 50, 51]), (10, [52, 53, 54, 55, 56, 57, 58, 59, 60, 61, 62, 63, 64]), (11, [19, 29, 66, 67, 145]), (12, [65, 68, 69, 70, 71, 72, 73, 74, 75, 76]), (13, [18, 77, 78, 79, 80, 81, 82, 83, 84, 85, 86, 87, 88, 89]), (14, [20, 90]), (15, [2, 3, 4, 11, 12, 13, 14, 15, 16, 17, 19, 91]), (16, [91, 92, 93, 94, 95, 96, 97, 98, 99]), (17, [100, 101, 102, 103]), (18, [104, 105, 106, 107, 108, 109, 110, 111]), (19, [21, 22, 23, 24, 25, 26, 27, 28, 112, 113, 114, 115, 116, 117, 118, 119, 120, 121, 122, 123, 124, 125, 126, 127, 128, 129, 130, 131, 132, 133, 134, 135, 136, 137, 138, 139]), (20, [2, 3, 4, 11, 12, 13, 14, 15, 16, 17, 19, 140]), (21, [140]), (22, [141, 142, 143, 144]), (23, [30, 146, 147, 165]), (24, [145, 148, 149, 150, 151, 152, 153]), (25, [154, 155, 156, 157, 158, 159, 160, 161, 162, 163, 164]), (26, [30, 165, 166, 167]), (27, [168, 169]), (28, [2, 3, 17, 65]), (30, [170, 171, 172]), (31, [174, 175]), (32, [173, 176, 177, 178, 179, 180, 181, 182, 183, 184, 185, 186, 187, 188, 189, 190]), (33, [32, 173, 191, 192]), (34, [4, 193, 194, 195, 196, 197, 198, 199, 200, 201, 202, 203]), (35, [4, 14, 193, 204, 205, 206, 207, 208, 209, 210, 211]), (36, [13, 31, 212, 213, 214, 215, 216, 217, 218, 219]), (37, [16, 34, 35, 36, 37, 38, 39, 40, 220, 221, 222, 223, 224, 225, 226, 227, 228, 229, 230, 231, 232, 233, 234, 235, 236, 237, 238, 239, 240, 241, 242, 243, 244, 245, 246, 247, 248, 249, 250, 251, 252]), (38, [11, 12, 15, 33, 253]), (39, [253]), (40, [254, 255, 256]), (41, [258, 259, 315]), (42, [257, 260, 261, 262, 263, 264]), (43, [42, 265, 266, 267, 268, 269, 270, 271, 272, 273, 274, 275, 276, 277, 278, 279, 280, 281, 282, 283, 284, 285, 286, 287, 288, 289, 290, 291, 292, 293, 294, 295, 296, 297, 298, 299, 300, 301, 302, 303, 304, 305, 306, 307, 308, 309, 310, 311, 312, 313, 314]), (44, [11, 12, 15, 33, 41, 315]), (45, [11, 12, 15, 33, 41, 257, 316])]),
  (10, [(0, [4, 20]), (1, [58]), (2, [59]), (3, [0, 1, 2, 3, 5, 6, 7, 8, 9, 14, 21, 60]), (4, [0, 1, 60, 61, 62, 63]), (5, [2, 3, 14, 64, 65, 66, 67, 68, 69, 70, 71]), (6, [72, 73, 74, 75, 76]), (7, [77, 78, 79, 80, 81]), (8, [22, 82, 83, 84]), (11, [23]), (13, [88, 89, 90]), (14, [91, 92, 93, 94, 95, 96]), (15, [97, 98, 99, 100, 101, 102]), (16, [29, 30, 31, 32, 103, 104, 105, 106, 107, 108, 109, 110, 111, 112, 113, 114, 115, 116, 117]), (17, [5, 6, 7, 8, 9, 21, 24, 25, 26, 28, 85, 86, 87, 118]), (18, [118, 119, 120, 121, 122, 123, 124, 125, 126, 127, 128, 129, 130, 131, 132, 133, 134, 135, 136]), (20, [140, 141, 142]), (21, [143, 144]), (23, [148, 149, 150]), (24, [151, 152, 153, 154, 155, 156, 157, 158]), (25, [36, 159, 160, 161, 162, 163, 164, 165, 166]), (26, [37, 38, 40, 167, 168, 169, 170, 171, 172, 173]), (27, [5, 6, 7, 8, 9, 21, 24, 25, 26, 28, 34, 39, 85, 86, 87, 137, 138, 139, 145, 146, 147, 174]), (28, [39, 174, 175, 176, 177, 178]), (29, [179]), (30, [145, 146, 147, 148, 180, 181, 182, 183, 184, 185, 186, 187, 188]), (31, [189, 190, 191, 192, 193, 194, 195, 196, 197]), (32, [41, 42, 44, 198, 199, 200, 201, 202, 203, 204, 205]), (33, [5, 6, 7, 8, 9, 21, 24, 25, 26, 28, 34, 43, 85, 86, 87, 137, 138, 139, 206]), (34, [43, 206, 207, 208, 209, 210]), (35, [34, 46, 211, 212, 213, 214, 215, 216, 217, 218]), (36, [45, 219, 220, 221, 222]), (37, [223]), (38, [28, 137, 138, 139, 140, 224]), (39, [5, 6, 85, 86, 87, 88]), (40, [225, 226, 227]), (41, [54, 229, 230, 275]), (42, [49, 228, 231, 232, 233, 234, 235, 236, 237, 238, 239, 240, 241, 242]), (43, [48, 243, 244, 245, 246, 247, 248]), (45, [252, 253, 254]), (46, [255, 256]), (48, [260, 261, 262]), (49, [53, 263, 264, 265, 266, 267, 268]), (50, [7, 8, 9, 21, 24, 25, 26, 47, 51, 249, 250, 251, 257, 258, 259, 269]), (51, [269, 270]), (52, [51, 257, 258, 259, 260, 271]), (53, [249, 250, 251, 252]), (54, [272, 273, 274]), (55, [55, 276, 277, 299, 300, 301, 302]), (56, [275, 278, 279, 280, 281, 282, 283, 284, 285, 286, 287, 288]), (57, [289, 290, 291, 292, 293, 294, 295, 296, 297, 298]), (59, [302, 303, 304]), (60, [57, 305, 306, 307, 308, 309, 310, 311, 312, 313, 314, 315, 316, 317, 318, 319, 320]), (61, [7, 8, 9, 21, 24, 25, 26, 47, 54, 55, 299, 300, 301, 321]), (62, [321, 322]), (63, [7, 8, 9, 21, 24, 25, 26, 47, 228, 323])]),
  (11, [(0, [8]), (1, [21]), (2, [9, 22]), (3, [0, 1, 2, 3, 23]), (4, [0, 1, 23, 24, 25, 26]), (5, [27, 28, 29]), (6, [3, 30, 31, 32, 33, 34, 35]), (7, [36, 37, 38, 39, 40, 41, 42]), (8, [10, 43]), (10, [44, 45, 46, 47, 48, 49, 50]), (11, [52, 53]), (12, [51, 54, 55, 56, 57, 58, 59, 60, 61, 62, 63]), (13, [64, 65, 66, 67, 68, 69]), (14, [2, 11, 12, 13, 14, 15, 16, 17, 18, 70]), (15, [70, 71]), (16, [2, 11, 12, 13, 14, 15, 16, 17, 18, 72, 73, 74, 75, 76, 77, 78, 79, 80]), (17, [18, 72, 81, 82, 83, 84, 85, 86, 87, 88, 89, 90, 91, 92, 93, 94, 95, 96, 97, 98, 99, 100, 101, 102, 103, 104, 105, 106, 107, 108, 109, 110, 111, 112, 113, 114, 115, 116, 117, 118, 119, 120, 121]), (18, [2, 11, 12, 13, 14, 15, 16, 17, 122]), (19, [17, 122, 123]), (20, [2, 11, 12, 16, 51, 124, 125, 126, 127, 128, 129, 130]), (21, [13, 14, 15, 19, 20, 131, 132, 133, 134, 135, 136, 137, 138, 139, 140, 141, 142, 143, 144, 145])]),
  (12, [(0, [0]), (1, [38]), (2, [39]), (3, [40]), (4, [41, 42]), (5, [43, 44]), (6, [45, 46, 47, 48, 49, 50]), (7, [51, 52, 53, 54, 55, 56]), (8, [57, 58, 59, 60, 61, 62]), (9, [63, 64, 65, 66, 67, 68]), (10, [3, 69, 70, 71, 72, 73, 74]), (11, [75, 76, 77, 78, 79, 80]), (12, [2, 81, 82, 83, 84, 85, 86]), (13, [7, 9, 11, 13, 15, 17, 19, 87, 88, 89, 90, 91, 92, 93, 94, 95, 96, 97, 98, 99, 100, 101, 102, 103, 104, 105, 106, 107, 108, 109, 110, 111]), (14, [1, 4, 5, 6, 8, 10, 12, 14, 16, 18, 112]), (15, [112, 113, 114, 115, 116, 117, 118, 119, 120, 121, 122, 123, 124, 125, 126]), (16, [127, 128, 129, 130, 131]), (17, [132, 133, 134, 135, 136]), (18, [5, 137, 138, 139, 140, 141]), (19, [142, 143, 144, 145, 146, 147, 148, 149, 150, 151]), (20, [152, 153, 154, 155, 156, 157, 158, 159, 160, 161, 162]), (21, [22, 24, 26, 30, 34, 163, 164, 165, 166, 167, 168, 169, 170, 171, 172, 173, 174, 175, 176, 177, 178, 179, 180, 181, 182, 183, 184]), (22, [1, 4, 6, 8, 10, 12, 14, 16, 18, 20, 21, 23, 25, 27, 28, 29, 31, 32, 33, 185]), (23, [18, 21, 23, 25, 185, 186, 187, 188, 189, 190, 191, 192, 193, 194, 195, 196, 197, 198, 199, 200, 201, 202, 203, 204, 205, 206, 207, 208, 209, 210, 211]), (24, [8, 10, 12, 14, 16, 212, 213, 214, 215, 216, 217, 218, 219, 220, 221, 222, 223, 224, 225, 226, 227, 228, 229, 230, 231, 232, 233, 234, 235]), (25, [27, 28, 29, 31, 32, 33, 236, 237, 238, 239, 240, 241, 242, 243, 244, 245, 246, 247, 248, 249, 250, 251, 252, 253, 254, 255, 256, 257, 258, 259, 260, 261, 262, 263, 264, 265, 266, 267, 268, 269, 270, 271, 272, 273, 274, 275, 276, 277, 278, 279, 280, 281, 282, 283, 284, 285, 286, 287, 288, 289, 290]), (26, [1, 4, 6, 20, 35, 36, 37, 291, 292, 293, 294, 295, 296, 297, 298, 299, 300, 301, 302, 303, 304, 305, 306, 307, 308, 309, 310, 311, 312, 313, 314, 315, 316, 317, 318, 319, 320, 321, 322, 323, 324, 325])]),
  (13, [(1, [0, 7, 8, 9]), (3, [10, 11, 12, 13, 14, 15, 16]), (4, [18, 19]), (5, [17, 20, 21, 22, 23, 24, 25, 26, 27, 28, 29]), (6, [1, 5, 6, 17, 30])]),
  (14, [(0, [0]), (1, [1, 3, 9, 10, 11, 12, 13, 14, 15, 16, 17, 18, 19, 20, 21, 22]), (3, [23, 24, 25, 26, 27, 28, 29, 30, 31]), (4, [33, 34]), (5, [32, 35, 36, 37, 38, 39, 40, 41, 42, 43, 44]), (6, [2, 7, 8, 32, 45])]),
  (15, [(0, [2]), (1, [5]), (3, [6, 7, 8]), (4, [10, 11]), (5, [9, 12, 13, 14, 15, 16, 17]), (6, [0, 3, 4, 9, 18, 19])]),
  (16, [(0, [4]), (1, [5]), (2, [6, 7, 8, 9]), (3, [0, 1, 6, 10, 11, 12])]),
  (17, [(0, [4]), (3, [7, 8]), (4, [10, 11, 17]), (5, [9, 12, 13, 14, 15, 16]), (6, [17, 18, 19, 20, 21]), (7, [0, 1, 5, 6, 9, 22])]),
  (18, [(0, [1, 9]), (1, [0, 17, 18, 19, 20, 21, 22, 23]), (2, [24]), (3, [2, 3, 5, 10, 11, 25, 26, 27]), (4, [10, 11, 25, 28, 29]), (7, [33, 34, 35, 36]), (8, [37, 38, 39, 40, 41, 42, 43, 44, 45]), (9, [13, 16, 46, 47, 48, 49, 50, 51, 52, 53, 54, 55, 56, 57, 58, 59]), (10, [2, 3, 5, 12, 14, 15, 30, 31, 32, 60, 61]), (11, [14, 15, 60, 62, 63, 64, 65, 66, 67, 68, 69, 70, 71, 72, 73, 74]), (12, [75]), (13, [2, 3, 5, 12, 30, 31, 32, 33, 76])]),
  (19, [(0, [1, 9]), (1, [0, 16, 17, 18, 19, 20, 21, 22]), (2, [11, 23]), (3, [2, 3, 5, 10, 24, 25]), (4, [10, 24, 26, 27]), (6, [28, 29, 30]), (7, [32, 33]), (8, [31, 34, 35, 36, 37, 38, 39, 40, 41, 42, 43, 44, 45, 46, 47, 48, 49, 50, 51, 52, 53, 54, 55, 56]), (9, [2, 3, 5, 12, 13, 57, 58]), (10, [15, 57, 59, 60, 61, 62, 63, 64, 65, 66, 67, 68, 69, 70]), (11, [14, 71, 72, 73, 74, 75, 76, 77, 78, 79, 80, 81, 82, 83, 84, 85, 86, 87, 88, 89]), (12, [2, 3, 5, 12, 13, 31, 90])]),
  (20, [(0, [0, 1, 4]), (1, [2, 3, 5, 6, 7, 8, 9, 10, 11, 12, 13, 14, 15, 16])]),
  (21, [(0, [0, 9]), (1, [13, 14, 15, 16, 17, 18, 19]), (2, [1, 20, 21]), (3, [22, 23, 24, 25, 26, 27, 28]), (4, [29, 30, 31]), (5, [11, 29]), (6, [2, 3, 33, 34, 35, 36, 37, 89]), (7, [12, 38, 39, 40, 41, 42, 43, 44, 45, 46, 47, 48, 49]), (8, [51]), (9, [2, 3, 32, 50, 52, 53, 54]), (10, [50, 56]), (11, [2, 3, 32, 55, 57, 58, 59]), (12, [55, 61]), (13, [2, 3, 32, 60, 62, 63, 64, 65, 66, 67]), (14, [60, 69]), (15, [2, 3, 32, 68, 70, 71, 72, 73, 74, 75]), (16, [68, 77]), (17, [2, 3, 32, 76, 78, 79, 80, 81, 82, 83, 84, 85, 86, 87, 88]), (18, [32, 76, 90]), (19, [2, 3, 89, 91, 92, 93, 94, 95, 96, 97, 98, 99, 100]), (20, [4, 10, 101, 102, 103, 104, 105, 106, 107, 108, 109, 110, 111, 112, 113, 114])]),
  (22, [(0, [1, 2, 6]), (1, [0, 4, 5, 7, 8, 9, 10, 11, 12, 13, 14, 15, 16, 17, 18, 19])]),
  (23, [(0, [1, 2, 6]), (1, [0, 4, 5, 7, 8, 9, 10, 11, 12, 13, 14, 15, 16, 17, 18, 19])]),
  (24, [(0, [1, 4]), (1, [0, 8, 9, 10, 11]), (2, [3, 12]), (3, [12, 13]), (5, [17, 18, 19, 20]), (6, [5, 21, 22, 23, 24, 25, 26, 27, 28, 29, 30, 31, 32, 33, 34]), (7, [6, 7, 35, 36, 37, 38, 39, 40, 41, 42, 43, 44, 45, 46, 47, 48, 49, 50, 51, 52, 53, 54, 55, 56, 57]), (8, [3, 14, 15, 16, 58]), (9, [58, 59]), (10, [3, 14, 15, 16, 17])]),
  (25, [(0, [1, 4]), (1, [0, 7, 8, 9, 10]), (2, [3, 11]), (3, [11]), (4, [12, 13, 14, 15]), (5, [17, 18, 59]), (6, [16, 19, 20, 21, 22, 23]), (7, [6, 24, 25, 26, 27, 28, 29, 30, 31, 32, 33, 34, 35, 36, 37, 38, 39, 40, 41, 42, 43, 44, 45, 46, 47, 48, 49, 50, 51, 52, 53, 54, 55, 56, 57, 58]), (8, [3, 5, 59]), (9, [3, 5, 16])]),
  (26, [(0, [0, 1]), (1, [17]), (2, [2, 8, 18, 19, 20, 21, 22, 23, 24]), (3, [3, 25]), (4, [25, 26]), (5, [27, 28]), (6, [29]), (7, [3, 30, 31, 32, 33, 34, 35, 36, 37]), (8, [9, 10, 38, 39, 40]), (9, [27, 41]), (10, [3]), (12, [45, 46, 47]), (13, [13, 48, 49, 50, 51]), (14, [52]), (15, [42, 43, 44, 45]), (16, [53, 54]), (18, [58, 59, 60]), (19, [16, 61, 62, 63, 64, 65, 66, 67, 68]), (20, [69]), (21, [11, 14, 55, 56, 57, 58, 70])]),
  (27, [(0, [4, 5, 6, 7]), (1, [16, 17]), (2, [0, 1, 18]), (3, [18]), (4, [19, 20, 21]), (5, [23, 24, 45]), (6, [22, 25, 26, 27, 28, 29, 30, 31, 32, 33, 34, 35, 36, 37, 38, 39, 40, 41, 42, 43, 44]), (7, [0, 1, 8, 45]), (8, [0, 8, 22]), (9, [46, 47, 48]), (10, [10, 50, 51, 57]), (11, [49, 52, 53]), (12, [54, 55, 56]), (13, [58, 59, 68]), (14, [57, 60, 61, 62, 63, 64, 65, 66, 67]), (15, [1, 9, 10, 68, 69, 70]), (16, [9, 49]), (18, [71]), (19, [13, 14, 73, 74, 82]), (20, [72]), (22, [75, 76, 77, 78, 79, 80, 81]), (23, [15, 83, 84, 96]), (24, [82]), (25, [85, 86, 87, 88, 89, 90, 91, 92, 93, 94, 95]), (26, [97, 98, 109]), (27, [96, 99, 100, 101, 102, 103, 104, 105, 106, 107, 108]), (28, [13, 109, 110, 111, 112, 113, 114, 115, 116, 117, 118, 119, 120, 121, 122, 123]), (30, [1, 11, 12, 72, 124])]),
  (28, [(0, [4]), (1, [6, 7, 8, 9]), (2, [0, 1, 10]), (3, [10]), (4, [11, 12, 13]), (5, [15, 16, 54]), (6, [14, 17, 18, 19, 20, 21, 22, 23, 24, 25, 26, 27, 28, 29, 30, 31, 32, 33, 34, 35, 36, 37, 38, 39, 40, 41, 42, 43, 44, 45, 46, 47, 48, 49, 50, 51, 52, 53]), (7, [0, 1, 5, 54]), (8, [0, 1, 5, 14])]),
  (29, [(0, [4]), (1, [0, 7, 8, 9]), (2, [10, 11, 12, 13, 14, 15, 16]), (3, [1, 5, 17, 18, 19, 20, 21]), (4, [17, 22, 23, 24, 25, 26]), (5, [1, 27, 28]), (6, [5, 6, 29, 30, 31, 32, 33, 34, 35, 36, 37]), (7, [6, 29, 38, 39, 40, 41, 42, 43, 44, 45]), (8, [5, 46])]),
  (30, [(0, [8, 9]), (1, [16, 17, 18, 19, 20, 21]), (2, [0, 1, 2, 3, 22, 23, 24, 25, 26, 27]), (3, [22, 28, 29, 30]), (4, [31, 32]), (5, [33, 34]), (6, [0, 1, 2, 11, 35, 36, 37, 38, 39, 40, 41, 42, 43, 44, 45]), (7, [3, 10, 12, 13, 46, 47, 48, 49, 50, 51, 52, 53, 54, 55, 56, 57, 58, 59, 60, 61]), (8, [0, 1, 2, 11, 35, 62, 63, 64, 65, 66, 67, 68, 69, 70, 71, 72, 73, 74, 75]), (9, [3, 10, 14, 15, 76, 77, 78, 79, 80, 81, 82, 83, 84, 85, 86, 87, 88, 89, 90, 91])]),
  (31, [(0, [4]), (3, [10, 11, 12]), (4, [14, 15]), (5, [13, 16, 17, 18, 19, 20, 21, 22, 23]), (6, [6, 13]), (7, [24, 25, 26]), (8, [8, 9, 28, 29, 38]), (9, [27, 30, 31, 32, 33, 34]), (11, [35, 36, 37]), (12, [39, 40, 57]), (13, [38, 41, 42, 43, 44, 45, 46, 47, 48, 49, 50, 51, 52, 53, 54, 55, 56]), (14, [0, 1, 5, 7, 8, 9, 57]), (15, [0, 1, 5, 7, 27])]),
  (32, [(0, [2]), (1, [5, 6]), (2, [0, 7, 8]), (3, [7, 9, 10]), (4, [0, 11, 12, 13, 14, 15, 16]), (5, [11, 17, 18, 19]), (6, [20, 21, 22, 23, 24, 25, 26, 27, 28]), (7, [0, 3, 4, 29, 30, 31, 32, 33, 34, 35, 36, 37, 38, 39, 40, 41])]),
  (33, [(0, [1, 7]), (1, [9, 10, 11, 12, 13, 14, 15, 16, 17, 18, 19, 20, 21, 22, 23]), (2, [0, 2, 4, 24, 25]), (3, [2, 4, 24, 26, 27, 28, 29, 30, 31, 32, 33, 34]), (4, [0, 35, 36, 37, 38]), (5, [8, 39])]),
  (34, [(0, [0, 6, 7]), (1, [10, 11, 12, 13, 14, 15, 16, 17, 18, 19, 20, 21, 22, 23, 24, 25]), (2, [1, 2, 3, 26]), (3, [1, 2, 3, 9, 26, 27, 28, 29, 30, 31, 32, 33, 34, 35]), (4, [8, 36])]),
  (35, [(0, [1, 2, 8]), (1, [0, 3, 5, 6, 9, 10, 11, 12, 13, 14, 15, 16, 17, 18, 19, 20, 21, 22, 23, 24, 25, 26, 27, 28, 29, 30, 31, 32, 33, 34, 35])]),
  (36, [(0, [10, 11, 12]), (1, [22, 23, 24]), (2, [25, 26, 27, 28, 29, 30]), (3, [1, 2, 4, 13, 31, 32, 33, 34, 35]), (4, [0, 3, 36, 37, 38]), (5, [0, 3, 36, 39, 40, 41, 42, 43, 44]), (6, [31, 45, 46]), (7, [47, 48, 49, 50]), (8, [51, 52]), (9, [0, 1, 2, 3, 4, 13, 14, 53, 54, 55, 56, 57, 58, 59, 60, 61, 62, 63, 64, 65]), (10, [15, 16, 17, 18, 66, 67, 68, 69, 70, 71, 72, 73, 74, 75, 76]), (11, [0, 1, 2, 3, 4, 13, 14, 53, 77, 78, 79, 80, 81, 82, 83, 84, 85, 86, 87, 88, 89, 90, 91]), (12, [15, 19, 20, 21, 92, 93, 94, 95, 96, 97, 98, 99, 100, 101, 102, 103, 104, 105, 106, 107, 108])]),
  (37, [(0, [0, 2]), (1, [4, 9, 10, 11, 12]), (2, [6, 13, 14, 15, 16, 17, 18]), (3, [8, 19, 20, 21, 22, 23, 24]), (4, [1, 3, 5, 7, 25, 26, 27, 28, 29, 30, 31, 32])]),
  (38, [(0, [2]), (1, [0, 3, 4, 5])]),
  (39, [(0, [4]), (1, [6, 7, 8, 9]), (2, [0, 1, 10]), (3, [10]), (4, [11, 12, 13]), (5, [15, 16, 25]), (6, [14, 17, 18, 19, 20, 21, 22, 23, 24]), (7, [0, 1, 5, 25]), (8, [0, 1, 5, 14])]),
  (40, [(0, [1, 4]), (1, [6, 7, 8, 9, 10, 11, 12, 13, 14, 15, 16, 17, 18, 19]), (2, [0, 3, 5, 20, 21, 22, 23, 24, 25, 26, 27, 28, 29, 30, 31, 32])]),
  (41, [(0, [0]), (1, [5, 6, 7]), (3, [8, 9, 10, 11, 12, 13, 14, 15]), (4, [17, 18]), (5, [16, 19, 20, 21, 22, 23, 24, 25, 26, 27, 28, 29, 30, 31, 32, 33, 34, 35, 36]), (6, [1, 3, 4, 16, 37])]),
  (42, [(0, [0, 5]), (1, [1, 2, 7, 8, 9, 10, 11, 12, 13, 14, 15]), (2, [16, 17]), (3, [6, 18, 19]), (4, [6, 18, 20])]),
  (43, [(0, [0, 5]), (1, [1, 7, 8, 9, 10, 11, 12, 13, 14, 15, 16]), (2, [2, 17, 18, 19, 20, 21, 22, 23]), (3, [6, 24, 25]), (4, [6, 24, 26])]),
  (44, [(0, [0, 2]), (2, [1, 3, 4, 5, 6, 7, 8, 9, 10, 11, 12, 13, 14, 15, 16, 17, 18, 19])]),
  (45, [(0, [0, 2]), (1, [4, 5, 6, 7, 8, 9, 10, 11, 12]), (2, [1, 13]), (3, [13]), (4, [14, 15, 16, 17]), (5, [19, 20, 27]), (6, [18, 21, 22, 23, 24, 25, 26]), (7, [1, 3, 27]), (8, [1, 3, 18])]),
  (46, [(0, [0, 1, 4]), (1, [2, 3, 5, 6, 7, 8, 9, 10, 11, 12, 13, 14, 15, 16])]),
  (47, [(0, [1, 7]), (1, [9, 10, 11, 12, 13, 14, 15, 16, 17, 18, 19, 20, 21, 22, 23]), (2, [0, 2, 4, 24, 25]), (3, [2, 4, 24, 26, 27, 28, 29, 30, 31, 32, 33, 34]), (4, [0, 35, 36, 37, 38]), (5, [8, 39])]),
  (48, [(0, [0, 6, 7]), (1, [10, 11, 12, 13, 14, 15, 16, 17, 18, 19, 20, 21, 22, 23, 24, 25]), (2, [1, 2, 3, 26]), (3, [1, 2, 3, 9, 26, 27, 28, 29, 30, 31, 32, 33, 34, 35]), (4, [8, 36])]),
  (49, [(0, [1, 4]), (1, [5, 6, 7, 8, 9, 10, 11, 12, 13, 14, 15, 16, 17, 18, 19, 20, 21, 22, 23, 24]), (2, [0, 3, 25]), (3, [0, 3, 25, 26, 27, 28, 29, 30, 31])]),
  (50, [(0, [1, 2, 8]), (1, [0, 9, 10, 11, 12, 13, 14, 15, 16, 17, 18, 19, 20, 21, 22, 23, 24]), (2, [3, 5, 6, 25]), (3, [3, 5, 6, 25, 26, 27, 28, 29, 30, 31, 32, 33, 34, 35])]),
  (51, [(0, [2]), (1, [0, 4, 5]), (2, [3, 6, 7, 8, 9, 10, 11, 12, 13, 14, 15, 16, 17, 18, 19, 20, 21])]),
  (52, [(0, [7]), (1, [11]), (2, [0, 1, 12, 13, 14, 15, 16, 17, 18, 19, 20]), (3, [2, 8, 9, 10, 21, 22, 23, 24, 25, 26, 27, 28, 29, 30, 31, 32, 33, 34, 35, 36])]),
  (53, [(0, [4]), (1, [5]), (2, [6, 7, 8, 9]), (3, [0, 1, 6, 10, 11, 12])]),
  (54, [(0, [4, 5]), (1, [10, 11, 12, 13, 14, 15, 16]), (2, [0, 1, 17]), (3, [17]), (4, [18, 19]), (5, [20, 21, 22, 23]), (6, [0, 24, 25, 26, 27, 28, 29]), (7, [30, 31]), (8, [7, 32, 33, 34, 35, 36, 37]), (9, [7, 9, 32, 38, 39, 40, 41, 42]), (10, [8, 43]), (11, [0, 1, 20, 44, 45]), (12, [6, 46])]),
  (55, [(0, [6]), (1, [0, 1, 2, 7, 8, 9, 10, 11, 12, 13, 14])]),
  (56, [(0, [4, 5]), (1, [11, 12, 13, 14, 15, 16, 17]), (2, [0, 1, 18]), (3, [18, 19, 20]), (4, [0, 1, 21]), (5, [21, 22, 23, 24]), (6, [25, 26]), (7, [1, 8, 27, 28, 29, 30, 31, 32, 33, 34, 35]), (8, [0, 6, 7, 36, 37, 38, 39, 40, 41, 42]), (9, [1, 10, 27, 43, 44, 45, 46, 47, 48, 49, 50, 51, 52]), (10, [0, 6, 9, 53, 54, 55, 56, 57, 58, 59])]),
  (57, [(0, [2]), (1, [8]), (2, [0, 9, 10]), (4, [11, 12, 13]), (5, [15, 16]), (6, [14, 17, 18, 19, 20, 21, 22, 23]), (7, [4, 5, 14]), (9, [24]), (10, [26, 27]), (11, [25, 28, 29, 30, 31, 32, 33, 34, 35, 36, 37, 38, 39, 40, 41, 42, 43, 44, 45, 46, 47, 48, 49, 50, 51, 52, 53]), (12, [3, 6, 7, 25, 54, 55])]),
  (58, [(0, [0, 1, 4]), (1, [7, 8, 9, 10, 11, 12]), (2, [2, 3, 13]), (3, [13, 14, 15]), (4, [5, 16]), (5, [2, 3, 6, 17, 18, 19, 20, 21, 22, 23, 24, 25, 26, 27, 28, 29, 30, 31, 32, 33, 34, 35, 36, 37, 38])]),
  (59, [(0, [0, 1, 4]), (1, [7, 8, 9, 10, 11, 12]), (2, [2, 3, 13]), (3, [13, 14, 15, 16, 17, 18, 19, 20, 21, 22, 23, 24, 25, 26, 27, 28]), (4, [2, 3, 29]), (5, [29]), (6, [30, 31, 32, 33]), (7, [6, 35, 36, 41]), (8, [34]), (9, [37, 38, 39, 40]), (10, [42, 43, 71]), (11, [41, 44, 45, 46, 47, 48, 49, 50, 51, 52, 53, 54, 55, 56, 57, 58, 59, 60, 61, 62, 63, 64, 65, 66, 67, 68, 69, 70]), (12, [2, 3, 5, 6, 71]), (13, [2, 3, 5, 34])]),
  (60, [(1, [19, 20, 21, 22, 23, 24, 25, 26, 27, 28, 29]), (2, [0, 1, 2, 3, 4, 30]), (3, [30]), (4, [31]), (5, [4, 32, 33, 34, 35, 36, 37, 38]), (6, [14, 39]), (7, [0, 1, 2, 3, 11, 12, 13, 40]), (8, [13, 40, 41]), (9, [42, 43]), (10, [12, 44, 45, 46, 47, 48, 49, 50, 51]), (11, [52, 53]), (12, [15, 54, 55, 56, 57, 58, 59, 60]), (13, [15, 54, 61]), (14, [1, 2, 3, 32, 62, 63]), (15, [11, 64]), (16, [0, 4, 10, 65, 66, 67]), (17, [16, 18, 68, 69, 70]), (18, [0, 4, 16, 65, 71, 72, 73, 74, 75, 76, 77, 78])]),
  (61, [(0, [10]), (1, [14, 15]), (2, [11, 16, 17, 18, 19, 20, 21, 22, 23, 24, 25]), (3, [0, 1, 2, 3, 4, 26]), (4, [1, 2, 3, 4, 26, 27, 28, 29, 30, 31, 32, 33, 34]), (5, [0, 12, 13, 35, 36, 37, 38, 39, 40])]),
  (62, [(0, [0, 4]), (1, [1, 2, 3, 5, 6, 7, 8, 9, 10, 11, 12, 13, 14, 15, 16, 17, 18, 19])]),
  (63, [(0, [2]), (1, [0, 3, 4, 5])]),
  (64, [(0, [4]), (1, [0, 1, 5, 6, 7, 8])]),
  (65, [(0, [0, 2]), (1, [1, 3])]),
  (66, [(0, [1, 6]), (1, [8]), (2, [9, 10, 11, 12]), (3, [4, 5, 13, 14, 15])]),
  (67, [(0, [0, 2]), (1, [6]), (2, [1, 7]), (4, [11, 12, 13]), (5, [5, 14, 15, 16, 17, 18]), (6, [19]), (7, [3, 8, 9, 10, 11, 20])]),
  (68, [(0, [2]), (1, [0, 4, 5]), (2, [6, 7]), (3, [3, 8])]),
  (69, [(0, [0, 2]), (1, [1, 3])]),
  (70, [(0, [2]), (2, [4, 5, 6, 7]), (3, [8, 9, 10]), (4, [0, 3, 8, 11])]),
  (71, [(0, [4]), (1, [0, 1, 5, 6, 7, 8, 9])]),
  (72, [(0, [2]), (1, [4, 5]), (2, [0, 6, 7]), (3, [6, 8, 9]), (4, [0, 10, 11, 12, 13, 14]), (5, [10, 15, 16, 17]), (6, [0, 3, 18, 19, 20, 21, 22, 23, 24, 25, 26])]),
  (73, [(0, [6]), (1, [0, 1, 2, 7, 8, 9, 10, 11, 12, 13, 14])]),
  (74, [(3, [0]), (5, [14, 15, 16]), (6, [6, 17, 18, 19, 20, 21, 22, 23, 24]), (7, [25, 26]), (8, [27, 28, 29, 30, 31, 32, 33, 34, 35, 36, 37, 38, 39, 40]), (9, [42, 43]), (10, [41, 44, 45, 46, 47, 48, 49, 50, 51, 52, 53, 54, 55, 56, 57, 58, 59, 60]), (11, [61, 62, 63, 64, 65, 66, 67, 68, 69, 70, 71, 72]), (12, [7, 41, 73]), (13, [4, 11, 12, 13, 14, 74, 75]), (14, [3, 76, 77]), (15, [76, 78, 79, 80, 81, 82, 83]), (16, [3, 84, 85, 86, 87, 88]), (17, [2, 89, 90, 91]), (18, [8, 10, 92, 93, 94]), (19, [8, 89, 95])]),
  (75, [(0, [1, 4]), (2, [6]), (3, [7, 8, 9]), (4, [10, 11, 12]), (5, [3, 13, 14, 15, 16]), (6, [0, 5, 17, 18, 19, 20, 21])]),
  (76, [(0, [4, 5]), (1, [12, 13, 14, 15, 16, 17, 18, 19]), (2, [0, 1, 11]), (3, [11, 21, 22]), (4, [0, 1, 20]), (5, [20]), (7, [23, 24, 25]), (8, [26, 27, 28, 29]), (9, [0, 30, 31, 32, 33, 34, 35]), (10, [36, 37]), (11, [8, 38, 39, 40, 41, 42, 43]), (12, [8, 10, 38, 44, 45, 46, 47, 48]), (13, [9, 49]), (14, [1, 7, 26, 50]), (15, [0, 51, 52, 53, 54, 55, 56]), (16, [0, 51, 57, 58]), (17, [6, 59])]),
  (77, [(1, [22, 23, 24, 25, 26, 27, 28, 29, 30, 31, 32, 33, 34, 35, 36, 37, 38, 39, 40, 41, 42, 43]), (2, [0, 1, 2, 3, 4, 21]), (3, [21, 45, 46]), (4, [0, 1, 2, 3, 4, 44, 47, 48, 49, 50, 51, 52, 53, 54]), (5, [44, 56, 57, 58]), (6, [0, 1, 2, 3, 4, 55, 59, 60, 61, 62, 63, 64, 65, 66]), (7, [55]), (9, [67, 68]), (10, [4, 69, 70, 71, 72, 73, 74, 75]), (11, [15, 76]), (12, [0, 1, 2, 3, 11, 12, 13, 14, 77]), (13, [14, 77, 78]), (14, [79, 80]), (15, [13, 81, 82, 83, 84, 85, 86, 87, 88]), (16, [89, 90]), (17, [16, 91, 92, 93, 94, 95, 96, 97]), (18, [16, 91, 98]), (19, [1, 3, 69, 99, 100]), (20, [12, 101]), (21, [102, 103, 104]), (22, [0, 2, 4, 11, 17, 18, 105]), (23, [105, 106, 107, 108, 109, 110, 111]), (24, [11, 102, 112]), (25, [0, 2, 4, 10, 113, 114, 115]), (26, [116]), (27, [17, 117, 118, 119, 120]), (28, [17, 18, 20, 117, 121, 122, 123]), (29, [0, 2, 4, 17, 18, 113, 124, 125, 126, 127, 128, 129, 130, 131, 132, 133, 134, 135, 136])]),
  (78, [(0, [2, 3]), (1, [6, 7, 8, 9, 10]), (2, [0, 11]), (3, [0, 11, 12, 13]), (5, [14]), (6, [15, 16, 17, 18, 19, 20, 21, 22]), (7, [23, 24]), (8, [4, 5, 15, 25, 26, 27, 28, 29, 30])]),
  (79, [(0, [2]), (1, [3]), (2, [0, 4]), (3, [0, 4, 5, 6, 7])]),
  (80, [(0, [2]), (1, [0, 3, 4, 5])]),
  (81, [(0, [4]), (1, [0, 1, 5, 6, 7, 8])]),
  (82, [(0, [1, 4]), (1, [0, 3, 5, 6, 7, 8, 9])]),
  (83, [(0, [4, 5]), (1, [6, 7, 8, 9, 10, 11, 12]), (2, [0, 1, 13]), (3, [13, 14]), (4, [0, 1, 15]), (5, [0, 1, 15, 16, 17, 18])]),
  (84, [(0, [10]), (1, [15, 16]), (2, [11, 17, 18, 19, 20, 21, 22, 23, 24, 25, 26, 27, 28, 29, 30, 31, 32, 33, 34, 35, 36]), (3, [0, 1, 2, 3, 4, 37]), (4, [37, 38]), (5, [0, 1, 2, 3, 4, 39, 40, 41, 42, 43, 44, 45, 46, 47]), (6, [39, 48, 49]), (7, [0, 1, 2, 3, 4, 50, 51, 52, 53, 54, 55, 56, 57, 58]), (8, [1, 3, 4, 50, 59, 60, 61, 62, 63, 64, 65, 66, 67]), (9, [0, 2, 12, 13, 14, 68, 69, 70, 71, 72, 73, 74, 75, 76, 77, 78])]),
  (85, [(0, [2]), (1, [0, 3, 4, 5, 6, 7, 8])]),
  (86, [(0, [4, 5, 6]), (1, [7, 8]), (2, [10, 11, 12, 13]), (3, [9, 14, 15, 16, 17, 18, 19, 20, 21, 22, 23, 24, 25, 26, 27])]),
  (87, [(0, [2]), (3, [6, 7, 8]), (4, [10, 11]), (5, [9, 12, 13, 14, 15, 16, 17]), (6, [4, 9, 18, 19, 20]), (7, [21, 22, 23]), (8, [24, 25, 26, 27]), (9, [24]), (10, [28]), (11, [30, 31]), (12, [29, 32, 33, 34, 35, 36, 37, 38, 39, 40, 41]), (13, [0, 3, 5, 29, 42])]),
  (88, [(0, [4]), (3, [19]), (4, [21, 22]), (5, [20, 23, 24, 25, 26, 27, 28, 29, 30, 31, 32, 33, 34, 35, 36, 37, 38, 39, 40, 41, 42, 43, 44, 45, 46, 47, 48, 49, 50, 51, 52, 53, 54, 55, 56, 57, 58]), (6, [1, 6, 20]), (7, [59]), (8, [61, 62]), (9, [60, 63, 64, 65, 66, 67, 68, 69, 70, 71, 72, 73, 74, 75, 76, 77, 78, 79, 80, 81, 82]), (10, [83, 84, 85, 86, 87, 88, 89, 90, 91, 92, 93, 94, 95, 96, 97, 98, 99, 100, 101, 102]), (11, [8, 9, 103, 104, 105, 106, 107, 108, 109, 110, 111, 112, 113, 114, 115, 116, 117, 118, 119, 120]), (12, [7, 60, 121]), (14, [122, 123, 124]), (16, [125]), (17, [127, 128]), (18, [126, 129, 130, 131]), (19, [132, 133, 134]), (20, [135, 136, 137, 138, 139, 140, 141, 142, 143, 144, 145, 146, 147, 148, 149, 150, 151, 152, 153, 154, 155, 156, 157, 158, 159, 160, 161, 162, 163, 164, 165, 166, 167, 168, 169]), (21, [170, 171, 172, 173, 174, 175, 176, 177, 178, 179, 180, 181, 182, 183, 184, 185, 186, 187, 188, 189, 190, 191, 192, 193, 194, 195, 196, 197]), (22, [13, 14, 15, 16, 198, 199, 200, 201, 202, 203, 204, 205, 206, 207, 208, 209, 210, 211, 212, 213, 214, 215, 216, 217, 218, 219, 220]), (23, [5, 10, 12, 126]), (25, [221]), (26, [223, 224]), (27, [222, 225, 226, 227, 228, 229, 230, 231, 232, 233, 234, 235, 236]), (28, [0, 11, 17, 18, 222, 237])]),
  (89, [(0, [0, 3]), (1, [1, 6, 7, 8, 9, 10, 11, 12]), (2, [2, 4, 5, 13, 14, 15, 16, 17, 18, 19])]),
  (90, [(0, [4]), (1, [0, 1, 5, 6, 7, 8])]),
  (91, [(0, [2]), (2, [0, 3, 4, 5, 6, 7])]),
  (92, [(0, [2, 3, 4]), (1, [6, 7]), (2, [0, 8]), (3, [8, 9, 10, 11]), (4, [0, 5, 12, 13, 14, 15, 16, 17, 18])]),
  (93, [(0, [2]), (1, [0, 3, 4, 5, 6])]),
  (94, [(0, [0, 2]), (1, [1, 3])]),
  (95, [(0, [0, 4]), (1, [5]), (2, [1, 2, 6, 7, 8, 9, 10]), (3, [1, 2, 6, 11, 12, 13, 14])]),
  (96, [(0, [2]), (2, [4, 5, 6]), (3, [8, 9, 15]), (4, [7, 10, 11, 12, 13, 14]), (5, [0, 3, 15]), (6, [0, 3, 7])]),
  (97, [(0, [8, 9]), (1, [16, 17, 18]), (2, [19]), (3, [0, 1, 2, 3, 10, 20, 21, 22, 23, 24]), (4, [20, 25]), (5, [0, 1, 2, 3, 10, 26]), (6, [26, 27, 28]), (7, [29, 30]), (8, [0, 1, 2, 11, 31, 32, 33, 34, 35, 36, 37, 38, 39, 40, 41]), (9, [3, 10, 12, 13, 42, 43, 44, 45, 46, 47, 48]), (10, [0, 1, 2, 11, 31, 49, 50, 51, 52, 53, 54, 55, 56, 57, 58, 59, 60, 61, 62]), (11, [3, 10, 14, 15, 63, 64, 65, 66, 67, 68, 69])]),
  (98, [(0, [4]), (1, [6]), (3, [9, 10]), (4, [11, 12, 13, 14, 15]), (5, [0, 1, 5, 7, 8, 16, 17]), (6, [5, 16, 18]), (7, [0, 1, 7, 8, 9])]),
  (99, [(0, [5]), (2, [8, 9]), (3, [10, 11]), (4, [12, 13, 14]), (5, [16, 17, 22]), (6, [15, 18, 19, 20, 21]), (7, [3, 4, 15, 23])]),
  (100, [(0, [2]), (1, [0, 3, 4])]),
  (101, [(0, [3, 4]), (1, [0, 2, 5, 6, 7, 8, 9, 10])]),
  (102, [(0, [1, 4]), (1, [6]), (2, [7, 8, 9]), (3, [3, 10, 11, 12])]),
  (103, [(0, [4]), (1, [0, 1, 5, 6, 7, 8, 9])]),
  (104, [(1, [7]), (2, [8, 9, 10, 11]), (3, [12, 13, 14]), (4, [15, 16, 17, 18]), (5, [15]), (6, [19]), (7, [21, 22]), (8, [20, 23, 24, 25, 26, 27, 28, 29, 30, 31, 32]), (9, [0, 4, 5, 20, 33]), (10, [2, 34, 35]), (11, [3, 6, 36, 37]), (12, [3, 34, 38, 39])]),
  (105, [(0, [0, 2]), (1, [1, 3])]),
  (106, [(0, [1, 5, 6, 7, 8, 9, 10]), (1, [0, 4, 11, 12, 13, 14, 15])]),
  (107, [(0, [4, 5]), (1, [6, 7]), (2, [0, 8, 9, 10, 11, 12, 13, 14, 15, 16]), (3, [1, 17, 18])]),
  (108, [(0, [2]), (1, [0, 3, 4, 5, 6, 7, 8, 9, 10, 11, 12, 13])]),
  (109, [(0, [2]), (1, [0, 3, 4, 5])]),
  (110, [(0, [2]), (1, [3]), (2, [0, 4, 5, 6, 7, 8, 9]), (3, [0, 4, 10, 11, 12])]),
  (111, [(0, [4]), (1, [6]), (3, [9, 10]), (4, [11, 12, 13, 14, 15]), (5, [0, 1, 5, 7, 8, 16, 17]), (6, [5, 16, 18]), (7, [0, 1, 7, 8, 9])]),
  (112, [(0, [6]), (1, [8, 9, 10]), (2, [1, 2, 11]), (3, [0, 12]), (4, [0, 12, 13, 14, 15]), (5, [11, 16, 17, 18]), (6, [19, 20]), (7, [0, 1, 2, 7, 21, 22, 23, 24, 25, 26, 27, 28, 29, 30, 31, 32, 33]), (8, [0, 1, 2, 7, 21, 34, 35, 36, 37, 38, 39, 40, 41, 42, 43, 44, 45, 46])]),
  (113, [(0, [10, 11, 12]), (1, [21, 22, 23]), (2, [24, 25]), (3, [1, 2, 4, 26]), (4, [0, 3, 13, 27, 28, 29, 30, 31]), (5, [0, 13, 27, 32]), (6, [3, 33]), (7, [3, 33, 34, 35, 36, 37, 38, 39]), (8, [26, 40]), (9, [0, 1, 2, 3, 4, 13, 41]), (10, [41, 42, 43]), (11, [44, 45]), (12, [0, 1, 2, 4, 14, 46, 47, 48, 49, 50, 51, 52, 53, 54, 55, 56, 57, 58]), (13, [3, 13, 15, 16, 17, 59, 60, 61, 62, 63, 64, 65, 66]), (14, [0, 1, 2, 4, 14, 46, 67, 68, 69, 70, 71, 72, 73, 74, 75, 76, 77, 78, 79, 80, 81]), (15, [3, 13, 18, 19, 20, 82, 83, 84, 85, 86, 87, 88, 89, 90, 91, 92, 93, 94])]),
  (114, [(0, [2]), (1, [0, 3, 4, 5]), (2, [0, 6, 7])]),
  (115, [(0, [4]), (1, [0, 1, 5, 6, 7, 8, 9, 10, 11, 12])]),
  (116, [(0, [0]), (1, [1])]),
  (117, [(0, [4]), (1, [6]), (3, [9, 10]), (4, [11, 12, 13, 14, 15]), (5, [0, 1, 5, 7, 8, 16, 17]), (6, [5, 16, 18]), (7, [0, 1, 7, 8, 9])]),
  (118, [(0, [2]), (1, [0, 3, 4, 5])]),
  (119, [(0, [0, 2]), (1, [1, 3])]),
  (120, [(0, [4, 5, 6]), (1, [7]), (2, [9, 10, 18]), (3, [8, 11, 12, 13, 14, 15, 16, 17])]),
  (121, [(0, [0]), (1, [1]), (2, [4, 6, 7]), (3, [2, 5, 8, 9, 10, 11]), (4, [2, 6, 12])]),
  (122, [(2, [19, 20, 21]), (3, [22]), (4, [0, 1, 2, 3, 8, 9, 10, 23, 24, 25, 26, 27]), (5, [23, 28]), (6, [0, 1, 2, 3, 8, 9, 10, 29, 30, 31, 32, 33]), (7, [29, 34]), (8, [35, 36, 37, 38, 39]), (9, [40, 41]), (10, [35, 42, 43, 44, 45, 46, 47, 48]), (11, [49]), (12, [12, 50, 51, 52, 53, 54]), (13, [55, 56, 57, 58, 59, 60]), (15, [12, 50, 61, 62, 63, 64, 65, 66, 67]), (16, [68, 69, 70, 71]), (17, [68, 72, 73, 74, 75, 76, 77, 78, 79, 80, 81, 82, 83, 84, 85, 86]), (18, [1, 10, 11, 87, 88, 89, 90, 91, 92]), (19, [13, 93]), (20, [8, 9, 11, 87, 94, 95, 96, 97, 98, 99, 100, 101]), (21, [15, 102]), (22, [103, 104, 105, 106, 107, 108]), (23, [10, 109, 110]), (24, [111, 112]), (25, [16, 17, 18, 113, 114, 115, 116]), (26, [1, 117, 118, 119, 120, 121]), (27, [14, 122, 123]), (28, [16, 17, 18, 113, 124, 125, 126]), (29, [2, 127, 128, 129, 130, 131, 132]), (30, [14, 133])]),
  (123, [(0, [0, 1, 4]), (1, [5]), (2, [6, 7]), (3, [2, 3, 6, 8])]),
  (124, [(0, [1, 13, 14]), (1, [15, 16, 17]), (4, [20, 21, 22]), (5, [23, 24, 25, 26]), (6, [6, 7, 9, 27, 28, 29, 30, 31, 32, 33, 34, 35, 36, 37, 38, 39, 40, 41, 42, 43, 44, 45, 46, 47, 48, 49]), (7, [8, 50, 51, 52, 53, 54, 55, 56, 57, 58, 59, 60, 61, 62, 63, 64, 65, 66, 67, 68]), (8, [69, 70, 71]), (9, [10, 11, 72, 73, 74, 75, 76, 77, 78, 79, 80]), (10, [81]), (11, [4, 18, 19, 20]), (13, [83, 84]), (14, [12, 85, 86, 87, 88, 89, 90, 91, 92, 93, 94, 95]), (15, [96])]),
  (125, [(0, [0, 2]), (2, [1]), (4, [9, 10, 11]), (7, [13, 14]), (8, [6, 15, 16, 17, 18, 19, 20, 21, 22, 23, 24, 25]), (9, [26]), (10, [4, 5, 12, 13, 27]), (11, [3, 7, 8, 9, 28, 29])]),
  (126, [(0, [4, 5, 6]), (1, [7]), (2, [9, 10, 18]), (3, [8, 11, 12, 13, 14, 15, 16, 17])]),
  (127, [(1, [7, 8, 9, 10, 11]), (2, [0, 12]), (3, [12]), (4, [0, 13, 14, 15, 16, 17, 18, 19]), (5, [2, 3, 20, 21]), (6, [22]), (7, [6, 23]), (8, [24, 25, 26]), (9, [4, 5, 24, 27, 28, 29, 30]), (10, [4, 20, 31, 32])]),
  (128, [(1, [0, 2, 3, 4, 5, 6, 7, 8, 9, 10, 11, 12, 13])]),
  (129, [(1, [3]), (2, [2, 4, 5, 6]), (4, [4, 7]), (5, [8, 9, 10]), (6, [11, 12]), (7, [0, 8, 13, 14, 15, 16, 17, 18])]),
  (130, [(1, [3]), (2, [2, 4, 5, 6]), (4, [4, 7]), (5, [8, 9, 10]), (6, [11, 12]), (7, [8, 13]), (8, [14, 15, 16]), (9, [17, 18]), (10, [0, 14, 19, 20, 21, 22, 23, 24])]),
  (131, [(0, [3]), (1, [0, 1, 4, 5, 6, 7, 8])]),
  (132, [(0, [4]), (1, [11]), (2, [14]), (3, [0, 1, 12, 13]), (4, [12, 13, 16]), (5, [0, 1, 15, 17, 18, 19]), (6, [15]), (7, [20, 21]), (8, [22, 23, 24, 25, 26, 27, 28]), (9, [29, 30]), (10, [29, 31, 32, 33, 34, 35, 36, 37, 38]), (11, [22]), (13, [42, 43, 44]), (14, [45, 46, 47, 48]), (15, [49, 50]), (16, [7, 49, 51, 52, 53, 54]), (17, [55]), (18, [39, 40, 41, 42]), (19, [5, 56, 57]), (20, [58, 59, 60, 61]), (21, [0, 62]), (23, [66, 67, 68]), (24, [69, 70]), (25, [10, 71, 72]), (26, [73]), (27, [1, 8, 63, 64, 65, 66, 74])]),
  (133, [(0, [8, 9]), (1, [10, 11]), (2, [7, 13, 14, 30]), (3, [12, 15]), (4, [16, 17, 18, 19, 20, 21, 22, 23, 24, 25, 26, 27, 28, 29]), (5, [31, 32]), (6, [30, 33, 34, 35, 36, 37, 38, 39, 40, 41, 42, 43, 44, 45, 46, 47, 48])]),
  (134, [(0, [11]), (2, [1, 2, 12, 13, 14]), (3, [15, 16, 17]), (4, [18]), (5, [20, 21]), (6, [19, 22, 23, 24, 25, 26]), (7, [8, 9, 19, 27, 28]), (8, [29]), (9, [31, 32]), (10, [30, 33, 34, 35, 36, 37, 38, 39, 40, 41, 42, 43, 44, 45, 46, 47, 48, 49, 50]), (11, [51, 52, 53, 54, 55])]),
  (135, [(0, [2, 11, 12, 13]), (1, [14]), (2, [15, 16, 17]), (3, [18, 19]), (4, [20, 21, 22, 23, 24, 25]), (5, [26, 27, 28, 29, 30, 31, 32]), (6, [34, 35]), (7, [33, 36, 37, 38, 39, 40]), (8, [41, 42]), (9, [43, 44, 45, 46]), (10, [10, 43, 47, 48, 49, 50, 51, 52, 53, 54, 55, 56, 57, 58, 59, 60, 61, 62, 63, 64])]),
  (136, [(0, [6, 7]), (1, [2, 13, 14, 15]), (3, [16, 17, 18, 19, 20]), (4, [21, 22, 23, 24, 25]), (5, [1, 26, 27, 28, 29, 30]), (6, [31]), (7, [8, 32, 33]), (8, [34, 35, 36, 37]), (9, [38, 39, 40]), (10, [41, 42, 43]), (11, [0, 10, 12, 34, 44, 45, 46, 47, 48]), (12, [0, 8, 9, 10, 12, 32]), (13, [11, 50, 54]), (14, [52]), (15, [11, 49, 51, 53]), (16, [49, 51, 55]), (17, [11, 54, 56])]),
  (137, [(0, [1, 8]), (1, [2, 9, 10]), (2, [11, 12]), (3, [13, 14, 15, 16, 17, 18, 19, 20, 21, 22, 23, 24, 25, 26, 27]), (4, [28, 29]), (5, [30, 31])]),
  (138, [(0, [6]), (1, [11, 12]), (3, [13]), (4, [10, 15, 16, 98, 103, 116]), (5, [17, 18, 19, 20, 21, 22, 23, 24, 25, 26, 27, 28, 29, 30, 31]), (6, [32, 33, 34]), (7, [32, 35, 36]), (8, [0, 1, 2, 7, 8, 37]), (9, [37, 38, 39, 40]), (10, [0, 1, 2, 7, 8, 41]), (11, [41, 42, 43, 44, 45, 46, 47, 48, 49, 50, 51, 52, 53, 54, 55, 56, 57]), (12, [58, 59, 60]), (13, [61, 62, 63]), (14, [64]), (15, [66, 67]), (16, [65, 68, 69, 70, 71, 72, 73, 74, 75, 76, 77]), (17, [78, 79, 80, 81, 82, 83, 84, 85, 86, 87, 88, 89, 90, 91, 92, 93, 94]), (18, [9, 61, 65, 78, 95, 96, 97]), (19, [98, 99, 100]), (20, [101, 102]), (21, [104, 105]), (22, [103, 106, 107, 108, 109, 110, 111, 112, 113, 114, 115]), (23, [116, 117, 118, 119, 120, 121, 122, 123, 124, 125, 126, 127, 128, 129, 130, 131, 132]), (24, [0, 1, 2, 7, 8, 14])]),
  (139, [(0, [4]), (1, [0, 1, 5, 6, 7, 8, 9, 10, 11, 12, 13, 14, 15, 16])]),
  (140, [(0, [8]), (1, [3, 11, 12, 13, 14, 15, 16, 17, 18, 19, 20, 21, 22, 23, 24]), (2, [2, 25, 26, 27, 28]), (3, [29, 30, 31, 32, 33, 34, 35, 36, 37, 38, 39, 40, 41, 42]), (4, [43, 44, 45]), (5, [46, 47, 48, 49, 50, 51, 52, 53, 54, 55, 56, 57, 58]), (6, [59, 60, 61]), (7, [59, 62, 63]), (8, [64, 65, 66, 67, 68, 69, 70, 71, 72, 73, 74, 75, 76, 77, 78]), (9, [79, 80]), (10, [81, 82]), (11, [0, 1, 9, 10, 64, 83])]),
  (141, [(0, [8, 9]), (1, [3, 12, 13, 14, 15, 16, 17, 18, 19, 20, 21, 22, 23, 24, 25]), (2, [2, 26, 27, 28, 29]), (3, [30, 31, 32, 33, 34, 35, 36, 37, 38, 39, 40, 41, 42]), (4, [43, 44, 45]), (5, [46, 47, 48, 49, 50, 51, 52, 53, 54, 55, 56, 57, 58, 59]), (6, [60, 61, 62]), (7, [60, 63, 64]), (8, [0, 1, 10, 65, 66, 67, 68, 69, 70, 71, 72, 73, 74, 75, 76, 77, 78, 79]), (9, [11, 80]), (10, [65, 81, 82, 83, 84, 85, 86, 87, 88, 89, 90, 91, 92, 93, 94]), (11, [95, 96]), (12, [97, 98]), (13, [99, 100, 101, 102, 103, 104, 105, 106, 107, 108, 109, 110, 111]), (14, [112, 113, 114]), (15, [115, 116, 117, 118, 119, 120, 121, 122, 123, 124, 125, 126, 127, 128]), (16, [129, 130, 131]), (17, [129, 132, 133]), (18, [134, 135, 136, 137, 138, 139, 140, 141, 142, 143, 144, 145, 146, 147, 148]), (19, [149, 150]), (20, [151, 152]), (21, [0, 1, 10, 134, 153, 154, 155, 156, 157, 158, 159, 160, 161, 162, 163, 164, 165, 166]), (22, [11, 167])]),
  (142, [(1, [6, 7, 8]), (2, [10, 11, 12, 30]), (3, [9, 13, 14, 15, 16, 17, 18]), (4, [5, 19, 20, 21, 22, 23, 24, 25, 26, 27, 28, 29])]),
  (143, [(3, [8, 9]), (4, [3, 10, 11, 12, 13, 14, 15, 16, 17, 18, 19, 20, 21, 22, 23, 24, 25, 26, 27, 28, 29, 30, 31, 32, 33, 34, 35, 36, 37, 38, 39, 40, 41, 42, 43, 44]), (5, [45]), (6, [0, 7, 8]), (7, [46]), (8, [48, 49]), (9, [47, 50, 51, 52, 53, 54, 55, 56, 57]), (10, [5, 6, 58, 59, 60, 61, 62, 63, 64, 65, 66, 67, 68, 69, 70, 71, 72, 73, 74, 75, 76, 77, 78, 79, 80, 81, 82]), (11, [4, 47, 83])]),
  (144, [(0, [4]), (2, [1]), (4, [11, 12, 13]), (5, [7, 14, 15, 16, 17, 18, 19]), (6, [20]), (7, [0, 5, 8, 9, 10, 11, 21])]),
  (145, [(0, [0, 2]), (1, [1, 3])]),
  (147, [(0, [4, 5]), (1, [6]), (2, [7, 8]), (3, [7, 9, 10, 11, 12, 13, 14, 15, 16, 17, 18, 19, 20]), (4, [0, 1, 21, 22, 23, 24])]),
  (148, [(0, [1, 10]), (1, [11, 12, 13]), (2, [14, 15]), (3, [16, 17, 18, 19, 20, 21, 22, 23, 24, 25, 26, 27, 28, 29, 30, 31, 32, 33, 34, 35]), (4, [36, 37, 38]), (5, [36, 39, 40, 41, 42, 43, 44, 45, 46, 47, 48, 49, 50, 51]), (6, [8, 52, 53, 54, 55, 56, 57, 58, 59, 60, 61, 62, 63, 64, 65, 66, 67, 68, 69, 70, 71, 72, 73, 74]), (7, [9, 75])]),
  (149, [(0, [2]), (1, [0, 3, 4, 5, 6])]),
  (150, [(0, [2]), (1, [3, 4, 5, 6, 7, 8, 9, 10, 11]), (2, [12, 13, 14, 15, 16, 17, 18, 19, 20]), (3, [21, 22, 23, 24, 25, 26, 27, 28, 29]), (4, [0, 30, 31, 32])]),
  (151, [(0, [6]), (1, [0, 1, 2, 7, 8, 9, 10, 11, 12, 13, 14])]),
  (152, [(0, [10]), (1, [11, 12, 13, 14, 15, 16, 17, 18]), (2, [3, 19, 20, 21, 22, 23, 24, 25, 26]), (3, [0, 1, 4, 27, 28, 29, 30, 31, 32, 33, 34]), (4, [2, 35])]),
  (153, [(0, [2]), (1, [0, 3, 4, 5])]),
  (154, [(0, [4]), (1, [1, 6, 7, 8]), (2, [0, 5, 9, 10, 11, 12, 13, 14, 15, 16])]),
  (155, [(0, [4, 5]), (1, [3, 6, 7, 8, 9, 10, 11, 12, 13, 14]), (2, [15, 16, 17])]),
  (156, [(0, [1, 5, 6, 7, 8, 9, 10, 11, 12, 13, 14, 15, 16, 17, 18, 19]), (1, [20, 21, 22, 23, 24, 25]), (2, [0, 4, 26, 27, 28, 29])]),
  (157, [(0, [8, 9]), (1, [0, 10, 11, 12, 13, 14, 15, 16, 17]), (2, [3, 18, 19, 20, 21, 22, 23]), (3, [1, 2, 24, 25]), (4, [1, 2, 3, 18, 26, 27])])
]
def deadLTab : List (Nat × List (Nat × List Nat)) := [
  (102, [(1, [13])]),
  (138, [(5, [14])]),
  (140, [(5, [43])]),
  (141, [(5, [43]), (15, [112])])
]
def deadOf (f id : Nat) : List Nat := ((deadTab.lookup f).bind (·.lookup id)).getD []
def deadLOf (f id : Nat) : List Nat := ((deadLTab.lookup f).bind (·.lookup id)).getD []
@[simp] theorem dd_2_0 : deadOf 2 0 = [0] := rfl
@[simp] theorem dd_3_0 : deadOf 3 0 = [20] := rfl
@[simp] theorem dd_3_1 : deadOf 3 1 = [59] := rfl
@[simp] theorem dd_3_2 : deadOf 3 2 = [60] := rfl
@[simp] theorem dd_3_3 : deadOf 3 3 = [0, 1, 2, 3, 4, 5, 6, 7, 8, 9, 21, 61] := rfl
@[simp] theorem dd_3_4 : deadOf 3 4 = [0, 1, 61, 62, 63, 64] := rfl
@[simp] theorem dd_3_5 : deadOf 3 5 = [3, 65, 66, 67, 68] := rfl
@[simp] theorem dd_3_6 : deadOf 3 6 = [69, 70, 71, 72, 73] := rfl
@[simp] theorem dd_3_7 : deadOf 3 7 = [74, 75, 76] := rfl
@[simp] theorem dd_3_8 : deadOf 3 8 = [77, 78, 79, 80, 81] := rfl
@[simp] theorem dd_3_9 : deadOf 3 9 = [82] := rfl
@[simp] theorem dd_3_10 : deadOf 3 10 = [] := rfl
@[simp] theorem dd_3_11 : deadOf 3 11 = [83, 84, 85, 86, 87, 88, 89, 90, 91, 92, 93, 94, 95] := rfl
@[simp] theorem dd_3_12 : deadOf 3 12 = [97, 98] := rfl
@[simp] theorem dd_3_13 : deadOf 3 13 = [96, 99] := rfl
@[simp] theorem dd_3_14 : deadOf 3 14 = [100, 101, 102, 103, 104] := rfl
@[simp] theorem dd_3_15 : deadOf 3 15 = [105, 106] := rfl
@[simp] theorem dd_3_16 : deadOf 3 16 = [105, 107, 108, 109, 110, 111, 112, 113, 114, 115] := rfl
@[simp] theorem dd_3_17 : deadOf 3 17 = [116, 117] := rfl
@[simp] theorem dd_3_18 : deadOf 3 18 = [] := rfl
@[simp] theorem dd_3_19 : deadOf 3 19 = [121, 122, 123] := rfl
@[simp] theorem dd_3_20 : deadOf 3 20 = [124, 125, 126, 127, 128, 129, 130, 131] := rfl
@[simp] theorem dd_3_21 : deadOf 3 21 = [] := rfl
@[simp] theorem dd_3_22 : deadOf 3 22 = [135, 136, 137] := rfl
@[simp] theorem dd_3_23 : deadOf 3 23 = [138, 139, 140, 141, 142] := rfl
@[simp] theorem dd_3_24 : deadOf 3 24 = [] := rfl
@[simp] theorem dd_3_25 : deadOf 3 25 = [146, 147, 148] := rfl
@[simp] theorem dd_3_26 : deadOf 3 26 = [149, 150, 151, 152, 153, 154, 155, 156] := rfl
@[simp] theorem dd_3_27 : deadOf 3 27 = [34, 157, 158, 159, 160, 161, 162, 163, 164] := rfl
@[simp] theorem dd_3_28 : deadOf 3 28 = [35, 36, 37, 38, 165, 166, 167, 168, 169, 170, 171, 172] := rfl
@[simp] theorem dd_3_29 : deadOf 3 29 = [2, 4, 5, 6, 7, 8, 9, 21, 22, 23, 24, 25, 26, 27, 28, 30, 32, 118, 119, 120, 132, 133, 134, 143, 144, 145, 173] := rfl
@[simp] theorem dd_3_30 : deadOf 3 30 = [173, 174] := rfl
@[simp] theorem dd_3_31 : deadOf 3 31 = [32, 143, 144, 145, 146, 175] := rfl
@[simp] theorem dd_3_32 : deadOf 3 32 = [30, 132, 133, 134, 135, 176] := rfl
@[simp] theorem dd_3_33 : deadOf 3 33 = [27, 28, 40, 118, 119, 120, 121, 177, 178, 179, 180, 181, 182, 183, 184, 185, 186, 187, 188, 189, 190] := rfl
@[simp] theorem dd_3_34 : deadOf 3 34 = [39, 191, 192, 193, 194] := rfl
@[simp] theorem dd_3_35 : deadOf 3 35 = [4, 5, 6, 22, 23, 26, 96, 195, 196] := rfl
@[simp] theorem dd_3_36 : deadOf 3 36 = [197, 198] := rfl
@[simp] theorem dd_3_37 : deadOf 3 37 = [199, 200, 201, 202, 203] := rfl
@[simp] theorem dd_3_38 : deadOf 3 38 = [2, 7, 8, 44, 204, 205, 206, 207, 208, 209, 210, 211, 212, 213, 214] := rfl
@[simp] theorem dd_3_39 : deadOf 3 39 = [25, 42, 43, 215, 216, 217, 218, 219, 220, 221, 222, 223, 224, 225, 226, 227, 228, 229] := rfl
@[simp] theorem dd_3_40 : deadOf 3 40 = [2, 7, 8, 25, 41, 199] := rfl
@[simp] theorem dd_3_41 : deadOf 3 41 = [] := rfl
@[simp] theorem dd_3_42 : deadOf 3 42 = [233, 234, 235] := rfl
@[simp] theorem dd_3_43 : deadOf 3 43 = [] := rfl
@[simp] theorem dd_3_44 : deadOf 3 44 = [236, 237, 238] := rfl
@[simp] theorem dd_3_45 : deadOf 3 45 = [240, 241, 296] := rfl
@[simp] theorem dd_3_46 : deadOf 3 46 = [239] := rfl
@[simp] theorem dd_3_47 : deadOf 3 47 = [242, 243, 244] := rfl
@[simp] theorem dd_3_48 : deadOf 3 48 = [246, 247, 268] := rfl
@[simp] theorem dd_3_49 : deadOf 3 49 = [245, 248, 249, 250, 251, 252, 253, 254, 255, 256, 257, 258, 259, 260, 261, 262, 263, 264, 265, 266, 267] := rfl
@[simp] theorem dd_3_50 : deadOf 3 50 = [9, 21, 24, 46, 47, 48, 230, 231, 232, 268] := rfl
@[simp] theorem dd_3_51 : deadOf 3 51 = [48, 245, 269, 270, 271, 272, 273, 274, 275, 276, 277, 278, 279, 280, 281, 282, 283, 284, 285, 286, 287, 288, 289, 290, 291, 292, 293, 294, 295] := rfl
@[simp] theorem dd_3_52 : deadOf 3 52 = [9, 21, 24, 46, 47, 230, 231, 232, 296] := rfl
@[simp] theorem dd_3_53 : deadOf 3 53 = [47, 239, 297, 298] := rfl
@[simp] theorem dd_3_54 : deadOf 3 54 = [] := rfl
@[simp] theorem dd_3_55 : deadOf 3 55 = [302, 303, 304] := rfl
@[simp] theorem dd_3_56 : deadOf 3 56 = [305, 306, 307, 308, 309, 310, 311, 312] := rfl
@[simp] theorem dd_3_57 : deadOf 3 57 = [50, 313, 314, 315, 316, 317, 318, 319, 320] := rfl
@[simp] theorem dd_3_58 : deadOf 3 58 = [51, 52, 53, 54, 55, 56, 57, 58, 321, 322, 323, 324, 325, 326, 327, 328, 329, 330, 331, 332, 333, 334, 335, 336, 337, 338] := rfl
@[simp] theorem dd_3_59 : deadOf 3 59 = [9, 21, 24, 46, 230, 231, 232, 299, 300, 301, 339] := rfl
@[simp] theorem dd_3_60 : deadOf 3 60 = [339, 340] := rfl
@[simp] theorem dd_3_61 : deadOf 3 61 = [46, 299, 300, 301, 302, 341] := rfl
@[simp] theorem dd_3_62 : deadOf 3 62 = [9, 21, 24, 230, 231, 232, 233, 342] := rfl
@[simp] theorem dd_4_0 : deadOf 4 0 = [14] := rfl
@[simp] theorem dd_4_1 : deadOf 4 1 = [37] := rfl
@[simp] theorem dd_4_2 : deadOf 4 2 = [38] := rfl
@[simp] theorem dd_4_3 : deadOf 4 3 = [0, 1, 2, 3, 4, 5, 6, 15, 39] := rfl
@[simp] theorem dd_4_4 : deadOf 4 4 = [0, 1, 39, 40, 41, 42] := rfl
@[simp] theorem dd_4_5 : deadOf 4 5 = [3, 43, 44, 45, 46] := rfl
@[simp] theorem dd_4_6 : deadOf 4 6 = [47, 48, 49] := rfl
@[simp] theorem dd_4_7 : deadOf 4 7 = [50, 51, 52, 53, 54, 55] := rfl
@[simp] theorem dd_4_8 : deadOf 4 8 = [56, 57, 58, 59, 60, 61, 62, 63, 64, 65] := rfl
@[simp] theorem dd_4_9 : deadOf 4 9 = [21, 66, 67, 68, 69, 70, 71, 72, 73, 74, 75, 76, 77, 78, 79, 80, 81, 82] := rfl
@[simp] theorem dd_4_10 : deadOf 4 10 = [2, 4, 5, 6, 15, 16, 17, 18, 19, 20, 83] := rfl
@[simp] theorem dd_4_11 : deadOf 4 11 = [83] := rfl
@[simp] theorem dd_4_12 : deadOf 4 12 = [84, 85, 86, 87] := rfl
@[simp] theorem dd_4_13 : deadOf 4 13 = [89, 90, 126] := rfl
@[simp] theorem dd_4_14 : deadOf 4 14 = [88, 91, 92, 93, 94, 95, 96, 97, 98, 99, 100, 101, 102, 103, 104, 105, 106, 107, 108, 109, 110, 111, 112, 113, 114, 115, 116, 117, 118, 119, 120, 121, 122, 123, 124, 125] := rfl
@[simp] theorem dd_4_15 : deadOf 4 15 = [2, 4, 5, 6, 15, 16, 17, 18, 19, 20, 22, 126] := rfl
@[simp] theorem dd_4_16 : deadOf 4 16 = [22, 88, 127, 128, 129, 130, 131, 132] := rfl
@[simp] theorem dd_4_17 : deadOf 4 17 = [5, 17, 23, 133, 134, 135, 136, 137, 138, 139, 140, 141, 142] := rfl
@[simp] theorem dd_4_18 : deadOf 4 18 = [25, 143] := rfl
@[simp] theorem dd_4_19 : deadOf 4 19 = [2, 4, 6, 15, 16, 18, 19, 20, 24, 144] := rfl
@[simp] theorem dd_4_20 : deadOf 4 20 = [2, 4, 27, 144, 145, 146, 147, 148, 149, 150, 151, 152] := rfl
@[simp] theorem dd_4_21 : deadOf 4 21 = [26, 153, 154, 155, 156, 157, 158, 159] := rfl
@[simp] theorem dd_4_22 : deadOf 4 22 = [20, 24, 160, 161, 162, 163, 164, 165, 166] := rfl
@[simp] theorem dd_4_23 : deadOf 4 23 = [] := rfl
@[simp] theorem dd_4_24 : deadOf 4 24 = [167, 168, 169, 170] := rfl
@[simp] theorem dd_4_25 : deadOf 4 25 = [172, 173, 176] := rfl
@[simp] theorem dd_4_26 : deadOf 4 26 = [171, 174, 175] := rfl
@[simp] theorem dd_4_27 : deadOf 4 27 = [176, 177, 178, 179, 180, 181, 182, 183, 184, 185, 186, 187, 188, 189] := rfl
@[simp] theorem dd_4_28 : deadOf 4 28 = [6, 28, 29, 30, 171, 190, 191] := rfl
@[simp] theorem dd_4_29 : deadOf 4 29 = [] := rfl
@[simp] theorem dd_4_30 : deadOf 4 30 = [195, 196, 197] := rfl
@[simp] theorem dd_4_31 : deadOf 4 31 = [198, 199, 200] := rfl
@[simp] theorem dd_4_32 : deadOf 4 32 = [201] := rfl
@[simp] theorem dd_4_33 : deadOf 4 33 = [202, 203, 204, 205] := rfl
@[simp] theorem dd_4_34 : deadOf 4 34 = [207, 208, 252] := rfl
@[simp] theorem dd_4_35 : deadOf 4 35 = [206, 209, 210, 211, 212, 213] := rfl
@[simp] theorem dd_4_36 : deadOf 4 36 = [214, 215, 216, 217, 218, 219, 220, 221] := rfl
@[simp] theorem dd_4_37 : deadOf 4 37 = [15, 16, 18, 19, 32, 33, 34, 192, 193, 194, 222] := rfl
@[simp] theorem dd_4_38 : deadOf 4 38 = [36, 222, 223, 224, 225, 226, 227, 228, 229, 230, 231, 232, 233] := rfl
@[simp] theorem dd_4_39 : deadOf 4 39 = [34, 35, 234, 235, 236, 237, 238, 239, 240, 241, 242, 243, 244, 245, 246, 247, 248, 249, 250, 251] := rfl
@[simp] theorem dd_4_40 : deadOf 4 40 = [15, 16, 18, 19, 32, 33, 192, 193, 194, 252] := rfl
@[simp] theorem dd_4_41 : deadOf 4 41 = [32, 33, 201, 206, 253] := rfl
@[simp] theorem dd_4_42 : deadOf 4 42 = [15, 16, 18, 19, 192, 193, 194, 195, 254] := rfl
@[simp] theorem dd_5_0 : deadOf 5 0 = [14] := rfl
@[simp] theorem dd_5_1 : deadOf 5 1 = [38] := rfl
@[simp] theorem dd_5_2 : deadOf 5 2 = [39] := rfl
@[simp] theorem dd_5_3 : deadOf 5 3 = [0, 1, 2, 3, 4, 5, 6, 15, 40] := rfl
@[simp] theorem dd_5_4 : deadOf 5 4 = [0, 1, 40, 41, 42, 43] := rfl
@[simp] theorem dd_5_5 : deadOf 5 5 = [2, 3, 44, 45, 46, 47] := rfl
@[simp] theorem dd_5_6 : deadOf 5 6 = [48, 49, 50] := rfl
@[simp] theorem dd_5_7 : deadOf 5 7 = [4, 51, 52, 53, 54, 55, 56] := rfl
@[simp] theorem dd_5_8 : deadOf 5 8 = [57, 58, 59, 60, 61, 62, 63] := rfl
@[simp] theorem dd_5_9 : deadOf 5 9 = [64, 65, 66, 67, 68, 69, 70, 71, 72] := rfl
@[simp] theorem dd_5_10 : deadOf 5 10 = [73, 74, 75, 76, 77, 78, 79, 80, 81] := rfl
@[simp] theorem dd_5_11 : deadOf 5 11 = [21, 22, 23, 25, 82, 83, 84, 85, 86, 87, 88, 89, 90, 91, 92, 93, 94, 95, 96, 97, 98] := rfl
@[simp] theorem dd_5_12 : deadOf 5 12 = [5, 6, 15, 16, 17, 18, 19, 20, 24, 99] := rfl
@[simp] theorem dd_5_13 : deadOf 5 13 = [5, 99, 100, 101, 102, 103, 104, 105] := rfl
@[simp] theorem dd_5_14 : deadOf 5 14 = [106, 107, 108, 109, 110, 111, 112] := rfl
@[simp] theorem dd_5_15 : deadOf 5 15 = [28, 113] := rfl
@[simp] theorem dd_5_16 : deadOf 5 16 = [6, 15, 16, 17, 18, 19, 20, 24, 26, 27, 114] := rfl
@[simp] theorem dd_5_17 : deadOf 5 17 = [30, 114, 115, 116, 117, 118, 119, 120, 121, 122, 123] := rfl
@[simp] theorem dd_5_18 : deadOf 5 18 = [6, 24, 29, 124, 125, 126, 127, 128, 129, 130, 131] := rfl
@[simp] theorem dd_5_19 : deadOf 5 19 = [] := rfl
@[simp] theorem dd_5_20 : deadOf 5 20 = [135, 136, 137] := rfl
@[simp] theorem dd_5_21 : deadOf 5 21 = [138, 139, 140, 141, 142] := rfl
@[simp] theorem dd_5_22 : deadOf 5 22 = [143, 144, 145] := rfl
@[simp] theorem dd_5_23 : deadOf 5 23 = [15, 16, 17, 18, 19, 20, 26, 27, 32, 132, 133, 134, 146] := rfl
@[simp] theorem dd_5_24 : deadOf 5 24 = [146] := rfl
@[simp] theorem dd_5_25 : deadOf 5 25 = [147, 148] := rfl
@[simp] theorem dd_5_26 : deadOf 5 26 = [150, 151, 162, 192] := rfl
@[simp] theorem dd_5_27 : deadOf 5 27 = [149, 152, 153, 154, 155, 156, 157, 158, 159, 160, 161] := rfl
@[simp] theorem dd_5_28 : deadOf 5 28 = [35, 36, 162, 163, 164, 165, 166, 167, 168, 169, 170, 171, 172] := rfl
@[simp] theorem dd_5_29 : deadOf 5 29 = [173, 174, 175, 176, 177, 178, 179, 180, 181, 182, 183, 184, 185] := rfl
@[simp] theorem dd_5_30 : deadOf 5 30 = [34, 186, 187, 188] := rfl
@[simp] theorem dd_5_31 : deadOf 5 31 = [37, 189, 190, 191] := rfl
@[simp] theorem dd_5_32 : deadOf 5 32 = [15, 16, 17, 18, 19, 20, 26, 27, 32, 33, 132, 133, 134, 192] := rfl
@[simp] theorem dd_5_33 : deadOf 5 33 = [32, 33, 143, 149, 193] := rfl
@[simp] theorem dd_5_34 : deadOf 5 34 = [15, 16, 17, 18, 19, 20, 26, 27, 132, 133, 134, 135, 194] := rfl
@[simp] theorem dd_6_0 : deadOf 6 0 = [2, 3, 14] := rfl
@[simp] theorem dd_6_1 : deadOf 6 1 = [30] := rfl
@[simp] theorem dd_6_2 : deadOf 6 2 = [31] := rfl
@[simp] theorem dd_6_3 : deadOf 6 3 = [0, 1, 4, 5, 6, 9, 10, 15, 32] := rfl
@[simp] theorem dd_6_4 : deadOf 6 4 = [0, 1, 32, 33, 34, 35] := rfl
@[simp] theorem dd_6_5 : deadOf 6 5 = [36, 37, 38] := rfl
@[simp] theorem dd_6_6 : deadOf 6 6 = [39, 40, 41, 42, 43, 44, 45] := rfl
@[simp] theorem dd_6_7 : deadOf 6 7 = [9, 46, 47, 48, 49, 50, 51, 52] := rfl
@[simp] theorem dd_6_8 : deadOf 6 8 = [53, 54, 55, 56, 57, 58, 59, 60, 61, 62, 63] := rfl
@[simp] theorem dd_6_9 : deadOf 6 9 = [10, 19, 64, 65, 66, 67, 68, 69, 70, 71, 72, 73, 74] := rfl
@[simp] theorem dd_6_10 : deadOf 6 10 = [21, 22, 23, 75, 76, 77, 78, 79, 80, 81, 82, 83, 84, 85, 86, 87, 88, 89, 90, 91] := rfl
@[simp] theorem dd_6_11 : deadOf 6 11 = [4, 5, 6, 15, 16, 17, 18, 20, 92] := rfl
@[simp] theorem dd_6_12 : deadOf 6 12 = [4, 5, 6, 92, 93, 94, 95, 96, 97, 98, 99, 100] := rfl
@[simp] theorem dd_6_13 : deadOf 6 13 = [25, 101, 102, 103, 104, 105, 106, 107] := rfl
@[simp] theorem dd_6_14 : deadOf 6 14 = [15, 16, 17, 18, 20, 24, 108, 109] := rfl
@[simp] theorem dd_6_15 : deadOf 6 15 = [108, 110, 111, 112, 113] := rfl
@[simp] theorem dd_6_16 : deadOf 6 16 = [15, 16, 17, 18, 20, 24, 114, 115, 116, 117, 118, 119, 120, 121, 122, 123, 124, 125, 126, 127, 128, 129, 130, 131, 132, 133, 134, 135, 136, 137, 138, 139] := rfl
@[simp] theorem dd_6_17 : deadOf 6 17 = [17, 20, 114] := rfl
@[simp] theorem dd_6_18 : deadOf 6 18 = [140, 141, 142, 143] := rfl
@[simp] theorem dd_6_19 : deadOf 6 19 = [145, 146, 192] := rfl
@[simp] theorem dd_6_20 : deadOf 6 20 = [144, 147, 148, 149, 150, 151] := rfl
@[simp] theorem dd_6_21 : deadOf 6 21 = [29, 152, 153, 154, 155, 156, 157, 158, 159, 160, 161, 162] := rfl
@[simp] theorem dd_6_22 : deadOf 6 22 = [27, 28, 163, 164, 165, 166, 167, 168, 169, 170, 171, 172, 173, 174, 175, 176, 177, 178, 179, 180, 181, 182, 183, 184, 185, 186, 187, 188, 189, 190, 191] := rfl
@[simp] theorem dd_6_23 : deadOf 6 23 = [15, 16, 18, 24, 26, 192] := rfl
@[simp] theorem dd_6_24 : deadOf 6 24 = [15, 16, 18, 24, 26, 144, 193] := rfl
@[simp] theorem dd_7_0 : deadOf 7 0 = [4, 5, 12] := rfl
@[simp] theorem dd_7_1 : deadOf 7 1 = [28] := rfl
@[simp] theorem dd_7_2 : deadOf 7 2 = [29] := rfl
@[simp] theorem dd_7_3 : deadOf 7 3 = [0, 1, 2, 3, 10, 11, 13, 30] := rfl
@[simp] theorem dd_7_4 : deadOf 7 4 = [0, 1, 30, 31, 32, 33] := rfl
@[simp] theorem dd_7_5 : deadOf 7 5 = [2, 3, 34, 35, 36, 37] := rfl
@[simp] theorem dd_7_6 : deadOf 7 6 = [38, 39, 40] := rfl
@[simp] theorem dd_7_7 : deadOf 7 7 = [41, 42, 43, 44, 45, 46, 47] := rfl
@[simp] theorem dd_7_8 : deadOf 7 8 = [10, 48, 49, 50, 51, 52, 53, 54] := rfl
@[simp] theorem dd_7_9 : deadOf 7 9 = [55, 56, 57, 58] := rfl
@[simp] theorem dd_7_10 : deadOf 7 10 = [11, 59, 60, 61, 62] := rfl
@[simp] theorem dd_7_11 : deadOf 7 11 = [63, 64, 65, 66, 67, 68, 69, 70] := rfl
@[simp] theorem dd_7_12 : deadOf 7 12 = [71, 72, 73, 74, 75, 76, 77, 78] := rfl
@[simp] theorem dd_7_13 : deadOf 7 13 = [22, 24, 79, 80, 81, 82, 83, 84, 85, 86, 87, 88, 89, 90, 91, 92, 93, 94] := rfl
@[simp] theorem dd_7_14 : deadOf 7 14 = [13, 14, 15, 16, 17, 18, 19, 20, 21, 23, 95] := rfl
@[simp] theorem dd_7_15 : deadOf 7 15 = [95] := rfl
@[simp] theorem dd_7_16 : deadOf 7 16 = [] := rfl
@[simp] theorem dd_7_17 : deadOf 7 17 = [96, 97, 98] := rfl
@[simp] theorem dd_7_18 : deadOf 7 18 = [27, 100, 101, 105] := rfl
@[simp] theorem dd_7_19 : deadOf 7 19 = [99] := rfl
@[simp] theorem dd_7_20 : deadOf 7 20 = [102, 103, 104] := rfl
@[simp] theorem dd_7_21 : deadOf 7 21 = [106, 107] := rfl
@[simp] theorem dd_7_22 : deadOf 7 22 = [105, 108, 109, 110, 111, 112, 113, 114, 115, 116, 117, 118, 119, 120, 121, 122, 123, 124, 125, 126, 127, 128, 129, 130, 131, 132, 133, 134, 135, 136, 137, 138] := rfl
@[simp] theorem dd_7_23 : deadOf 7 23 = [19, 20, 25, 26, 99, 139, 140, 141, 142, 143, 144, 145] := rfl
@[simp] theorem dd_7_24 : deadOf 7 24 = [13, 14, 15, 16, 17, 18, 21, 23, 146] := rfl
@[simp] theorem dd_7_25 : deadOf 7 25 = [146, 147, 148, 149, 150, 151, 152, 153, 154, 155, 156, 157, 158, 159] := rfl
@[simp] theorem dd_7_26 : deadOf 7 26 = [13, 14, 15, 16, 17, 18, 21, 23, 160, 161] := rfl
@[simp] theorem dd_7_27 : deadOf 7 27 = [13, 14, 15, 16, 17, 18, 21, 23, 160, 162, 163, 164, 165, 166, 167, 168, 169, 170, 171, 172, 173, 174, 175, 176, 177, 178] := rfl
@[simp] theorem dd_8_0 : deadOf 8 0 = [14] := rfl
@[simp] theorem dd_8_1 : deadOf 8 1 = [26] := rfl
@[simp] theorem dd_8_2 : deadOf 8 2 = [15, 27] := rfl
@[simp] theorem dd_8_3 : deadOf 8 3 = [0, 1, 2, 3, 4, 5, 6, 28] := rfl
@[simp] theorem dd_8_4 : deadOf 8 4 = [0, 1, 28, 29, 30, 31] := rfl
@[simp] theorem dd_8_5 : deadOf 8 5 = [32, 33, 34] := rfl
@[simp] theorem dd_8_6 : deadOf 8 6 = [2, 35, 36, 37, 38, 39, 40] := rfl
@[simp] theorem dd_8_7 : deadOf 8 7 = [41, 42, 43, 44, 45, 46, 47] := rfl
@[simp] theorem dd_8_8 : deadOf 8 8 = [48] := rfl
@[simp] theorem dd_8_9 : deadOf 8 9 = [6, 49, 50, 51, 52, 53, 54] := rfl
@[simp] theorem dd_8_10 : deadOf 8 10 = [16, 18, 20, 21, 55, 56, 57, 58, 59, 60, 61, 62, 63, 64, 65, 66, 67, 68, 69, 70, 71, 72, 73, 74, 75, 76, 77, 78, 79, 80, 81, 82, 83, 84, 85] := rfl
@[simp] theorem dd_8_11 : deadOf 8 11 = [3, 4, 5, 17, 19, 86] := rfl
@[simp] theorem dd_8_12 : deadOf 8 12 = [3, 4, 86, 87, 88, 89, 90, 91, 92, 93, 94, 95] := rfl
@[simp] theorem dd_8_13 : deadOf 8 13 = [96, 97, 98] := rfl
@[simp] theorem dd_8_14 : deadOf 8 14 = [22, 23, 99, 100, 101, 102, 103, 104, 105, 106, 107, 108, 109, 110, 111, 112, 113, 114, 115, 116, 117, 118, 119, 120, 121, 122, 123, 124, 125, 126, 127, 128] := rfl
@[simp] theorem dd_8_15 : deadOf 8 15 = [5, 17, 19, 24, 129] := rfl
@[simp] theorem dd_8_16 : deadOf 8 16 = [5, 129, 130, 131, 132, 133] := rfl
@[simp] theorem dd_8_17 : deadOf 8 17 = [17, 19, 24, 25, 134, 135, 136, 137, 138, 139, 140, 141, 142, 143, 144, 145, 146, 147, 148, 149, 150] := rfl
@[simp] theorem dd_9_0 : deadOf 9 0 = [10] := rfl
@[simp] theorem dd_9_1 : deadOf 9 1 = [43] := rfl
@[simp] theorem dd_9_2 : deadOf 9 2 = [44] := rfl
@[simp] theorem dd_9_3 : deadOf 9 3 = [0, 1, 2, 3, 4, 11, 45] := rfl
@[simp] theorem dd_9_4 : deadOf 9 4 = [0, 1, 45, 46, 47, 48] := rfl
@[simp] theorem dd_9_5 : deadOf 9 5 = [49, 50, 51] := rfl
@[simp] theorem dd_9_6 : deadOf 9 6 = [] := rfl
@[simp] theorem dd_9_7 : deadOf 9 7 = [] := rfl
@[simp] theorem dd_9_8 : deadOf 9 8 = [] := rfl
@[simp] theorem dd_9_9 : deadOf 9 9 = [] := rfl
@[simp] theorem dd_9_10 : deadOf 9 10 = [52, 53, 54, 55, 56, 57, 58, 59, 60, 61, 62, 63, 64] := rfl
@[simp] theorem dd_9_11 : deadOf 9 11 = [19, 29, 66, 67, 145] := rfl
@[simp] theorem dd_9_12 : deadOf 9 12 = [65, 68, 69, 70, 71, 72, 73, 74, 75, 76] := rfl
@[simp] theorem dd_9_13 : deadOf 9 13 = [18, 77, 78, 79, 80, 81, 82, 83, 84, 85, 86, 87, 88, 89] := rfl
@[simp] theorem dd_9_14 : deadOf 9 14 = [20, 90] := rfl
@[simp] theorem dd_9_15 : deadOf 9 15 = [2, 3, 4, 11, 12, 13, 14, 15, 16, 17, 19, 91] := rfl
@[simp] theorem dd_9_16 : deadOf 9 16 = [91, 92, 93, 94, 95, 96, 97, 98, 99] := rfl
@[simp] theorem dd_9_17 : deadOf 9 17 = [100, 101, 102, 103] := rfl
@[simp] theorem dd_9_18 : deadOf 9 18 = [104, 105, 106, 107, 108, 109, 110, 111] := rfl
@[simp] theorem dd_9_19 : deadOf 9 19 = [21, 22, 23, 24, 25, 26, 27, 28, 112, 113, 114, 115, 116, 117, 118, 119, 120, 121, 122, 123, 124, 125, 126, 127, 128, 129, 130, 131, 132, 133, 134, 135, 136, 137, 138, 139] := rfl
@[simp] theorem dd_9_20 : deadOf 9 20 = [2, 3, 4, 11, 12, 13, 14, 15, 16, 17, 19, 140] := rfl
@[simp] theorem dd_9_21 : deadOf 9 21 = [140] := rfl
@[simp] theorem dd_9_22 : deadOf 9 22 = [141, 142, 143, 144] := rfl
@[simp] theorem dd_9_23 : deadOf 9 23 = [30, 146, 147, 165] := rfl
@[simp] theorem dd_9_24 : deadOf 9 24 = [145, 148, 149, 150, 151, 152, 153] := rfl
@[simp] theorem dd_9_25 : deadOf 9 25 = [154, 155, 156, 157, 158, 159, 160, 161, 162, 163, 164] := rfl
@[simp] theorem dd_9_26 : deadOf 9 26 = [30, 165, 166, 167] := rfl
@[simp] theorem dd_9_27 : deadOf 9 27 = [168, 169] := rfl
@[simp] theorem dd_9_28 : deadOf 9 28 = [2, 3, 17, 65] := rfl
@[simp] theorem dd_9_29 : deadOf 9 29 = [] := rfl
@[simp] theorem dd_9_30 : deadOf 9 30 = [170, 171, 172] := rfl
@[simp] theorem dd_9_31 : deadOf 9 31 = [174, 175] := rfl
@[simp] theorem dd_9_32 : deadOf 9 32 = [173, 176, 177, 178, 179, 180, 181, 182, 183, 184, 185, 186, 187, 188, 189, 190] := rfl
@[simp] theorem dd_9_33 : deadOf 9 33 = [32, 173, 191, 192] := rfl
@[simp] theorem dd_9_34 : deadOf 9 34 = [4, 193, 194, 195, 196, 197, 198, 199, 200, 201, 202, 203] := rfl
@[simp] theorem dd_9_35 : deadOf 9 35 = [4, 14, 193, 204, 205, 206, 207, 208, 209, 210, 211] := rfl
@[simp] theorem dd_9_36 : deadOf 9 36 = [13, 31, 212, 213, 214, 215, 216, 217, 218, 219] := rfl
@[simp] theorem dd_9_37 : deadOf 9 37 = [16, 34, 35, 36, 37, 38, 39, 40, 220, 221, 222, 223, 224, 225, 226, 227, 228, 229, 230, 231, 232, 233, 234, 235, 236, 237, 238, 239, 240, 241, 242, 243, 244, 245, 246, 247, 248, 249, 250, 251, 252] := rfl
@[simp] theorem dd_9_38 : deadOf 9 38 = [11, 12, 15, 33, 253] := rfl
@[simp] theorem dd_9_39 : deadOf 9 39 = [253] := rfl
@[simp] theorem dd_9_40 : deadOf 9 40 = [254, 255, 256] := rfl
@[simp] theorem dd_9_41 : deadOf 9 41 = [258, 259, 315] := rfl
@[simp] theorem dd_9_42 : deadOf 9 42 = [257, 260, 261, 262, 263, 264] := rfl
@[simp] theorem dd_9_43 : deadOf 9 43 = [42, 265, 266, 267, 268, 269, 270, 271, 272, 273, 274, 275, 276, 277, 278, 279, 280, 281, 282, 283, 284, 285, 286, 287, 288, 289, 290, 291, 292, 293, 294, 295, 296, 297, 298, 299, 300, 301, 302, 303, 304, 305, 306, 307, 308, 309, 310, 311, 312, 313, 314] := rfl
@[simp] theorem dd_9_44 : deadOf 9 44 = [11, 12, 15, 33, 41, 315] := rfl
@[simp] theorem dd_9_45 : deadOf 9 45 = [11, 12, 15, 33, 41, 257, 316] := rfl
@[simp] theorem dd_10_0 : deadOf 10 0 = [4, 20] := rfl
@[simp] theorem dd_10_1 : deadOf 10 1 = [58] := rfl
@[simp] theorem dd_10_2 : deadOf 10 2 = [59] := rfl
@[simp] theorem dd_10_3 : deadOf 10 3 = [0, 1, 2, 3, 5, 6, 7, 8, 9, 14, 21, 60] := rfl
@[simp] theorem dd_10_4 : deadOf 10 4 = [0, 1, 60, 61, 62, 63] := rfl
@[simp] theorem dd_10_5 : deadOf 10 5 = [2, 3, 14, 64, 65, 66, 67, 68, 69, 70, 71] := rfl
@[simp] theorem dd_10_6 : deadOf 10 6 = [72, 73, 74, 75, 76] := rfl
@[simp] theorem dd_10_7 : deadOf 10 7 = [77, 78, 79, 80, 81] := rfl
@[simp] theorem dd_10_8 : deadOf 10 8 = [22, 82, 83, 84] := rfl
@[simp] theorem dd_10_9 : deadOf 10 9 = [] := rfl
@[simp] theorem dd_10_10 : deadOf 10 10 = [] := rfl
@[simp] theorem dd_10_11 : deadOf 10 11 = [23] := rfl
@[simp] theorem dd_10_12 : deadOf 10 12 = [] := rfl
@[simp] theorem dd_10_13 : deadOf 10 13 = [88, 89, 90] := rfl
@[simp] theorem dd_10_14 : deadOf 10 14 = [91, 92, 93, 94, 95, 96] := rfl
@[simp] theorem dd_10_15 : deadOf 10 15 = [97, 98, 99, 100, 101, 102] := rfl
@[simp] theorem dd_10_16 : deadOf 10 16 = [29, 30, 31, 32, 103, 104, 105, 106, 107, 108, 109, 110, 111, 112, 113, 114, 115, 116, 117] := rfl
@[simp] theorem dd_10_17 : deadOf 10 17 = [5, 6, 7, 8, 9, 21, 24, 25, 26, 28, 85, 86, 87, 118] := rfl
@[simp] theorem dd_10_18 : deadOf 10 18 = [118, 119, 120, 121, 122, 123, 124, 125, 126, 127, 128, 129, 130, 131, 132, 133, 134, 135, 136] := rfl
@[simp] theorem dd_10_19 : deadOf 10 19 = [] := rfl
@[simp] theorem dd_10_20 : deadOf 10 20 = [140, 141, 142] := rfl
@[simp] theorem dd_10_21 : deadOf 10 21 = [143, 144] := rfl
@[simp] theorem dd_10_22 : deadOf 10 22 = [] := rfl
@[simp] theorem dd_10_23 : deadOf 10 23 = [148, 149, 150] := rfl
@[simp] theorem dd_10_24 : deadOf 10 24 = [151, 152, 153, 154, 155, 156, 157, 158] := rfl
@[simp] theorem dd_10_25 : deadOf 10 25 = [36, 159, 160, 161, 162, 163, 164, 165, 166] := rfl
@[simp] theorem dd_10_26 : deadOf 10 26 = [37, 38, 40, 167, 168, 169, 170, 171, 172, 173] := rfl
@[simp] theorem dd_10_27 : deadOf 10 27 = [5, 6, 7, 8, 9, 21, 24, 25, 26, 28, 34, 39, 85, 86, 87, 137, 138, 139, 145, 146, 147, 174] := rfl
@[simp] theorem dd_10_28 : deadOf 10 28 = [39, 174, 175, 176, 177, 178] := rfl
@[simp] theorem dd_10_29 : deadOf 10 29 = [179] := rfl
@[simp] theorem dd_10_30 : deadOf 10 30 = [145, 146, 147, 148, 180, 181, 182, 183, 184, 185, 186, 187, 188] := rfl
@[simp] theorem dd_10_31 : deadOf 10 31 = [189, 190, 191, 192, 193, 194, 195, 196, 197] := rfl
@[simp] theorem dd_10_32 : deadOf 10 32 = [41, 42, 44, 198, 199, 200, 201, 202, 203, 204, 205] := rfl
@[simp] theorem dd_10_33 : deadOf 10 33 = [5, 6, 7, 8, 9, 21, 24, 25, 26, 28, 34, 43, 85, 86, 87, 137, 138, 139, 206] := rfl
@[simp] theorem dd_10_34 : deadOf 10 34 = [43, 206, 207, 208, 209, 210] := rfl
@[simp] theorem dd_10_35 : deadOf 10 35 = [34, 46, 211, 212, 213, 214, 215, 216, 217, 218] := rfl
@[simp] theorem dd_10_36 : deadOf 10 36 = [45, 219, 220, 221, 222] := rfl
@[simp] theorem dd_10_37 : deadOf 10 37 = [223] := rfl
@[simp] theorem dd_10_38 : deadOf 10 38 = [28, 137, 138, 139, 140, 224] := rfl
@[simp] theorem dd_10_39 : deadOf 10 39 = [5, 6, 85, 86, 87, 88] := rfl
@[simp] theorem dd_10_40 : deadOf 10 40 = [225, 226, 227] := rfl
@[simp] theorem dd_10_41 : deadOf 10 41 = [54, 229, 230, 275] := rfl
@[simp] theorem dd_10_42 : deadOf 10 42 = [49, 228, 231, 232, 233, 234, 235, 236, 237, 238, 239, 240, 241, 242] := rfl
@[simp] theorem dd_10_43 : deadOf 10 43 = [48, 243, 244, 245, 246, 247, 248] := rfl
@[simp] theorem dd_10_44 : deadOf 10 44 = [] := rfl
@[simp] theorem dd_10_45 : deadOf 10 45 = [252, 253, 254] := rfl
@[simp] theorem dd_10_46 : deadOf 10 46 = [255, 256] := rfl
@[simp] theorem dd_10_47 : deadOf 10 47 = [] := rfl
@[simp] theorem dd_10_48 : deadOf 10 48 = [260, 261, 262] := rfl
@[simp] theorem dd_10_49 : deadOf 10 49 = [53, 263, 264, 265, 266, 267, 268] := rfl
@[simp] theorem dd_10_50 : deadOf 10 50 = [7, 8, 9, 21, 24, 25, 26, 47, 51, 249, 250, 251, 257, 258, 259, 269] := rfl
@[simp] theorem dd_10_51 : deadOf 10 51 = [269, 270] := rfl
@[simp] theorem dd_10_52 : deadOf 10 52 = [51, 257, 258, 259, 260, 271] := rfl
@[simp] theorem dd_10_53 : deadOf 10 53 = [249, 250, 251, 252] := rfl
@[simp] theorem dd_10_54 : deadOf 10 54 = [272, 273, 274] := rfl
@[simp] theorem dd_10_55 : deadOf 10 55 = [55, 276, 277, 299, 300, 301, 302] := rfl
@[simp] theorem dd_10_56 : deadOf 10 56 = [275, 278, 279, 280, 281, 282, 283, 284, 285, 286, 287, 288] := rfl
@[simp] theorem dd_10_57 : deadOf 10 57 = [289, 290, 291, 292, 293, 294, 295, 296, 297, 298] := rfl
@[simp] theorem dd_10_58 : deadOf 10 58 = [] := rfl
@[simp] theorem dd_10_59 : deadOf 10 59 = [302, 303, 304] := rfl
@[simp] theorem dd_10_60 : deadOf 10 60 = [57, 305, 306, 307, 308, 309, 310, 311, 312, 313, 314, 315, 316, 317, 318, 319, 320] := rfl
@[simp] theorem dd_10_61 : deadOf 10 61 = [7, 8, 9, 21, 24, 25, 26, 47, 54, 55, 299, 300, 301, 321] := rfl
@[simp] theorem dd_10_62 : deadOf 10 62 = [321, 322] := rfl
@[simp] theorem dd_10_63 : deadOf 10 63 = [7, 8, 9, 21, 24, 25, 26, 47, 228, 323] := rfl
@[simp] theorem dd_11_0 : deadOf 11 0 = [8] := rfl
@[simp] theorem dd_11_1 : deadOf 11 1 = [21] := rfl
@[simp] theorem dd_11_2 : deadOf 11 2 = [9, 22] := rfl
@[simp] theorem dd_11_3 : deadOf 11 3 = [0, 1, 2, 3, 23] := rfl
@[simp] theorem dd_11_4 : deadOf 11 4 = [0, 1, 23, 24, 25, 26] := rfl
@[simp] theorem dd_11_5 : deadOf 11 5 = [27, 28, 29] := rfl
@[simp] theorem dd_11_6 : deadOf 11 6 = [3, 30, 31, 32, 33, 34, 35] := rfl
@[simp] theorem dd_11_7 : deadOf 11 7 = [36, 37, 38, 39, 40, 41, 42] := rfl
@[simp] theorem dd_11_8 : deadOf 11 8 = [10, 43] := rfl
@[simp] theorem dd_11_9 : deadOf 11 9 = [] := rfl
@[simp] theorem dd_11_10 : deadOf 11 10 = [44, 45, 46, 47, 48, 49, 50] := rfl
@[simp] theorem dd_11_11 : deadOf 11 11 = [52, 53] := rfl
@[simp] theorem dd_11_12 : deadOf 11 12 = [51, 54, 55, 56, 57, 58, 59, 60, 61, 62, 63] := rfl
@[simp] theorem dd_11_13 : deadOf 11 13 = [64, 65, 66, 67, 68, 69] := rfl
@[simp] theorem dd_11_14 : deadOf 11 14 = [2, 11, 12, 13, 14, 15, 16, 17, 18, 70] := rfl
@[simp] theorem dd_11_15 : deadOf 11 15 = [70, 71] := rfl
@[simp] theorem dd_11_16 : deadOf 11 16 = [2, 11, 12, 13, 14, 15, 16, 17, 18, 72, 73, 74, 75, 76, 77, 78, 79, 80] := rfl
@[simp] theorem dd_11_17 : deadOf 11 17 = [18, 72, 81, 82, 83, 84, 85, 86, 87, 88, 89, 90, 91, 92, 93, 94, 95, 96, 97, 98, 99, 100, 101, 102, 103, 104, 105, 106, 107, 108, 109, 110, 111, 112, 113, 114, 115, 116, 117, 118, 119, 120, 121] := rfl
@[simp] theorem dd_11_18 : deadOf 11 18 = [2, 11, 12, 13, 14, 15, 16, 17, 122] := rfl
@[simp] theorem dd_11_19 : deadOf 11 19 = [17, 122, 123] := rfl
@[simp] theorem dd_11_20 : deadOf 11 20 = [2, 11, 12, 16, 51, 124, 125, 126, 127, 128, 129, 130] := rfl
@[simp] theorem dd_11_21 : deadOf 11 21 = [13, 14, 15, 19, 20, 131, 132, 133, 134, 135, 136, 137, 138, 139, 140, 141, 142, 143, 144, 145] := rfl
@[simp] theorem dd_12_0 : deadOf 12 0 = [0] := rfl
@[simp] theorem dd_12_1 : deadOf 12 1 = [38] := rfl
@[simp] theorem dd_12_2 : deadOf 12 2 = [39] := rfl
@[simp] theorem dd_12_3 : deadOf 12 3 = [40] := rfl
@[simp] theorem dd_12_4 : deadOf 12 4 = [41, 42] := rfl
@[simp] theorem dd_12_5 : deadOf 12 5 = [43, 44] := rfl
@[simp] theorem dd_12_6 : deadOf 12 6 = [45, 46, 47, 48, 49, 50] := rfl
@[simp] theorem dd_12_7 : deadOf 12 7 = [51, 52, 53, 54, 55, 56] := rfl
@[simp] theorem dd_12_8 : deadOf 12 8 = [57, 58, 59, 60, 61, 62] := rfl
@[simp] theorem dd_12_9 : deadOf 12 9 = [63, 64, 65, 66, 67, 68] := rfl
@[simp] theorem dd_12_10 : deadOf 12 10 = [3, 69, 70, 71, 72, 73, 74] := rfl
@[simp] theorem dd_12_11 : deadOf 12 11 = [75, 76, 77, 78, 79, 80] := rfl
@[simp] theorem dd_12_12 : deadOf 12 12 = [2, 81, 82, 83, 84, 85, 86] := rfl
@[simp] theorem dd_12_13 : deadOf 12 13 = [7, 9, 11, 13, 15, 17, 19, 87, 88, 89, 90, 91, 92, 93, 94, 95, 96, 97, 98, 99, 100, 101, 102, 103, 104, 105, 106, 107, 108, 109, 110, 111] := rfl
@[simp] theorem dd_12_14 : deadOf 12 14 = [1, 4, 5, 6, 8, 10, 12, 14, 16, 18, 112] := rfl
@[simp] theorem dd_12_15 : deadOf 12 15 = [112, 113, 114, 115, 116, 117, 118, 119, 120, 121, 122, 123, 124, 125, 126] := rfl
@[simp] theorem dd_12_16 : deadOf 12 16 = [127, 128, 129, 130, 131] := rfl
@[simp] theorem dd_12_17 : deadOf 12 17 = [132, 133, 134, 135, 136] := rfl
@[simp] theorem dd_12_18 : deadOf 12 18 = [5, 137, 138, 139, 140, 141] := rfl
@[simp] theorem dd_12_19 : deadOf 12 19 = [142, 143, 144, 145, 146, 147, 148, 149, 150, 151] := rfl
@[simp] theorem dd_12_20 : deadOf 12 20 = [152, 153, 154, 155, 156, 157, 158, 159, 160, 161, 162] := rfl
@[simp] theorem dd_12_21 : deadOf 12 21 = [22, 24, 26, 30, 34, 163, 164, 165, 166, 167, 168, 169, 170, 171, 172, 173, 174, 175, 176, 177, 178, 179, 180, 181, 182, 183, 184] := rfl
@[simp] theorem dd_12_22 : deadOf 12 22 = [1, 4, 6, 8, 10, 12, 14, 16, 18, 20, 21, 23, 25, 27, 28, 29, 31, 32, 33, 185] := rfl
@[simp] theorem dd_12_23 : deadOf 12 23 = [18, 21, 23, 25, 185, 186, 187, 188, 189, 190, 191, 192, 193, 194, 195, 196, 197, 198, 199, 200, 201, 202, 203, 204, 205, 206, 207, 208, 209, 210, 211] := rfl
@[simp] theorem dd_12_24 : deadOf 12 24 = [8, 10, 12, 14, 16, 212, 213, 214, 215, 216, 217, 218, 219, 220, 221, 222, 223, 224, 225, 226, 227, 228, 229, 230, 231, 232, 233, 234, 235] := rfl
@[simp] theorem dd_12_25 : deadOf 12 25 = [27, 28, 29, 31, 32, 33, 236, 237, 238, 239, 240, 241, 242, 243, 244, 245, 246, 247, 248, 249, 250, 251, 252, 253, 254, 255, 256, 257, 258, 259, 260, 261, 262, 263, 264, 265, 266, 267, 268, 269, 270, 271, 272, 273, 274, 275, 276, 277, 278, 279, 280, 281, 282, 283, 284, 285, 286, 287, 288, 289, 290] := rfl
@[simp] theorem dd_12_26 : deadOf 12 26 = [1, 4, 6, 20, 35, 36, 37, 291, 292, 293, 294, 295, 296, 297, 298, 299, 300, 301, 302, 303, 304, 305, 306, 307, 308, 309, 310, 311, 312, 313, 314, 315, 316, 317, 318, 319, 320, 321, 322, 323, 324, 325] := rfl
@[simp] theorem dd_13_0 : deadOf 13 0 = [] := rfl
@[simp] theorem dd_13_1 : deadOf 13 1 = [0, 7, 8, 9] := rfl
@[simp] theorem dd_13_2 : deadOf 13 2 = [] := rfl
@[simp] theorem dd_13_3 : deadOf 13 3 = [10, 11, 12, 13, 14, 15, 16] := rfl
@[simp] theorem dd_13_4 : deadOf 13 4 = [18, 19] := rfl
@[simp] theorem dd_13_5 : deadOf 13 5 = [17, 20, 21, 22, 23, 24, 25, 26, 27, 28, 29] := rfl
@[simp] theorem dd_13_6 : deadOf 13 6 = [1, 5, 6, 17, 30] := rfl
@[simp] theorem dd_14_0 : deadOf 14 0 = [0] := rfl
@[simp] theorem dd_14_1 : deadOf 14 1 = [1, 3, 9, 10, 11, 12, 13, 14, 15, 16, 17, 18, 19, 20, 21, 22] := rfl
@[simp] theorem dd_14_2 : deadOf 14 2 = [] := rfl
@[simp] theorem dd_14_3 : deadOf 14 3 = [23, 24, 25, 26, 27, 28, 29, 30, 31] := rfl
@[simp] theorem dd_14_4 : deadOf 14 4 = [33, 34] := rfl
@[simp] theorem dd_14_5 : deadOf 14 5 = [32, 35, 36, 37, 38, 39, 40, 41, 42, 43, 44] := rfl
@[simp] theorem dd_14_6 : deadOf 14 6 = [2, 7, 8, 32, 45] := rfl
@[simp] theorem dd_15_0 : deadOf 15 0 = [2] := rfl
@[simp] theorem dd_15_1 : deadOf 15 1 = [5] := rfl
@[simp] theorem dd_15_2 : deadOf 15 2 = [] := rfl
@[simp] theorem dd_15_3 : deadOf 15 3 = [6, 7, 8] := rfl
@[simp] theorem dd_15_4 : deadOf 15 4 = [10, 11] := rfl
@[simp] theorem dd_15_5 : deadOf 15 5 = [9, 12, 13, 14, 15, 16, 17] := rfl
@[simp] theorem dd_15_6 : deadOf 15 6 = [0, 3, 4, 9, 18, 19] := rfl
@[simp] theorem dd_16_0 : deadOf 16 0 = [4] := rfl
@[simp] theorem dd_16_1 : deadOf 16 1 = [5] := rfl
@[simp] theorem dd_16_2 : deadOf 16 2 = [6, 7, 8, 9] := rfl
@[simp] theorem dd_16_3 : deadOf 16 3 = [0, 1, 6, 10, 11, 12] := rfl
@[simp] theorem dd_17_0 : deadOf 17 0 = [4] := rfl
@[simp] theorem dd_17_1 : deadOf 17 1 = [] := rfl
@[simp] theorem dd_17_2 : deadOf 17 2 = [] := rfl
@[simp] theorem dd_17_3 : deadOf 17 3 = [7, 8] := rfl
@[simp] theorem dd_17_4 : deadOf 17 4 = [10, 11, 17] := rfl
@[simp] theorem dd_17_5 : deadOf 17 5 = [9, 12, 13, 14, 15, 16] := rfl
@[simp] theorem dd_17_6 : deadOf 17 6 = [17, 18, 19, 20, 21] := rfl
@[simp] theorem dd_17_7 : deadOf 17 7 = [0, 1, 5, 6, 9, 22] := rfl
@[simp] theorem dd_18_0 : deadOf 18 0 = [1, 9] := rfl
@[simp] theorem dd_18_1 : deadOf 18 1 = [0, 17, 18, 19, 20, 21, 22, 23] := rfl
@[simp] theorem dd_18_2 : deadOf 18 2 = [24] := rfl
@[simp] theorem dd_18_3 : deadOf 18 3 = [2, 3, 5, 10, 11, 25, 26, 27] := rfl
@[simp] theorem dd_18_4 : deadOf 18 4 = [10, 11, 25, 28, 29] := rfl
@[simp] theorem dd_18_5 : deadOf 18 5 = [] := rfl
@[simp] theorem dd_18_6 : deadOf 18 6 = [] := rfl
@[simp] theorem dd_18_7 : deadOf 18 7 = [33, 34, 35, 36] := rfl
@[simp] theorem dd_18_8 : deadOf 18 8 = [37, 38, 39, 40, 41, 42, 43, 44, 45] := rfl
@[simp] theorem dd_18_9 : deadOf 18 9 = [13, 16, 46, 47, 48, 49, 50, 51, 52, 53, 54, 55, 56, 57, 58, 59] := rfl
@[simp] theorem dd_18_10 : deadOf 18 10 = [2, 3, 5, 12, 14, 15, 30, 31, 32, 60, 61] := rfl
@[simp] theorem dd_18_11 : deadOf 18 11 = [14, 15, 60, 62, 63, 64, 65, 66, 67, 68, 69, 70, 71, 72, 73, 74] := rfl
@[simp] theorem dd_18_12 : deadOf 18 12 = [75] := rfl
@[simp] theorem dd_18_13 : deadOf 18 13 = [2, 3, 5, 12, 30, 31, 32, 33, 76] := rfl
@[simp] theorem dd_19_0 : deadOf 19 0 = [1, 9] := rfl
@[simp] theorem dd_19_1 : deadOf 19 1 = [0, 16, 17, 18, 19, 20, 21, 22] := rfl
@[simp] theorem dd_19_2 : deadOf 19 2 = [11, 23] := rfl
@[simp] theorem dd_19_3 : deadOf 19 3 = [2, 3, 5, 10, 24, 25] := rfl
@[simp] theorem dd_19_4 : deadOf 19 4 = [10, 24, 26, 27] := rfl
@[simp] theorem dd_19_5 : deadOf 19 5 = [] := rfl
@[simp] theorem dd_19_6 : deadOf 19 6 = [28, 29, 30] := rfl
@[simp] theorem dd_19_7 : deadOf 19 7 = [32, 33] := rfl
@[simp] theorem dd_19_8 : deadOf 19 8 = [31, 34, 35, 36, 37, 38, 39, 40, 41, 42, 43, 44, 45, 46, 47, 48, 49, 50, 51, 52, 53, 54, 55, 56] := rfl
@[simp] theorem dd_19_9 : deadOf 19 9 = [2, 3, 5, 12, 13, 57, 58] := rfl
@[simp] theorem dd_19_10 : deadOf 19 10 = [15, 57, 59, 60, 61, 62, 63, 64, 65, 66, 67, 68, 69, 70] := rfl
@[simp] theorem dd_19_11 : deadOf 19 11 = [14, 71, 72, 73, 74, 75, 76, 77, 78, 79, 80, 81, 82, 83, 84, 85, 86, 87, 88, 89] := rfl
@[simp] theorem dd_19_12 : deadOf 19 12 = [2, 3, 5, 12, 13, 31, 90] := rfl
@[simp] theorem dd_20_0 : deadOf 20 0 = [0, 1, 4] := rfl
@[simp] theorem dd_20_1 : deadOf 20 1 = [2, 3, 5, 6, 7, 8, 9, 10, 11, 12, 13, 14, 15, 16] := rfl
@[simp] theorem dd_21_0 : deadOf 21 0 = [0, 9] := rfl
@[simp] theorem dd_21_1 : deadOf 21 1 = [13, 14, 15, 16, 17, 18, 19] := rfl
@[simp] theorem dd_21_2 : deadOf 21 2 = [1, 20, 21] := rfl
@[simp] theorem dd_21_3 : deadOf 21 3 = [22, 23, 24, 25, 26, 27, 28] := rfl
@[simp] theorem dd_21_4 : deadOf 21 4 = [29, 30, 31] := rfl
@[simp] theorem dd_21_5 : deadOf 21 5 = [11, 29] := rfl
@[simp] theorem dd_21_6 : deadOf 21 6 = [2, 3, 33, 34, 35, 36, 37, 89] := rfl
@[simp] theorem dd_21_7 : deadOf 21 7 = [12, 38, 39, 40, 41, 42, 43, 44, 45, 46, 47, 48, 49] := rfl
@[simp] theorem dd_21_8 : deadOf 21 8 = [51] := rfl
@[simp] theorem dd_21_9 : deadOf 21 9 = [2, 3, 32, 50, 52, 53, 54] := rfl
@[simp] theorem dd_21_10 : deadOf 21 10 = [50, 56] := rfl
@[simp] theorem dd_21_11 : deadOf 21 11 = [2, 3, 32, 55, 57, 58, 59] := rfl
@[simp] theorem dd_21_12 : deadOf 21 12 = [55, 61] := rfl
@[simp] theorem dd_21_13 : deadOf 21 13 = [2, 3, 32, 60, 62, 63, 64, 65, 66, 67] := rfl
@[simp] theorem dd_21_14 : deadOf 21 14 = [60, 69] := rfl
@[simp] theorem dd_21_15 : deadOf 21 15 = [2, 3, 32, 68, 70, 71, 72, 73, 74, 75] := rfl
@[simp] theorem dd_21_16 : deadOf 21 16 = [68, 77] := rfl
@[simp] theorem dd_21_17 : deadOf 21 17 = [2, 3, 32, 76, 78, 79, 80, 81, 82, 83, 84, 85, 86, 87, 88] := rfl
@[simp] theorem dd_21_18 : deadOf 21 18 = [32, 76, 90] := rfl
@[simp] theorem dd_21_19 : deadOf 21 19 = [2, 3, 89, 91, 92, 93, 94, 95, 96, 97, 98, 99, 100] := rfl
@[simp] theorem dd_21_20 : deadOf 21 20 = [4, 10, 101, 102, 103, 104, 105, 106, 107, 108, 109, 110, 111, 112, 113, 114] := rfl
@[simp] theorem dd_22_0 : deadOf 22 0 = [1, 2, 6] := rfl
@[simp] theorem dd_22_1 : deadOf 22 1 = [0, 4, 5, 7, 8, 9, 10, 11, 12, 13, 14, 15, 16, 17, 18, 19] := rfl
@[simp] theorem dd_23_0 : deadOf 23 0 = [1, 2, 6] := rfl
@[simp] theorem dd_23_1 : deadOf 23 1 = [0, 4, 5, 7, 8, 9, 10, 11, 12, 13, 14, 15, 16, 17, 18, 19] := rfl
@[simp] theorem dd_24_0 : deadOf 24 0 = [1, 4] := rfl
@[simp] theorem dd_24_1 : deadOf 24 1 = [0, 8, 9, 10, 11] := rfl
@[simp] theorem dd_24_2 : deadOf 24 2 = [3, 12] := rfl
@[simp] theorem dd_24_3 : deadOf 24 3 = [12, 13] := rfl
@[simp] theorem dd_24_4 : deadOf 24 4 = [] := rfl
@[simp] theorem dd_24_5 : deadOf 24 5 = [17, 18, 19, 20] := rfl
@[simp] theorem dd_24_6 : deadOf 24 6 = [5, 21, 22, 23, 24, 25, 26, 27, 28, 29, 30, 31, 32, 33, 34] := rfl
@[simp] theorem dd_24_7 : deadOf 24 7 = [6, 7, 35, 36, 37, 38, 39, 40, 41, 42, 43, 44, 45, 46, 47, 48, 49, 50, 51, 52, 53, 54, 55, 56, 57] := rfl
@[simp] theorem dd_24_8 : deadOf 24 8 = [3, 14, 15, 16, 58] := rfl
@[simp] theorem dd_24_9 : deadOf 24 9 = [58, 59] := rfl
@[simp] theorem dd_24_10 : deadOf 24 10 = [3, 14, 15, 16, 17] := rfl
@[simp] theorem dd_25_0 : deadOf 25 0 = [1, 4] := rfl
@[simp] theorem dd_25_1 : deadOf 25 1 = [0, 7, 8, 9, 10] := rfl
@[simp] theorem dd_25_2 : deadOf 25 2 = [3, 11] := rfl
@[simp] theorem dd_25_3 : deadOf 25 3 = [11] := rfl
@[simp] theorem dd_25_4 : deadOf 25 4 = [12, 13, 14, 15] := rfl
@[simp] theorem dd_25_5 : deadOf 25 5 = [17, 18, 59] := rfl
@[simp] theorem dd_25_6 : deadOf 25 6 = [16, 19, 20, 21, 22, 23] := rfl
@[simp] theorem dd_25_7 : deadOf 25 7 = [6, 24, 25, 26, 27, 28, 29, 30, 31, 32, 33, 34, 35, 36, 37, 38, 39, 40, 41, 42, 43, 44, 45, 46, 47, 48, 49, 50, 51, 52, 53, 54, 55, 56, 57, 58] := rfl
@[simp] theorem dd_25_8 : deadOf 25 8 = [3, 5, 59] := rfl
@[simp] theorem dd_25_9 : deadOf 25 9 = [3, 5, 16] := rfl
@[simp] theorem dd_26_0 : deadOf 26 0 = [0, 1] := rfl
@[simp] theorem dd_26_1 : deadOf 26 1 = [17] := rfl
@[simp] theorem dd_26_2 : deadOf 26 2 = [2, 8, 18, 19, 20, 21, 22, 23, 24] := rfl
@[simp] theorem dd_26_3 : deadOf 26 3 = [3, 25] := rfl
@[simp] theorem dd_26_4 : deadOf 26 4 = [25, 26] := rfl
@[simp] theorem dd_26_5 : deadOf 26 5 = [27, 28] := rfl
@[simp] theorem dd_26_6 : deadOf 26 6 = [29] := rfl
@[simp] theorem dd_26_7 : deadOf 26 7 = [3, 30, 31, 32, 33, 34, 35, 36, 37] := rfl
@[simp] theorem dd_26_8 : deadOf 26 8 = [9, 10, 38, 39, 40] := rfl
@[simp] theorem dd_26_9 : deadOf 26 9 = [27, 41] := rfl
@[simp] theorem dd_26_10 : deadOf 26 10 = [3] := rfl
@[simp] theorem dd_26_11 : deadOf 26 11 = [] := rfl
@[simp] theorem dd_26_12 : deadOf 26 12 = [45, 46, 47] := rfl
@[simp] theorem dd_26_13 : deadOf 26 13 = [13, 48, 49, 50, 51] := rfl
@[simp] theorem dd_26_14 : deadOf 26 14 = [52] := rfl
@[simp] theorem dd_26_15 : deadOf 26 15 = [42, 43, 44, 45] := rfl
@[simp] theorem dd_26_16 : deadOf 26 16 = [53, 54] := rfl
@[simp] theorem dd_26_17 : deadOf 26 17 = [] := rfl
@[simp] theorem dd_26_18 : deadOf 26 18 = [58, 59, 60] := rfl
@[simp] theorem dd_26_19 : deadOf 26 19 = [16, 61, 62, 63, 64, 65, 66, 67, 68] := rfl
@[simp] theorem dd_26_20 : deadOf 26 20 = [69] := rfl
@[simp] theorem dd_26_21 : deadOf 26 21 = [11, 14, 55, 56, 57, 58, 70] := rfl
@[simp] theorem dd_27_0 : deadOf 27 0 = [4, 5, 6, 7] := rfl
@[simp] theorem dd_27_1 : deadOf 27 1 = [16, 17] := rfl
@[simp] theorem dd_27_2 : deadOf 27 2 = [0, 1, 18] := rfl
@[simp] theorem dd_27_3 : deadOf 27 3 = [18] := rfl
@[simp] theorem dd_27_4 : deadOf 27 4 = [19, 20, 21] := rfl
@[simp] theorem dd_27_5 : deadOf 27 5 = [23, 24, 45] := rfl
@[simp] theorem dd_27_6 : deadOf 27 6 = [22, 25, 26, 27, 28, 29, 30, 31, 32, 33, 34, 35, 36, 37, 38, 39, 40, 41, 42, 43, 44] := rfl
@[simp] theorem dd_27_7 : deadOf 27 7 = [0, 1, 8, 45] := rfl
@[simp] theorem dd_27_8 : deadOf 27 8 = [0, 8, 22] := rfl
@[simp] theorem dd_27_9 : deadOf 27 9 = [46, 47, 48] := rfl
@[simp] theorem dd_27_10 : deadOf 27 10 = [10, 50, 51, 57] := rfl
@[simp] theorem dd_27_11 : deadOf 27 11 = [49, 52, 53] := rfl
@[simp] theorem dd_27_12 : deadOf 27 12 = [54, 55, 56] := rfl
@[simp] theorem dd_27_13 : deadOf 27 13 = [58, 59, 68] := rfl
@[simp] theorem dd_27_14 : deadOf 27 14 = [57, 60, 61, 62, 63, 64, 65, 66, 67] := rfl
@[simp] theorem dd_27_15 : deadOf 27 15 = [1, 9, 10, 68, 69, 70] := rfl
@[simp] theorem dd_27_16 : deadOf 27 16 = [9, 49] := rfl
@[simp] theorem dd_27_17 : deadOf 27 17 = [] := rfl
@[simp] theorem dd_27_18 : deadOf 27 18 = [71] := rfl
@[simp] theorem dd_27_19 : deadOf 27 19 = [13, 14, 73, 74, 82] := rfl
@[simp] theorem dd_27_20 : deadOf 27 20 = [72] := rfl
@[simp] theorem dd_27_21 : deadOf 27 21 = [] := rfl
@[simp] theorem dd_27_22 : deadOf 27 22 = [75, 76, 77, 78, 79, 80, 81] := rfl
@[simp] theorem dd_27_23 : deadOf 27 23 = [15, 83, 84, 96] := rfl
@[simp] theorem dd_27_24 : deadOf 27 24 = [82] := rfl
@[simp] theorem dd_27_25 : deadOf 27 25 = [85, 86, 87, 88, 89, 90, 91, 92, 93, 94, 95] := rfl
@[simp] theorem dd_27_26 : deadOf 27 26 = [97, 98, 109] := rfl
@[simp] theorem dd_27_27 : deadOf 27 27 = [96, 99, 100, 101, 102, 103, 104, 105, 106, 107, 108] := rfl
@[simp] theorem dd_27_28 : deadOf 27 28 = [13, 109, 110, 111, 112, 113, 114, 115, 116, 117, 118, 119, 120, 121, 122, 123] := rfl
@[simp] theorem dd_27_29 : deadOf 27 29 = [] := rfl
@[simp] theorem dd_27_30 : deadOf 27 30 = [1, 11, 12, 72, 124] := rfl
@[simp] theorem dd_28_0 : deadOf 28 0 = [4] := rfl
@[simp] theorem dd_28_1 : deadOf 28 1 = [6, 7, 8, 9] := rfl
@[simp] theorem dd_28_2 : deadOf 28 2 = [0, 1, 10] := rfl
@[simp] theorem dd_28_3 : deadOf 28 3 = [10] := rfl
@[simp] theorem dd_28_4 : deadOf 28 4 = [11, 12, 13] := rfl
@[simp] theorem dd_28_5 : deadOf 28 5 = [15, 16, 54] := rfl
@[simp] theorem dd_28_6 : deadOf 28 6 = [14, 17, 18, 19, 20, 21, 22, 23, 24, 25, 26, 27, 28, 29, 30, 31, 32, 33, 34, 35, 36, 37, 38, 39, 40, 41, 42, 43, 44, 45, 46, 47, 48, 49, 50, 51, 52, 53] := rfl
@[simp] theorem dd_28_7 : deadOf 28 7 = [0, 1, 5, 54] := rfl
@[simp] theorem dd_28_8 : deadOf 28 8 = [0, 1, 5, 14] := rfl
@[simp] theorem dd_29_0 : deadOf 29 0 = [4] := rfl
@[simp] theorem dd_29_1 : deadOf 29 1 = [0, 7, 8, 9] := rfl
@[simp] theorem dd_29_2 : deadOf 29 2 = [10, 11, 12, 13, 14, 15, 16] := rfl
@[simp] theorem dd_29_3 : deadOf 29 3 = [1, 5, 17, 18, 19, 20, 21] := rfl
@[simp] theorem dd_29_4 : deadOf 29 4 = [17, 22, 23, 24, 25, 26] := rfl
@[simp] theorem dd_29_5 : deadOf 29 5 = [1, 27, 28] := rfl
@[simp] theorem dd_29_6 : deadOf 29 6 = [5, 6, 29, 30, 31, 32, 33, 34, 35, 36, 37] := rfl
@[simp] theorem dd_29_7 : deadOf 29 7 = [6, 29, 38, 39, 40, 41, 42, 43, 44, 45] := rfl
@[simp] theorem dd_29_8 : deadOf 29 8 = [5, 46] := rfl
@[simp] theorem dd_30_0 : deadOf 30 0 = [8, 9] := rfl
@[simp] theorem dd_30_1 : deadOf 30 1 = [16, 17, 18, 19, 20, 21] := rfl
@[simp] theorem dd_30_2 : deadOf 30 2 = [0, 1, 2, 3, 22, 23, 24, 25, 26, 27] := rfl
@[simp] theorem dd_30_3 : deadOf 30 3 = [22, 28, 29, 30] := rfl
@[simp] theorem dd_30_4 : deadOf 30 4 = [31, 32] := rfl
@[simp] theorem dd_30_5 : deadOf 30 5 = [33, 34] := rfl
@[simp] theorem dd_30_6 : deadOf 30 6 = [0, 1, 2, 11, 35, 36, 37, 38, 39, 40, 41, 42, 43, 44, 45] := rfl
@[simp] theorem dd_30_7 : deadOf 30 7 = [3, 10, 12, 13, 46, 47, 48, 49, 50, 51, 52, 53, 54, 55, 56, 57, 58, 59, 60, 61] := rfl
@[simp] theorem dd_30_8 : deadOf 30 8 = [0, 1, 2, 11, 35, 62, 63, 64, 65, 66, 67, 68, 69, 70, 71, 72, 73, 74, 75] := rfl
@[simp] theorem dd_30_9 : deadOf 30 9 = [3, 10, 14, 15, 76, 77, 78, 79, 80, 81, 82, 83, 84, 85, 86, 87, 88, 89, 90, 91] := rfl
@[simp] theorem dd_31_0 : deadOf 31 0 = [4] := rfl
@[simp] theorem dd_31_1 : deadOf 31 1 = [] := rfl
@[simp] theorem dd_31_2 : deadOf 31 2 = [] := rfl
@[simp] theorem dd_31_3 : deadOf 31 3 = [10, 11, 12] := rfl
@[simp] theorem dd_31_4 : deadOf 31 4 = [14, 15] := rfl
@[simp] theorem dd_31_5 : deadOf 31 5 = [13, 16, 17, 18, 19, 20, 21, 22, 23] := rfl
@[simp] theorem dd_31_6 : deadOf 31 6 = [6, 13] := rfl
@[simp] theorem dd_31_7 : deadOf 31 7 = [24, 25, 26] := rfl
@[simp] theorem dd_31_8 : deadOf 31 8 = [8, 9, 28, 29, 38] := rfl
@[simp] theorem dd_31_9 : deadOf 31 9 = [27, 30, 31, 32, 33, 34] := rfl
@[simp] theorem dd_31_10 : deadOf 31 10 = [] := rfl
@[simp] theorem dd_31_11 : deadOf 31 11 = [35, 36, 37] := rfl
@[simp] theorem dd_31_12 : deadOf 31 12 = [39, 40, 57] := rfl
@[simp] theorem dd_31_13 : deadOf 31 13 = [38, 41, 42, 43, 44, 45, 46, 47, 48, 49, 50, 51, 52, 53, 54, 55, 56] := rfl
@[simp] theorem dd_31_14 : deadOf 31 14 = [0, 1, 5, 7, 8, 9, 57] := rfl
@[simp] theorem dd_31_15 : deadOf 31 15 = [0, 1, 5, 7, 27] := rfl
@[simp] theorem dd_32_0 : deadOf 32 0 = [2] := rfl
@[simp] theorem dd_32_1 : deadOf 32 1 = [5, 6] := rfl
@[simp] theorem dd_32_2 : deadOf 32 2 = [0, 7, 8] := rfl
@[simp] theorem dd_32_3 : deadOf 32 3 = [7, 9, 10] := rfl
@[simp] theorem dd_32_4 : deadOf 32 4 = [0, 11, 12, 13, 14, 15, 16] := rfl
@[simp] theorem dd_32_5 : deadOf 32 5 = [11, 17, 18, 19] := rfl
@[simp] theorem dd_32_6 : deadOf 32 6 = [20, 21, 22, 23, 24, 25, 26, 27, 28] := rfl
@[simp] theorem dd_32_7 : deadOf 32 7 = [0, 3, 4, 29, 30, 31, 32, 33, 34, 35, 36, 37, 38, 39, 40, 41] := rfl
@[simp] theorem dd_33_0 : deadOf 33 0 = [1, 7] := rfl
@[simp] theorem dd_33_1 : deadOf 33 1 = [9, 10, 11, 12, 13, 14, 15, 16, 17, 18, 19, 20, 21, 22, 23] := rfl
@[simp] theorem dd_33_2 : deadOf 33 2 = [0, 2, 4, 24, 25] := rfl
@[simp] theorem dd_33_3 : deadOf 33 3 = [2, 4, 24, 26, 27, 28, 29, 30, 31, 32, 33, 34] := rfl
@[simp] theorem dd_33_4 : deadOf 33 4 = [0, 35, 36, 37, 38] := rfl
@[simp] theorem dd_33_5 : deadOf 33 5 = [8, 39] := rfl
@[simp] theorem dd_34_0 : deadOf 34 0 = [0, 6, 7] := rfl
@[simp] theorem dd_34_1 : deadOf 34 1 = [10, 11, 12, 13, 14, 15, 16, 17, 18, 19, 20, 21, 22, 23, 24, 25] := rfl
@[simp] theorem dd_34_2 : deadOf 34 2 = [1, 2, 3, 26] := rfl
@[simp] theorem dd_34_3 : deadOf 34 3 = [1, 2, 3, 9, 26, 27, 28, 29, 30, 31, 32, 33, 34, 35] := rfl
@[simp] theorem dd_34_4 : deadOf 34 4 = [8, 36] := rfl
@[simp] theorem dd_35_0 : deadOf 35 0 = [1, 2, 8] := rfl
@[simp] theorem dd_35_1 : deadOf 35 1 = [0, 3, 5, 6, 9, 10, 11, 12, 13, 14, 15, 16, 17, 18, 19, 20, 21, 22, 23, 24, 25, 26, 27, 28, 29, 30, 31, 32, 33, 34, 35] := rfl
@[simp] theorem dd_36_0 : deadOf 36 0 = [10, 11, 12] := rfl
@[simp] theorem dd_36_1 : deadOf 36 1 = [22, 23, 24] := rfl
@[simp] theorem dd_36_2 : deadOf 36 2 = [25, 26, 27, 28, 29, 30] := rfl
@[simp] theorem dd_36_3 : deadOf 36 3 = [1, 2, 4, 13, 31, 32, 33, 34, 35] := rfl
@[simp] theorem dd_36_4 : deadOf 36 4 = [0, 3, 36, 37, 38] := rfl
@[simp] theorem dd_36_5 : deadOf 36 5 = [0, 3, 36, 39, 40, 41, 42, 43, 44] := rfl
@[simp] theorem dd_36_6 : deadOf 36 6 = [31, 45, 46] := rfl
@[simp] theorem dd_36_7 : deadOf 36 7 = [47, 48, 49, 50] := rfl
@[simp] theorem dd_36_8 : deadOf 36 8 = [51, 52] := rfl
@[simp] theorem dd_36_9 : deadOf 36 9 = [0, 1, 2, 3, 4, 13, 14, 53, 54, 55, 56, 57, 58, 59, 60, 61, 62, 63, 64, 65] := rfl
@[simp] theorem dd_36_10 : deadOf 36 10 = [15, 16, 17, 18, 66, 67, 68, 69, 70, 71, 72, 73, 74, 75, 76] := rfl
@[simp] theorem dd_36_11 : deadOf 36 11 = [0, 1, 2, 3, 4, 13, 14, 53, 77, 78, 79, 80, 81, 82, 83, 84, 85, 86, 87, 88, 89, 90, 91] := rfl
@[simp] theorem dd_36_12 : deadOf 36 12 = [15, 19, 20, 21, 92, 93, 94, 95, 96, 97, 98, 99, 100, 101, 102, 103, 104, 105, 106, 107, 108] := rfl
@[simp] theorem dd_37_0 : deadOf 37 0 = [0, 2] := rfl
@[simp] theorem dd_37_1 : deadOf 37 1 = [4, 9, 10, 11, 12] := rfl
@[simp] theorem dd_37_2 : deadOf 37 2 = [6, 13, 14, 15, 16, 17, 18] := rfl
@[simp] theorem dd_37_3 : deadOf 37 3 = [8, 19, 20, 21, 22, 23, 24] := rfl
@[simp] theorem dd_37_4 : deadOf 37 4 = [1, 3, 5, 7, 25, 26, 27, 28, 29, 30, 31, 32] := rfl
@[simp] theorem dd_38_0 : deadOf 38 0 = [2] := rfl
@[simp] theorem dd_38_1 : deadOf 38 1 = [0, 3, 4, 5] := rfl
@[simp] theorem dd_39_0 : deadOf 39 0 = [4] := rfl
@[simp] theorem dd_39_1 : deadOf 39 1 = [6, 7, 8, 9] := rfl
@[simp] theorem dd_39_2 : deadOf 39 2 = [0, 1, 10] := rfl
@[simp] theorem dd_39_3 : deadOf 39 3 = [10] := rfl
@[simp] theorem dd_39_4 : deadOf 39 4 = [11, 12, 13] := rfl
@[simp] theorem dd_39_5 : deadOf 39 5 = [15, 16, 25] := rfl
@[simp] theorem dd_39_6 : deadOf 39 6 = [14, 17, 18, 19, 20, 21, 22, 23, 24] := rfl
@[simp] theorem dd_39_7 : deadOf 39 7 = [0, 1, 5, 25] := rfl
@[simp] theorem dd_39_8 : deadOf 39 8 = [0, 1, 5, 14] := rfl
@[simp] theorem dd_40_0 : deadOf 40 0 = [1, 4] := rfl
@[simp] theorem dd_40_1 : deadOf 40 1 = [6, 7, 8, 9, 10, 11, 12, 13, 14, 15, 16, 17, 18, 19] := rfl
@[simp] theorem dd_40_2 : deadOf 40 2 = [0, 3, 5, 20, 21, 22, 23, 24, 25, 26, 27, 28, 29, 30, 31, 32] := rfl
@[simp] theorem dd_41_0 : deadOf 41 0 = [0] := rfl
@[simp] theorem dd_41_1 : deadOf 41 1 = [5, 6, 7] := rfl
@[simp] theorem dd_41_2 : deadOf 41 2 = [] := rfl
@[simp] theorem dd_41_3 : deadOf 41 3 = [8, 9, 10, 11, 12, 13, 14, 15] := rfl
@[simp] theorem dd_41_4 : deadOf 41 4 = [17, 18] := rfl
@[simp] theorem dd_41_5 : deadOf 41 5 = [16, 19, 20, 21, 22, 23, 24, 25, 26, 27, 28, 29, 30, 31, 32, 33, 34, 35, 36] := rfl
@[simp] theorem dd_41_6 : deadOf 41 6 = [1, 3, 4, 16, 37] := rfl
@[simp] theorem dd_42_0 : deadOf 42 0 = [0, 5] := rfl
@[simp] theorem dd_42_1 : deadOf 42 1 = [1, 2, 7, 8, 9, 10, 11, 12, 13, 14, 15] := rfl
@[simp] theorem dd_42_2 : deadOf 42 2 = [16, 17] := rfl
@[simp] theorem dd_42_3 : deadOf 42 3 = [6, 18, 19] := rfl
@[simp] theorem dd_42_4 : deadOf 42 4 = [6, 18, 20] := rfl
@[simp] theorem dd_43_0 : deadOf 43 0 = [0, 5] := rfl
@[simp] theorem dd_43_1 : deadOf 43 1 = [1, 7, 8, 9, 10, 11, 12, 13, 14, 15, 16] := rfl
@[simp] theorem dd_43_2 : deadOf 43 2 = [2, 17, 18, 19, 20, 21, 22, 23] := rfl
@[simp] theorem dd_43_3 : deadOf 43 3 = [6, 24, 25] := rfl
@[simp] theorem dd_43_4 : deadOf 43 4 = [6, 24, 26] := rfl
@[simp] theorem dd_44_0 : deadOf 44 0 = [0, 2] := rfl
@[simp] theorem dd_44_1 : deadOf 44 1 = [] := rfl
@[simp] theorem dd_44_2 : deadOf 44 2 = [1, 3, 4, 5, 6, 7, 8, 9, 10, 11, 12, 13, 14, 15, 16, 17, 18, 19] := rfl
@[simp] theorem dd_45_0 : deadOf 45 0 = [0, 2] := rfl
@[simp] theorem dd_45_1 : deadOf 45 1 = [4, 5, 6, 7, 8, 9, 10, 11, 12] := rfl
@[simp] theorem dd_45_2 : deadOf 45 2 = [1, 13] := rfl
@[simp] theorem dd_45_3 : deadOf 45 3 = [13] := rfl
@[simp] theorem dd_45_4 : deadOf 45 4 = [14, 15, 16, 17] := rfl
@[simp] theorem dd_45_5 : deadOf 45 5 = [19, 20, 27] := rfl
@[simp] theorem dd_45_6 : deadOf 45 6 = [18, 21, 22, 23, 24, 25, 26] := rfl
@[simp] theorem dd_45_7 : deadOf 45 7 = [1, 3, 27] := rfl
@[simp] theorem dd_45_8 : deadOf 45 8 = [1, 3, 18] := rfl
@[simp] theorem dd_46_0 : deadOf 46 0 = [0, 1, 4] := rfl
@[simp] theorem dd_46_1 : deadOf 46 1 = [2, 3, 5, 6, 7, 8, 9, 10, 11, 12, 13, 14, 15, 16] := rfl
@[simp] theorem dd_47_0 : deadOf 47 0 = [1, 7] := rfl
@[simp] theorem dd_47_1 : deadOf 47 1 = [9, 10, 11, 12, 13, 14, 15, 16, 17, 18, 19, 20, 21, 22, 23] := rfl
@[simp] theorem dd_47_2 : deadOf 47 2 = [0, 2, 4, 24, 25] := rfl
@[simp] theorem dd_47_3 : deadOf 47 3 = [2, 4, 24, 26, 27, 28, 29, 30, 31, 32, 33, 34] := rfl
@[simp] theorem dd_47_4 : deadOf 47 4 = [0, 35, 36, 37, 38] := rfl
@[simp] theorem dd_47_5 : deadOf 47 5 = [8, 39] := rfl
@[simp] theorem dd_48_0 : deadOf 48 0 = [0, 6, 7] := rfl
@[simp] theorem dd_48_1 : deadOf 48 1 = [10, 11, 12, 13, 14, 15, 16, 17, 18, 19, 20, 21, 22, 23, 24, 25] := rfl
@[simp] theorem dd_48_2 : deadOf 48 2 = [1, 2, 3, 26] := rfl
@[simp] theorem dd_48_3 : deadOf 48 3 = [1, 2, 3, 9, 26, 27, 28, 29, 30, 31, 32, 33, 34, 35] := rfl
@[simp] theorem dd_48_4 : deadOf 48 4 = [8, 36] := rfl
@[simp] theorem dd_49_0 : deadOf 49 0 = [1, 4] := rfl
@[simp] theorem dd_49_1 : deadOf 49 1 = [5, 6, 7, 8, 9, 10, 11, 12, 13, 14, 15, 16, 17, 18, 19, 20, 21, 22, 23, 24] := rfl
@[simp] theorem dd_49_2 : deadOf 49 2 = [0, 3, 25] := rfl
@[simp] theorem dd_49_3 : deadOf 49 3 = [0, 3, 25, 26, 27, 28, 29, 30, 31] := rfl
@[simp] theorem dd_50_0 : deadOf 50 0 = [1, 2, 8] := rfl
@[simp] theorem dd_50_1 : deadOf 50 1 = [0, 9, 10, 11, 12, 13, 14, 15, 16, 17, 18, 19, 20, 21, 22, 23, 24] := rfl
@[simp] theorem dd_50_2 : deadOf 50 2 = [3, 5, 6, 25] := rfl
@[simp] theorem dd_50_3 : deadOf 50 3 = [3, 5, 6, 25, 26, 27, 28, 29, 30, 31, 32, 33, 34, 35] := rfl
@[simp] theorem dd_51_0 : deadOf 51 0 = [2] := rfl
@[simp] theorem dd_51_1 : deadOf 51 1 = [0, 4, 5] := rfl
@[simp] theorem dd_51_2 : deadOf 51 2 = [3, 6, 7, 8, 9, 10, 11, 12, 13, 14, 15, 16, 17, 18, 19, 20, 21] := rfl
@[simp] theorem dd_52_0 : deadOf 52 0 = [7] := rfl
@[simp] theorem dd_52_1 : deadOf 52 1 = [11] := rfl
@[simp] theorem dd_52_2 : deadOf 52 2 = [0, 1, 12, 13, 14, 15, 16, 17, 18, 19, 20] := rfl
@[simp] theorem dd_52_3 : deadOf 52 3 = [2, 8, 9, 10, 21, 22, 23, 24, 25, 26, 27, 28, 29, 30, 31, 32, 33, 34, 35, 36] := rfl
@[simp] theorem dd_53_0 : deadOf 53 0 = [4] := rfl
@[simp] theorem dd_53_1 : deadOf 53 1 = [5] := rfl
@[simp] theorem dd_53_2 : deadOf 53 2 = [6, 7, 8, 9] := rfl
@[simp] theorem dd_53_3 : deadOf 53 3 = [0, 1, 6, 10, 11, 12] := rfl
@[simp] theorem dd_54_0 : deadOf 54 0 = [4, 5] := rfl
@[simp] theorem dd_54_1 : deadOf 54 1 = [10, 11, 12, 13, 14, 15, 16] := rfl
@[simp] theorem dd_54_2 : deadOf 54 2 = [0, 1, 17] := rfl
@[simp] theorem dd_54_3 : deadOf 54 3 = [17] := rfl
@[simp] theorem dd_54_4 : deadOf 54 4 = [18, 19] := rfl
@[simp] theorem dd_54_5 : deadOf 54 5 = [20, 21, 22, 23] := rfl
@[simp] theorem dd_54_6 : deadOf 54 6 = [0, 24, 25, 26, 27, 28, 29] := rfl
@[simp] theorem dd_54_7 : deadOf 54 7 = [30, 31] := rfl
@[simp] theorem dd_54_8 : deadOf 54 8 = [7, 32, 33, 34, 35, 36, 37] := rfl
@[simp] theorem dd_54_9 : deadOf 54 9 = [7, 9, 32, 38, 39, 40, 41, 42] := rfl
@[simp] theorem dd_54_10 : deadOf 54 10 = [8, 43] := rfl
@[simp] theorem dd_54_11 : deadOf 54 11 = [0, 1, 20, 44, 45] := rfl
@[simp] theorem dd_54_12 : deadOf 54 12 = [6, 46] := rfl
@[simp] theorem dd_55_0 : deadOf 55 0 = [6] := rfl
@[simp] theorem dd_55_1 : deadOf 55 1 = [0, 1, 2, 7, 8, 9, 10, 11, 12, 13, 14] := rfl
@[simp] theorem dd_56_0 : deadOf 56 0 = [4, 5] := rfl
@[simp] theorem dd_56_1 : deadOf 56 1 = [11, 12, 13, 14, 15, 16, 17] := rfl
@[simp] theorem dd_56_2 : deadOf 56 2 = [0, 1, 18] := rfl
@[simp] theorem dd_56_3 : deadOf 56 3 = [18, 19, 20] := rfl
@[simp] theorem dd_56_4 : deadOf 56 4 = [0, 1, 21] := rfl
@[simp] theorem dd_56_5 : deadOf 56 5 = [21, 22, 23, 24] := rfl
@[simp] theorem dd_56_6 : deadOf 56 6 = [25, 26] := rfl
@[simp] theorem dd_56_7 : deadOf 56 7 = [1, 8, 27, 28, 29, 30, 31, 32, 33, 34, 35] := rfl
@[simp] theorem dd_56_8 : deadOf 56 8 = [0, 6, 7, 36, 37, 38, 39, 40, 41, 42] := rfl
@[simp] theorem dd_56_9 : deadOf 56 9 = [1, 10, 27, 43, 44, 45, 46, 47, 48, 49, 50, 51, 52] := rfl
@[simp] theorem dd_56_10 : deadOf 56 10 = [0, 6, 9, 53, 54, 55, 56, 57, 58, 59] := rfl
@[simp] theorem dd_57_0 : deadOf 57 0 = [2] := rfl
@[simp] theorem dd_57_1 : deadOf 57 1 = [8] := rfl
@[simp] theorem dd_57_2 : deadOf 57 2 = [0, 9, 10] := rfl
@[simp] theorem dd_57_3 : deadOf 57 3 = [] := rfl
@[simp] theorem dd_57_4 : deadOf 57 4 = [11, 12, 13] := rfl
@[simp] theorem dd_57_5 : deadOf 57 5 = [15, 16] := rfl
@[simp] theorem dd_57_6 : deadOf 57 6 = [14, 17, 18, 19, 20, 21, 22, 23] := rfl
@[simp] theorem dd_57_7 : deadOf 57 7 = [4, 5, 14] := rfl
@[simp] theorem dd_57_8 : deadOf 57 8 = [] := rfl
@[simp] theorem dd_57_9 : deadOf 57 9 = [24] := rfl
@[simp] theorem dd_57_10 : deadOf 57 10 = [26, 27] := rfl
@[simp] theorem dd_57_11 : deadOf 57 11 = [25, 28, 29, 30, 31, 32, 33, 34, 35, 36, 37, 38, 39, 40, 41, 42, 43, 44, 45, 46, 47, 48, 49, 50, 51, 52, 53] := rfl
@[simp] theorem dd_57_12 : deadOf 57 12 = [3, 6, 7, 25, 54, 55] := rfl
@[simp] theorem dd_58_0 : deadOf 58 0 = [0, 1, 4] := rfl
@[simp] theorem dd_58_1 : deadOf 58 1 = [7, 8, 9, 10, 11, 12] := rfl
@[simp] theorem dd_58_2 : deadOf 58 2 = [2, 3, 13] := rfl
@[simp] theorem dd_58_3 : deadOf 58 3 = [13, 14, 15] := rfl
@[simp] theorem dd_58_4 : deadOf 58 4 = [5, 16] := rfl
@[simp] theorem dd_58_5 : deadOf 58 5 = [2, 3, 6, 17, 18, 19, 20, 21, 22, 23, 24, 25, 26, 27, 28, 29, 30, 31, 32, 33, 34, 35, 36, 37, 38] := rfl
@[simp] theorem dd_59_0 : deadOf 59 0 = [0, 1, 4] := rfl
@[simp] theorem dd_59_1 : deadOf 59 1 = [7, 8, 9, 10, 11, 12] := rfl
@[simp] theorem dd_59_2 : deadOf 59 2 = [2, 3, 13] := rfl
@[simp] theorem dd_59_3 : deadOf 59 3 = [13, 14, 15, 16, 17, 18, 19, 20, 21, 22, 23, 24, 25, 26, 27, 28] := rfl
@[simp] theorem dd_59_4 : deadOf 59 4 = [2, 3, 29] := rfl
@[simp] theorem dd_59_5 : deadOf 59 5 = [29] := rfl
@[simp] theorem dd_59_6 : deadOf 59 6 = [30, 31, 32, 33] := rfl
@[simp] theorem dd_59_7 : deadOf 59 7 = [6, 35, 36, 41] := rfl
@[simp] theorem dd_59_8 : deadOf 59 8 = [34] := rfl
@[simp] theorem dd_59_9 : deadOf 59 9 = [37, 38, 39, 40] := rfl
@[simp] theorem dd_59_10 : deadOf 59 10 = [42, 43, 71] := rfl
@[simp] theorem dd_59_11 : deadOf 59 11 = [41, 44, 45, 46, 47, 48, 49, 50, 51, 52, 53, 54, 55, 56, 57, 58, 59, 60, 61, 62, 63, 64, 65, 66, 67, 68, 69, 70] := rfl
@[simp] theorem dd_59_12 : deadOf 59 12 = [2, 3, 5, 6, 71] := rfl
@[simp] theorem dd_59_13 : deadOf 59 13 = [2, 3, 5, 34] := rfl
@[simp] theorem dd_60_0 : deadOf 60 0 = [] := rfl
@[simp] theorem dd_60_1 : deadOf 60 1 = [19, 20, 21, 22, 23, 24, 25, 26, 27, 28, 29] := rfl
@[simp] theorem dd_60_2 : deadOf 60 2 = [0, 1, 2, 3, 4, 30] := rfl
@[simp] theorem dd_60_3 : deadOf 60 3 = [30] := rfl
@[simp] theorem dd_60_4 : deadOf 60 4 = [31] := rfl
@[simp] theorem dd_60_5 : deadOf 60 5 = [4, 32, 33, 34, 35, 36, 37, 38] := rfl
@[simp] theorem dd_60_6 : deadOf 60 6 = [14, 39] := rfl
@[simp] theorem dd_60_7 : deadOf 60 7 = [0, 1, 2, 3, 11, 12, 13, 40] := rfl
@[simp] theorem dd_60_8 : deadOf 60 8 = [13, 40, 41] := rfl
@[simp] theorem dd_60_9 : deadOf 60 9 = [42, 43] := rfl
@[simp] theorem dd_60_10 : deadOf 60 10 = [12, 44, 45, 46, 47, 48, 49, 50, 51] := rfl
@[simp] theorem dd_60_11 : deadOf 60 11 = [52, 53] := rfl
@[simp] theorem dd_60_12 : deadOf 60 12 = [15, 54, 55, 56, 57, 58, 59, 60] := rfl
@[simp] theorem dd_60_13 : deadOf 60 13 = [15, 54, 61] := rfl
@[simp] theorem dd_60_14 : deadOf 60 14 = [1, 2, 3, 32, 62, 63] := rfl
@[simp] theorem dd_60_15 : deadOf 60 15 = [11, 64] := rfl
@[simp] theorem dd_60_16 : deadOf 60 16 = [0, 4, 10, 65, 66, 67] := rfl
@[simp] theorem dd_60_17 : deadOf 60 17 = [16, 18, 68, 69, 70] := rfl
@[simp] theorem dd_60_18 : deadOf 60 18 = [0, 4, 16, 65, 71, 72, 73, 74, 75, 76, 77, 78] := rfl
@[simp] theorem dd_61_0 : deadOf 61 0 = [10] := rfl
@[simp] theorem dd_61_1 : deadOf 61 1 = [14, 15] := rfl
@[simp] theorem dd_61_2 : deadOf 61 2 = [11, 16, 17, 18, 19, 20, 21, 22, 23, 24, 25] := rfl
@[simp] theorem dd_61_3 : deadOf 61 3 = [0, 1, 2, 3, 4, 26] := rfl
@[simp] theorem dd_61_4 : deadOf 61 4 = [1, 2, 3, 4, 26, 27, 28, 29, 30, 31, 32, 33, 34] := rfl
@[simp] theorem dd_61_5 : deadOf 61 5 = [0, 12, 13, 35, 36, 37, 38, 39, 40] := rfl
@[simp] theorem dd_62_0 : deadOf 62 0 = [0, 4] := rfl
@[simp] theorem dd_62_1 : deadOf 62 1 = [1, 2, 3, 5, 6, 7, 8, 9, 10, 11, 12, 13, 14, 15, 16, 17, 18, 19] := rfl
@[simp] theorem dd_63_0 : deadOf 63 0 = [2] := rfl
@[simp] theorem dd_63_1 : deadOf 63 1 = [0, 3, 4, 5] := rfl
@[simp] theorem dd_64_0 : deadOf 64 0 = [4] := rfl
@[simp] theorem dd_64_1 : deadOf 64 1 = [0, 1, 5, 6, 7, 8] := rfl
@[simp] theorem dd_65_0 : deadOf 65 0 = [0, 2] := rfl
@[simp] theorem dd_65_1 : deadOf 65 1 = [1, 3] := rfl
@[simp] theorem dd_66_0 : deadOf 66 0 = [1, 6] := rfl
@[simp] theorem dd_66_1 : deadOf 66 1 = [8] := rfl
@[simp] theorem dd_66_2 : deadOf 66 2 = [9, 10, 11, 12] := rfl
@[simp] theorem dd_66_3 : deadOf 66 3 = [4, 5, 13, 14, 15] := rfl
@[simp] theorem dd_67_0 : deadOf 67 0 = [0, 2] := rfl
@[simp] theorem dd_67_1 : deadOf 67 1 = [6] := rfl
@[simp] theorem dd_67_2 : deadOf 67 2 = [1, 7] := rfl
@[simp] theorem dd_67_3 : deadOf 67 3 = [] := rfl
@[simp] theorem dd_67_4 : deadOf 67 4 = [11, 12, 13] := rfl
@[simp] theorem dd_67_5 : deadOf 67 5 = [5, 14, 15, 16, 17, 18] := rfl
@[simp] theorem dd_67_6 : deadOf 67 6 = [19] := rfl
@[simp] theorem dd_67_7 : deadOf 67 7 = [3, 8, 9, 10, 11, 20] := rfl
@[simp] theorem dd_68_0 : deadOf 68 0 = [2] := rfl
@[simp] theorem dd_68_1 : deadOf 68 1 = [0, 4, 5] := rfl
@[simp] theorem dd_68_2 : deadOf 68 2 = [6, 7] := rfl
@[simp] theorem dd_68_3 : deadOf 68 3 = [3, 8] := rfl
@[simp] theorem dd_69_0 : deadOf 69 0 = [0, 2] := rfl
@[simp] theorem dd_69_1 : deadOf 69 1 = [1, 3] := rfl
@[simp] theorem dd_70_0 : deadOf 70 0 = [2] := rfl
@[simp] theorem dd_70_1 : deadOf 70 1 = [] := rfl
@[simp] theorem dd_70_2 : deadOf 70 2 = [4, 5, 6, 7] := rfl
@[simp] theorem dd_70_3 : deadOf 70 3 = [8, 9, 10] := rfl
@[simp] theorem dd_70_4 : deadOf 70 4 = [0, 3, 8, 11] := rfl
@[simp] theorem dd_71_0 : deadOf 71 0 = [4] := rfl
@[simp] theorem dd_71_1 : deadOf 71 1 = [0, 1, 5, 6, 7, 8, 9] := rfl
@[simp] theorem dd_72_0 : deadOf 72 0 = [2] := rfl
@[simp] theorem dd_72_1 : deadOf 72 1 = [4, 5] := rfl
@[simp] theorem dd_72_2 : deadOf 72 2 = [0, 6, 7] := rfl
@[simp] theorem dd_72_3 : deadOf 72 3 = [6, 8, 9] := rfl
@[simp] theorem dd_72_4 : deadOf 72 4 = [0, 10, 11, 12, 13, 14] := rfl
@[simp] theorem dd_72_5 : deadOf 72 5 = [10, 15, 16, 17] := rfl
@[simp] theorem dd_72_6 : deadOf 72 6 = [0, 3, 18, 19, 20, 21, 22, 23, 24, 25, 26] := rfl
@[simp] theorem dd_73_0 : deadOf 73 0 = [6] := rfl
@[simp] theorem dd_73_1 : deadOf 73 1 = [0, 1, 2, 7, 8, 9, 10, 11, 12, 13, 14] := rfl
@[simp] theorem dd_74_0 : deadOf 74 0 = [] := rfl
@[simp] theorem dd_74_1 : deadOf 74 1 = [] := rfl
@[simp] theorem dd_74_2 : deadOf 74 2 = [] := rfl
@[simp] theorem dd_74_3 : deadOf 74 3 = [0] := rfl
@[simp] theorem dd_74_4 : deadOf 74 4 = [] := rfl
@[simp] theorem dd_74_5 : deadOf 74 5 = [14, 15, 16] := rfl
@[simp] theorem dd_74_6 : deadOf 74 6 = [6, 17, 18, 19, 20, 21, 22, 23, 24] := rfl
@[simp] theorem dd_74_7 : deadOf 74 7 = [25, 26] := rfl
@[simp] theorem dd_74_8 : deadOf 74 8 = [27, 28, 29, 30, 31, 32, 33, 34, 35, 36, 37, 38, 39, 40] := rfl
@[simp] theorem dd_74_9 : deadOf 74 9 = [42, 43] := rfl
@[simp] theorem dd_74_10 : deadOf 74 10 = [41, 44, 45, 46, 47, 48, 49, 50, 51, 52, 53, 54, 55, 56, 57, 58, 59, 60] := rfl
@[simp] theorem dd_74_11 : deadOf 74 11 = [61, 62, 63, 64, 65, 66, 67, 68, 69, 70, 71, 72] := rfl
@[simp] theorem dd_74_12 : deadOf 74 12 = [7, 41, 73] := rfl
@[simp] theorem dd_74_13 : deadOf 74 13 = [4, 11, 12, 13, 14, 74, 75] := rfl
@[simp] theorem dd_74_14 : deadOf 74 14 = [3, 76, 77] := rfl
@[simp] theorem dd_74_15 : deadOf 74 15 = [76, 78, 79, 80, 81, 82, 83] := rfl
@[simp] theorem dd_74_16 : deadOf 74 16 = [3, 84, 85, 86, 87, 88] := rfl
@[simp] theorem dd_74_17 : deadOf 74 17 = [2, 89, 90, 91] := rfl
@[simp] theorem dd_74_18 : deadOf 74 18 = [8, 10, 92, 93, 94] := rfl
@[simp] theorem dd_74_19 : deadOf 74 19 = [8, 89, 95] := rfl
@[simp] theorem dd_75_0 : deadOf 75 0 = [1, 4] := rfl
@[simp] theorem dd_75_1 : deadOf 75 1 = [] := rfl
@[simp] theorem dd_75_2 : deadOf 75 2 = [6] := rfl
@[simp] theorem dd_75_3 : deadOf 75 3 = [7, 8, 9] := rfl
@[simp] theorem dd_75_4 : deadOf 75 4 = [10, 11, 12] := rfl
@[simp] theorem dd_75_5 : deadOf 75 5 = [3, 13, 14, 15, 16] := rfl
@[simp] theorem dd_75_6 : deadOf 75 6 = [0, 5, 17, 18, 19, 20, 21] := rfl
@[simp] theorem dd_76_0 : deadOf 76 0 = [4, 5] := rfl
@[simp] theorem dd_76_1 : deadOf 76 1 = [12, 13, 14, 15, 16, 17, 18, 19] := rfl
@[simp] theorem dd_76_2 : deadOf 76 2 = [0, 1, 11] := rfl
@[simp] theorem dd_76_3 : deadOf 76 3 = [11, 21, 22] := rfl
@[simp] theorem dd_76_4 : deadOf 76 4 = [0, 1, 20] := rfl
@[simp] theorem dd_76_5 : deadOf 76 5 = [20] := rfl
@[simp] theorem dd_76_6 : deadOf 76 6 = [] := rfl
@[simp] theorem dd_76_7 : deadOf 76 7 = [23, 24, 25] := rfl
@[simp] theorem dd_76_8 : deadOf 76 8 = [26, 27, 28, 29] := rfl
@[simp] theorem dd_76_9 : deadOf 76 9 = [0, 30, 31, 32, 33, 34, 35] := rfl
@[simp] theorem dd_76_10 : deadOf 76 10 = [36, 37] := rfl
@[simp] theorem dd_76_11 : deadOf 76 11 = [8, 38, 39, 40, 41, 42, 43] := rfl
@[simp] theorem dd_76_12 : deadOf 76 12 = [8, 10, 38, 44, 45, 46, 47, 48] := rfl
@[simp] theorem dd_76_13 : deadOf 76 13 = [9, 49] := rfl
@[simp] theorem dd_76_14 : deadOf 76 14 = [1, 7, 26, 50] := rfl
@[simp] theorem dd_76_15 : deadOf 76 15 = [0, 51, 52, 53, 54, 55, 56] := rfl
@[simp] theorem dd_76_16 : deadOf 76 16 = [0, 51, 57, 58] := rfl
@[simp] theorem dd_76_17 : deadOf 76 17 = [6, 59] := rfl
@[simp] theorem dd_77_0 : deadOf 77 0 = [] := rfl
@[simp] theorem dd_77_1 : deadOf 77 1 = [22, 23, 24, 25, 26, 27, 28, 29, 30, 31, 32, 33, 34, 35, 36, 37, 38, 39, 40, 41, 42, 43] := rfl
@[simp] theorem dd_77_2 : deadOf 77 2 = [0, 1, 2, 3, 4, 21] := rfl
@[simp] theorem dd_77_3 : deadOf 77 3 = [21, 45, 46] := rfl
@[simp] theorem dd_77_4 : deadOf 77 4 = [0, 1, 2, 3, 4, 44, 47, 48, 49, 50, 51, 52, 53, 54] := rfl
@[simp] theorem dd_77_5 : deadOf 77 5 = [44, 56, 57, 58] := rfl
@[simp] theorem dd_77_6 : deadOf 77 6 = [0, 1, 2, 3, 4, 55, 59, 60, 61, 62, 63, 64, 65, 66] := rfl
@[simp] theorem dd_77_7 : deadOf 77 7 = [55] := rfl
@[simp] theorem dd_77_8 : deadOf 77 8 = [] := rfl
@[simp] theorem dd_77_9 : deadOf 77 9 = [67, 68] := rfl
@[simp] theorem dd_77_10 : deadOf 77 10 = [4, 69, 70, 71, 72, 73, 74, 75] := rfl
@[simp] theorem dd_77_11 : deadOf 77 11 = [15, 76] := rfl
@[simp] theorem dd_77_12 : deadOf 77 12 = [0, 1, 2, 3, 11, 12, 13, 14, 77] := rfl
@[simp] theorem dd_77_13 : deadOf 77 13 = [14, 77, 78] := rfl
@[simp] theorem dd_77_14 : deadOf 77 14 = [79, 80] := rfl
@[simp] theorem dd_77_15 : deadOf 77 15 = [13, 81, 82, 83, 84, 85, 86, 87, 88] := rfl
@[simp] theorem dd_77_16 : deadOf 77 16 = [89, 90] := rfl
@[simp] theorem dd_77_17 : deadOf 77 17 = [16, 91, 92, 93, 94, 95, 96, 97] := rfl
@[simp] theorem dd_77_18 : deadOf 77 18 = [16, 91, 98] := rfl
@[simp] theorem dd_77_19 : deadOf 77 19 = [1, 3, 69, 99, 100] := rfl
@[simp] theorem dd_77_20 : deadOf 77 20 = [12, 101] := rfl
@[simp] theorem dd_77_21 : deadOf 77 21 = [102, 103, 104] := rfl
@[simp] theorem dd_77_22 : deadOf 77 22 = [0, 2, 4, 11, 17, 18, 105] := rfl
@[simp] theorem dd_77_23 : deadOf 77 23 = [105, 106, 107, 108, 109, 110, 111] := rfl
@[simp] theorem dd_77_24 : deadOf 77 24 = [11, 102, 112] := rfl
@[simp] theorem dd_77_25 : deadOf 77 25 = [0, 2, 4, 10, 113, 114, 115] := rfl
@[simp] theorem dd_77_26 : deadOf 77 26 = [116] := rfl
@[simp] theorem dd_77_27 : deadOf 77 27 = [17, 117, 118, 119, 120] := rfl
@[simp] theorem dd_77_28 : deadOf 77 28 = [17, 18, 20, 117, 121, 122, 123] := rfl
@[simp] theorem dd_77_29 : deadOf 77 29 = [0, 2, 4, 17, 18, 113, 124, 125, 126, 127, 128, 129, 130, 131, 132, 133, 134, 135, 136] := rfl
@[simp] theorem dd_78_0 : deadOf 78 0 = [2, 3] := rfl
@[simp] theorem dd_78_1 : deadOf 78 1 = [6, 7, 8, 9, 10] := rfl
@[simp] theorem dd_78_2 : deadOf 78 2 = [0, 11] := rfl
@[simp] theorem dd_78_3 : deadOf 78 3 = [0, 11, 12, 13] := rfl
@[simp] theorem dd_78_4 : deadOf 78 4 = [] := rfl
@[simp] theorem dd_78_5 : deadOf 78 5 = [14] := rfl
@[simp] theorem dd_78_6 : deadOf 78 6 = [15, 16, 17, 18, 19, 20, 21, 22] := rfl
@[simp] theorem dd_78_7 : deadOf 78 7 = [23, 24] := rfl
@[simp] theorem dd_78_8 : deadOf 78 8 = [4, 5, 15, 25, 26, 27, 28, 29, 30] := rfl
@[simp] theorem dd_79_0 : deadOf 79 0 = [2] := rfl
@[simp] theorem dd_79_1 : deadOf 79 1 = [3] := rfl
@[simp] theorem dd_79_2 : deadOf 79 2 = [0, 4] := rfl
@[simp] theorem dd_79_3 : deadOf 79 3 = [0, 4, 5, 6, 7] := rfl
@[simp] theorem dd_80_0 : deadOf 80 0 = [2] := rfl
@[simp] theorem dd_80_1 : deadOf 80 1 = [0, 3, 4, 5] := rfl
@[simp] theorem dd_81_0 : deadOf 81 0 = [4] := rfl
@[simp] theorem dd_81_1 : deadOf 81 1 = [0, 1, 5, 6, 7, 8] := rfl
@[simp] theorem dd_82_0 : deadOf 82 0 = [1, 4] := rfl
@[simp] theorem dd_82_1 : deadOf 82 1 = [0, 3, 5, 6, 7, 8, 9] := rfl
@[simp] theorem dd_83_0 : deadOf 83 0 = [4, 5] := rfl
@[simp] theorem dd_83_1 : deadOf 83 1 = [6, 7, 8, 9, 10, 11, 12] := rfl
@[simp] theorem dd_83_2 : deadOf 83 2 = [0, 1, 13] := rfl
@[simp] theorem dd_83_3 : deadOf 83 3 = [13, 14] := rfl
@[simp] theorem dd_83_4 : deadOf 83 4 = [0, 1, 15] := rfl
@[simp] theorem dd_83_5 : deadOf 83 5 = [0, 1, 15, 16, 17, 18] := rfl
@[simp] theorem dd_84_0 : deadOf 84 0 = [10] := rfl
@[simp] theorem dd_84_1 : deadOf 84 1 = [15, 16] := rfl
@[simp] theorem dd_84_2 : deadOf 84 2 = [11, 17, 18, 19, 20, 21, 22, 23, 24, 25, 26, 27, 28, 29, 30, 31, 32, 33, 34, 35, 36] := rfl
@[simp] theorem dd_84_3 : deadOf 84 3 = [0, 1, 2, 3, 4, 37] := rfl
@[simp] theorem dd_84_4 : deadOf 84 4 = [37, 38] := rfl
@[simp] theorem dd_84_5 : deadOf 84 5 = [0, 1, 2, 3, 4, 39, 40, 41, 42, 43, 44, 45, 46, 47] := rfl
@[simp] theorem dd_84_6 : deadOf 84 6 = [39, 48, 49] := rfl
@[simp] theorem dd_84_7 : deadOf 84 7 = [0, 1, 2, 3, 4, 50, 51, 52, 53, 54, 55, 56, 57, 58] := rfl
@[simp] theorem dd_84_8 : deadOf 84 8 = [1, 3, 4, 50, 59, 60, 61, 62, 63, 64, 65, 66, 67] := rfl
@[simp] theorem dd_84_9 : deadOf 84 9 = [0, 2, 12, 13, 14, 68, 69, 70, 71, 72, 73, 74, 75, 76, 77, 78] := rfl
@[simp] theorem dd_85_0 : deadOf 85 0 = [2] := rfl
@[simp] theorem dd_85_1 : deadOf 85 1 = [0, 3, 4, 5, 6, 7, 8] := rfl
@[simp] theorem dd_86_0 : deadOf 86 0 = [4, 5, 6] := rfl
@[simp] theorem dd_86_1 : deadOf 86 1 = [7, 8] := rfl
@[simp] theorem dd_86_2 : deadOf 86 2 = [10, 11, 12, 13] := rfl
@[simp] theorem dd_86_3 : deadOf 86 3 = [9, 14, 15, 16, 17, 18, 19, 20, 21, 22, 23, 24, 25, 26, 27] := rfl
@[simp] theorem dd_87_0 : deadOf 87 0 = [2] := rfl
@[simp] theorem dd_87_1 : deadOf 87 1 = [] := rfl
@[simp] theorem dd_87_2 : deadOf 87 2 = [] := rfl
@[simp] theorem dd_87_3 : deadOf 87 3 = [6, 7, 8] := rfl
@[simp] theorem dd_87_4 : deadOf 87 4 = [10, 11] := rfl
@[simp] theorem dd_87_5 : deadOf 87 5 = [9, 12, 13, 14, 15, 16, 17] := rfl
@[simp] theorem dd_87_6 : deadOf 87 6 = [4, 9, 18, 19, 20] := rfl
@[simp] theorem dd_87_7 : deadOf 87 7 = [21, 22, 23] := rfl
@[simp] theorem dd_87_8 : deadOf 87 8 = [24, 25, 26, 27] := rfl
@[simp] theorem dd_87_9 : deadOf 87 9 = [24] := rfl
@[simp] theorem dd_87_10 : deadOf 87 10 = [28] := rfl
@[simp] theorem dd_87_11 : deadOf 87 11 = [30, 31] := rfl
@[simp] theorem dd_87_12 : deadOf 87 12 = [29, 32, 33, 34, 35, 36, 37, 38, 39, 40, 41] := rfl
@[simp] theorem dd_87_13 : deadOf 87 13 = [0, 3, 5, 29, 42] := rfl
@[simp] theorem dd_88_0 : deadOf 88 0 = [4] := rfl
@[simp] theorem dd_88_1 : deadOf 88 1 = [] := rfl
@[simp] theorem dd_88_2 : deadOf 88 2 = [] := rfl
@[simp] theorem dd_88_3 : deadOf 88 3 = [19] := rfl
@[simp] theorem dd_88_4 : deadOf 88 4 = [21, 22] := rfl
@[simp] theorem dd_88_5 : deadOf 88 5 = [20, 23, 24, 25, 26, 27, 28, 29, 30, 31, 32, 33, 34, 35, 36, 37, 38, 39, 40, 41, 42, 43, 44, 45, 46, 47, 48, 49, 50, 51, 52, 53, 54, 55, 56, 57, 58] := rfl
@[simp] theorem dd_88_6 : deadOf 88 6 = [1, 6, 20] := rfl
@[simp] theorem dd_88_7 : deadOf 88 7 = [59] := rfl
@[simp] theorem dd_88_8 : deadOf 88 8 = [61, 62] := rfl
@[simp] theorem dd_88_9 : deadOf 88 9 = [60, 63, 64, 65, 66, 67, 68, 69, 70, 71, 72, 73, 74, 75, 76, 77, 78, 79, 80, 81, 82] := rfl
@[simp] theorem dd_88_10 : deadOf 88 10 = [83, 84, 85, 86, 87, 88, 89, 90, 91, 92, 93, 94, 95, 96, 97, 98, 99, 100, 101, 102] := rfl
@[simp] theorem dd_88_11 : deadOf 88 11 = [8, 9, 103, 104, 105, 106, 107, 108, 109, 110, 111, 112, 113, 114, 115, 116, 117, 118, 119, 120] := rfl
@[simp] theorem dd_88_12 : deadOf 88 12 = [7, 60, 121] := rfl
@[simp] theorem dd_88_13 : deadOf 88 13 = [] := rfl
@[simp] theorem dd_88_14 : deadOf 88 14 = [122, 123, 124] := rfl
@[simp] theorem dd_88_15 : deadOf 88 15 = [] := rfl
@[simp] theorem dd_88_16 : deadOf 88 16 = [125] := rfl
@[simp] theorem dd_88_17 : deadOf 88 17 = [127, 128] := rfl
@[simp] theorem dd_88_18 : deadOf 88 18 = [126, 129, 130, 131] := rfl
@[simp] theorem dd_88_19 : deadOf 88 19 = [132, 133, 134] := rfl
@[simp] theorem dd_88_20 : deadOf 88 20 = [135, 136, 137, 138, 139, 140, 141, 142, 143, 144, 145, 146, 147, 148, 149, 150, 151, 152, 153, 154, 155, 156, 157, 158, 159, 160, 161, 162, 163, 164, 165, 166, 167, 168, 169] := rfl
@[simp] theorem dd_88_21 : deadOf 88 21 = [170, 171, 172, 173, 174, 175, 176, 177, 178, 179, 180, 181, 182, 183, 184, 185, 186, 187, 188, 189, 190, 191, 192, 193, 194, 195, 196, 197] := rfl
@[simp] theorem dd_88_22 : deadOf 88 22 = [13, 14, 15, 16, 198, 199, 200, 201, 202, 203, 204, 205, 206, 207, 208, 209, 210, 211, 212, 213, 214, 215, 216, 217, 218, 219, 220] := rfl
@[simp] theorem dd_88_23 : deadOf 88 23 = [5, 10, 12, 126] := rfl
@[simp] theorem dd_88_24 : deadOf 88 24 = [] := rfl
@[simp] theorem dd_88_25 : deadOf 88 25 = [221] := rfl
@[simp] theorem dd_88_26 : deadOf 88 26 = [223, 224] := rfl
@[simp] theorem dd_88_27 : deadOf 88 27 = [222, 225, 226, 227, 228, 229, 230, 231, 232, 233, 234, 235, 236] := rfl
@[simp] theorem dd_88_28 : deadOf 88 28 = [0, 11, 17, 18, 222, 237] := rfl
@[simp] theorem dd_89_0 : deadOf 89 0 = [0, 3] := rfl
@[simp] theorem dd_89_1 : deadOf 89 1 = [1, 6, 7, 8, 9, 10, 11, 12] := rfl
@[simp] theorem dd_89_2 : deadOf 89 2 = [2, 4, 5, 13, 14, 15, 16, 17, 18, 19] := rfl
@[simp] theorem dd_90_0 : deadOf 90 0 = [4] := rfl
@[simp] theorem dd_90_1 : deadOf 90 1 = [0, 1, 5, 6, 7, 8] := rfl
@[simp] theorem dd_91_0 : deadOf 91 0 = [2] := rfl
@[simp] theorem dd_91_1 : deadOf 91 1 = [] := rfl
@[simp] theorem dd_91_2 : deadOf 91 2 = [0, 3, 4, 5, 6, 7] := rfl
@[simp] theorem dd_92_0 : deadOf 92 0 = [2, 3, 4] := rfl
@[simp] theorem dd_92_1 : deadOf 92 1 = [6, 7] := rfl
@[simp] theorem dd_92_2 : deadOf 92 2 = [0, 8] := rfl
@[simp] theorem dd_92_3 : deadOf 92 3 = [8, 9, 10, 11] := rfl
@[simp] theorem dd_92_4 : deadOf 92 4 = [0, 5, 12, 13, 14, 15, 16, 17, 18] := rfl
@[simp] theorem dd_93_0 : deadOf 93 0 = [2] := rfl
@[simp] theorem dd_93_1 : deadOf 93 1 = [0, 3, 4, 5, 6] := rfl
@[simp] theorem dd_94_0 : deadOf 94 0 = [0, 2] := rfl
@[simp] theorem dd_94_1 : deadOf 94 1 = [1, 3] := rfl
@[simp] theorem dd_95_0 : deadOf 95 0 = [0, 4] := rfl
@[simp] theorem dd_95_1 : deadOf 95 1 = [5] := rfl
@[simp] theorem dd_95_2 : deadOf 95 2 = [1, 2, 6, 7, 8, 9, 10] := rfl
@[simp] theorem dd_95_3 : deadOf 95 3 = [1, 2, 6, 11, 12, 13, 14] := rfl
@[simp] theorem dd_96_0 : deadOf 96 0 = [2] := rfl
@[simp] theorem dd_96_1 : deadOf 96 1 = [] := rfl
@[simp] theorem dd_96_2 : deadOf 96 2 = [4, 5, 6] := rfl
@[simp] theorem dd_96_3 : deadOf 96 3 = [8, 9, 15] := rfl
@[simp] theorem dd_96_4 : deadOf 96 4 = [7, 10, 11, 12, 13, 14] := rfl
@[simp] theorem dd_96_5 : deadOf 96 5 = [0, 3, 15] := rfl
@[simp] theorem dd_96_6 : deadOf 96 6 = [0, 3, 7] := rfl
@[simp] theorem dd_97_0 : deadOf 97 0 = [8, 9] := rfl
@[simp] theorem dd_97_1 : deadOf 97 1 = [16, 17, 18] := rfl
@[simp] theorem dd_97_2 : deadOf 97 2 = [19] := rfl
@[simp] theorem dd_97_3 : deadOf 97 3 = [0, 1, 2, 3, 10, 20, 21, 22, 23, 24] := rfl
@[simp] theorem dd_97_4 : deadOf 97 4 = [20, 25] := rfl
@[simp] theorem dd_97_5 : deadOf 97 5 = [0, 1, 2, 3, 10, 26] := rfl
@[simp] theorem dd_97_6 : deadOf 97 6 = [26, 27, 28] := rfl
@[simp] theorem dd_97_7 : deadOf 97 7 = [29, 30] := rfl
@[simp] theorem dd_97_8 : deadOf 97 8 = [0, 1, 2, 11, 31, 32, 33, 34, 35, 36, 37, 38, 39, 40, 41] := rfl
@[simp] theorem dd_97_9 : deadOf 97 9 = [3, 10, 12, 13, 42, 43, 44, 45, 46, 47, 48] := rfl
@[simp] theorem dd_97_10 : deadOf 97 10 = [0, 1, 2, 11, 31, 49, 50, 51, 52, 53, 54, 55, 56, 57, 58, 59, 60, 61, 62] := rfl
@[simp] theorem dd_97_11 : deadOf 97 11 = [3, 10, 14, 15, 63, 64, 65, 66, 67, 68, 69] := rfl
@[simp] theorem dd_98_0 : deadOf 98 0 = [4] := rfl
@[simp] theorem dd_98_1 : deadOf 98 1 = [6] := rfl
@[simp] theorem dd_98_2 : deadOf 98 2 = [] := rfl
@[simp] theorem dd_98_3 : deadOf 98 3 = [9, 10] := rfl
@[simp] theorem dd_98_4 : deadOf 98 4 = [11, 12, 13, 14, 15] := rfl
@[simp] theorem dd_98_5 : deadOf 98 5 = [0, 1, 5, 7, 8, 16, 17] := rfl
@[simp] theorem dd_98_6 : deadOf 98 6 = [5, 16, 18] := rfl
@[simp] theorem dd_98_7 : deadOf 98 7 = [0, 1, 7, 8, 9] := rfl
@[simp] theorem dd_99_0 : deadOf 99 0 = [5] := rfl
@[simp] theorem dd_99_1 : deadOf 99 1 = [] := rfl
@[simp] theorem dd_99_2 : deadOf 99 2 = [8, 9] := rfl
@[simp] theorem dd_99_3 : deadOf 99 3 = [10, 11] := rfl
@[simp] theorem dd_99_4 : deadOf 99 4 = [12, 13, 14] := rfl
@[simp] theorem dd_99_5 : deadOf 99 5 = [16, 17, 22] := rfl
@[simp] theorem dd_99_6 : deadOf 99 6 = [15, 18, 19, 20, 21] := rfl
@[simp] theorem dd_99_7 : deadOf 99 7 = [3, 4, 15, 23] := rfl
@[simp] theorem dd_100_0 : deadOf 100 0 = [2] := rfl
@[simp] theorem dd_100_1 : deadOf 100 1 = [0, 3, 4] := rfl
@[simp] theorem dd_101_0 : deadOf 101 0 = [3, 4] := rfl
@[simp] theorem dd_101_1 : deadOf 101 1 = [0, 2, 5, 6, 7, 8, 9, 10] := rfl
@[simp] theorem dd_102_0 : deadOf 102 0 = [1, 4] := rfl
@[simp] theorem dd_102_1 : deadOf 102 1 = [6] := rfl
@[simp] theorem dd_102_2 : deadOf 102 2 = [7, 8, 9] := rfl
@[simp] theorem dd_102_3 : deadOf 102 3 = [3, 10, 11, 12] := rfl
@[simp] theorem dd_103_0 : deadOf 103 0 = [4] := rfl
@[simp] theorem dd_103_1 : deadOf 103 1 = [0, 1, 5, 6, 7, 8, 9] := rfl
@[simp] theorem dd_104_0 : deadOf 104 0 = [] := rfl
@[simp] theorem dd_104_1 : deadOf 104 1 = [7] := rfl
@[simp] theorem dd_104_2 : deadOf 104 2 = [8, 9, 10, 11] := rfl
@[simp] theorem dd_104_3 : deadOf 104 3 = [12, 13, 14] := rfl
@[simp] theorem dd_104_4 : deadOf 104 4 = [15, 16, 17, 18] := rfl
@[simp] theorem dd_104_5 : deadOf 104 5 = [15] := rfl
@[simp] theorem dd_104_6 : deadOf 104 6 = [19] := rfl
@[simp] theorem dd_104_7 : deadOf 104 7 = [21, 22] := rfl
@[simp] theorem dd_104_8 : deadOf 104 8 = [20, 23, 24, 25, 26, 27, 28, 29, 30, 31, 32] := rfl
@[simp] theorem dd_104_9 : deadOf 104 9 = [0, 4, 5, 20, 33] := rfl
@[simp] theorem dd_104_10 : deadOf 104 10 = [2, 34, 35] := rfl
@[simp] theorem dd_104_11 : deadOf 104 11 = [3, 6, 36, 37] := rfl
@[simp] theorem dd_104_12 : deadOf 104 12 = [3, 34, 38, 39] := rfl
@[simp] theorem dd_105_0 : deadOf 105 0 = [0, 2] := rfl
@[simp] theorem dd_105_1 : deadOf 105 1 = [1, 3] := rfl
@[simp] theorem dd_106_0 : deadOf 106 0 = [1, 5, 6, 7, 8, 9, 10] := rfl
@[simp] theorem dd_106_1 : deadOf 106 1 = [0, 4, 11, 12, 13, 14, 15] := rfl
@[simp] theorem dd_107_0 : deadOf 107 0 = [4, 5] := rfl
@[simp] theorem dd_107_1 : deadOf 107 1 = [6, 7] := rfl
@[simp] theorem dd_107_2 : deadOf 107 2 = [0, 8, 9, 10, 11, 12, 13, 14, 15, 16] := rfl
@[simp] theorem dd_107_3 : deadOf 107 3 = [1, 17, 18] := rfl
@[simp] theorem dd_108_0 : deadOf 108 0 = [2] := rfl
@[simp] theorem dd_108_1 : deadOf 108 1 = [0, 3, 4, 5, 6, 7, 8, 9, 10, 11, 12, 13] := rfl
@[simp] theorem dd_109_0 : deadOf 109 0 = [2] := rfl
@[simp] theorem dd_109_1 : deadOf 109 1 = [0, 3, 4, 5] := rfl
@[simp] theorem dd_110_0 : deadOf 110 0 = [2] := rfl
@[simp] theorem dd_110_1 : deadOf 110 1 = [3] := rfl
@[simp] theorem dd_110_2 : deadOf 110 2 = [0, 4, 5, 6, 7, 8, 9] := rfl
@[simp] theorem dd_110_3 : deadOf 110 3 = [0, 4, 10, 11, 12] := rfl
@[simp] theorem dd_111_0 : deadOf 111 0 = [4] := rfl
@[simp] theorem dd_111_1 : deadOf 111 1 = [6] := rfl
@[simp] theorem dd_111_2 : deadOf 111 2 = [] := rfl
@[simp] theorem dd_111_3 : deadOf 111 3 = [9, 10] := rfl
@[simp] theorem dd_111_4 : deadOf 111 4 = [11, 12, 13, 14, 15] := rfl
@[simp] theorem dd_111_5 : deadOf 111 5 = [0, 1, 5, 7, 8, 16, 17] := rfl
@[simp] theorem dd_111_6 : deadOf 111 6 = [5, 16, 18] := rfl
@[simp] theorem dd_111_7 : deadOf 111 7 = [0, 1, 7, 8, 9] := rfl
@[simp] theorem dd_112_0 : deadOf 112 0 = [6] := rfl
@[simp] theorem dd_112_1 : deadOf 112 1 = [8, 9, 10] := rfl
@[simp] theorem dd_112_2 : deadOf 112 2 = [1, 2, 11] := rfl
@[simp] theorem dd_112_3 : deadOf 112 3 = [0, 12] := rfl
@[simp] theorem dd_112_4 : deadOf 112 4 = [0, 12, 13, 14, 15] := rfl
@[simp] theorem dd_112_5 : deadOf 112 5 = [11, 16, 17, 18] := rfl
@[simp] theorem dd_112_6 : deadOf 112 6 = [19, 20] := rfl
@[simp] theorem dd_112_7 : deadOf 112 7 = [0, 1, 2, 7, 21, 22, 23, 24, 25, 26, 27, 28, 29, 30, 31, 32, 33] := rfl
@[simp] theorem dd_112_8 : deadOf 112 8 = [0, 1, 2, 7, 21, 34, 35, 36, 37, 38, 39, 40, 41, 42, 43, 44, 45, 46] := rfl
@[simp] theorem dd_113_0 : deadOf 113 0 = [10, 11, 12] := rfl
@[simp] theorem dd_113_1 : deadOf 113 1 = [21, 22, 23] := rfl
@[simp] theorem dd_113_2 : deadOf 113 2 = [24, 25] := rfl
@[simp] theorem dd_113_3 : deadOf 113 3 = [1, 2, 4, 26] := rfl
@[simp] theorem dd_113_4 : deadOf 113 4 = [0, 3, 13, 27, 28, 29, 30, 31] := rfl
@[simp] theorem dd_113_5 : deadOf 113 5 = [0, 13, 27, 32] := rfl
@[simp] theorem dd_113_6 : deadOf 113 6 = [3, 33] := rfl
@[simp] theorem dd_113_7 : deadOf 113 7 = [3, 33, 34, 35, 36, 37, 38, 39] := rfl
@[simp] theorem dd_113_8 : deadOf 113 8 = [26, 40] := rfl
@[simp] theorem dd_113_9 : deadOf 113 9 = [0, 1, 2, 3, 4, 13, 41] := rfl
@[simp] theorem dd_113_10 : deadOf 113 10 = [41, 42, 43] := rfl
@[simp] theorem dd_113_11 : deadOf 113 11 = [44, 45] := rfl
@[simp] theorem dd_113_12 : deadOf 113 12 = [0, 1, 2, 4, 14, 46, 47, 48, 49, 50, 51, 52, 53, 54, 55, 56, 57, 58] := rfl
@[simp] theorem dd_113_13 : deadOf 113 13 = [3, 13, 15, 16, 17, 59, 60, 61, 62, 63, 64, 65, 66] := rfl
@[simp] theorem dd_113_14 : deadOf 113 14 = [0, 1, 2, 4, 14, 46, 67, 68, 69, 70, 71, 72, 73, 74, 75, 76, 77, 78, 79, 80, 81] := rfl
@[simp] theorem dd_113_15 : deadOf 113 15 = [3, 13, 18, 19, 20, 82, 83, 84, 85, 86, 87, 88, 89, 90, 91, 92, 93, 94] := rfl
@[simp] theorem dd_114_0 : deadOf 114 0 = [2] := rfl
@[simp] theorem dd_114_1 : deadOf 114 1 = [0, 3, 4, 5] := rfl
@[simp] theorem dd_114_2 : deadOf 114 2 = [0, 6, 7] := rfl
@[simp] theorem dd_115_0 : deadOf 115 0 = [4] := rfl
@[simp] theorem dd_115_1 : deadOf 115 1 = [0, 1, 5, 6, 7, 8, 9, 10, 11, 12] := rfl
@[simp] theorem dd_116_0 : deadOf 116 0 = [0] := rfl
@[simp] theorem dd_116_1 : deadOf 116 1 = [1] := rfl
@[simp] theorem dd_117_0 : deadOf 117 0 = [4] := rfl
@[simp] theorem dd_117_1 : deadOf 117 1 = [6] := rfl
@[simp] theorem dd_117_2 : deadOf 117 2 = [] := rfl
@[simp] theorem dd_117_3 : deadOf 117 3 = [9, 10] := rfl
@[simp] theorem dd_117_4 : deadOf 117 4 = [11, 12, 13, 14, 15] := rfl
@[simp] theorem dd_117_5 : deadOf 117 5 = [0, 1, 5, 7, 8, 16, 17] := rfl
@[simp] theorem dd_117_6 : deadOf 117 6 = [5, 16, 18] := rfl
@[simp] theorem dd_117_7 : deadOf 117 7 = [0, 1, 7, 8, 9] := rfl
@[simp] theorem dd_118_0 : deadOf 118 0 = [2] := rfl
@[simp] theorem dd_118_1 : deadOf 118 1 = [0, 3, 4, 5] := rfl
@[simp] theorem dd_119_0 : deadOf 119 0 = [0, 2] := rfl
@[simp] theorem dd_119_1 : deadOf 119 1 = [1, 3] := rfl
@[simp] theorem dd_120_0 : deadOf 120 0 = [4, 5, 6] := rfl
@[simp] theorem dd_120_1 : deadOf 120 1 = [7] := rfl
@[simp] theorem dd_120_2 : deadOf 120 2 = [9, 10, 18] := rfl
@[simp] theorem dd_120_3 : deadOf 120 3 = [8, 11, 12, 13, 14, 15, 16, 17] := rfl
@[simp] theorem dd_121_0 : deadOf 121 0 = [0] := rfl
@[simp] theorem dd_121_1 : deadOf 121 1 = [1] := rfl
@[simp] theorem dd_121_2 : deadOf 121 2 = [4, 6, 7] := rfl
@[simp] theorem dd_121_3 : deadOf 121 3 = [2, 5, 8, 9, 10, 11] := rfl
@[simp] theorem dd_121_4 : deadOf 121 4 = [2, 6, 12] := rfl
@[simp] theorem dd_122_0 : deadOf 122 0 = [] := rfl
@[simp] theorem dd_122_1 : deadOf 122 1 = [] := rfl
@[simp] theorem dd_122_2 : deadOf 122 2 = [19, 20, 21] := rfl
@[simp] theorem dd_122_3 : deadOf 122 3 = [22] := rfl
@[simp] theorem dd_122_4 : deadOf 122 4 = [0, 1, 2, 3, 8, 9, 10, 23, 24, 25, 26, 27] := rfl
@[simp] theorem dd_122_5 : deadOf 122 5 = [23, 28] := rfl
@[simp] theorem dd_122_6 : deadOf 122 6 = [0, 1, 2, 3, 8, 9, 10, 29, 30, 31, 32, 33] := rfl
@[simp] theorem dd_122_7 : deadOf 122 7 = [29, 34] := rfl
@[simp] theorem dd_122_8 : deadOf 122 8 = [35, 36, 37, 38, 39] := rfl
@[simp] theorem dd_122_9 : deadOf 122 9 = [40, 41] := rfl
@[simp] theorem dd_122_10 : deadOf 122 10 = [35, 42, 43, 44, 45, 46, 47, 48] := rfl
@[simp] theorem dd_122_11 : deadOf 122 11 = [49] := rfl
@[simp] theorem dd_122_12 : deadOf 122 12 = [12, 50, 51, 52, 53, 54] := rfl
@[simp] theorem dd_122_13 : deadOf 122 13 = [55, 56, 57, 58, 59, 60] := rfl
@[simp] theorem dd_122_14 : deadOf 122 14 = [] := rfl
@[simp] theorem dd_122_15 : deadOf 122 15 = [12, 50, 61, 62, 63, 64, 65, 66, 67] := rfl
@[simp] theorem dd_122_16 : deadOf 122 16 = [68, 69, 70, 71] := rfl
@[simp] theorem dd_122_17 : deadOf 122 17 = [68, 72, 73, 74, 75, 76, 77, 78, 79, 80, 81, 82, 83, 84, 85, 86] := rfl
@[simp] theorem dd_122_18 : deadOf 122 18 = [1, 10, 11, 87, 88, 89, 90, 91, 92] := rfl
@[simp] theorem dd_122_19 : deadOf 122 19 = [13, 93] := rfl
@[simp] theorem dd_122_20 : deadOf 122 20 = [8, 9, 11, 87, 94, 95, 96, 97, 98, 99, 100, 101] := rfl
@[simp] theorem dd_122_21 : deadOf 122 21 = [15, 102] := rfl
@[simp] theorem dd_122_22 : deadOf 122 22 = [103, 104, 105, 106, 107, 108] := rfl
@[simp] theorem dd_122_23 : deadOf 122 23 = [10, 109, 110] := rfl
@[simp] theorem dd_122_24 : deadOf 122 24 = [111, 112] := rfl
@[simp] theorem dd_122_25 : deadOf 122 25 = [16, 17, 18, 113, 114, 115, 116] := rfl
@[simp] theorem dd_122_26 : deadOf 122 26 = [1, 117, 118, 119, 120, 121] := rfl
@[simp] theorem dd_122_27 : deadOf 122 27 = [14, 122, 123] := rfl
@[simp] theorem dd_122_28 : deadOf 122 28 = [16, 17, 18, 113, 124, 125, 126] := rfl
@[simp] theorem dd_122_29 : deadOf 122 29 = [2, 127, 128, 129, 130, 131, 132] := rfl
@[simp] theorem dd_122_30 : deadOf 122 30 = [14, 133] := rfl
@[simp] theorem dd_123_0 : deadOf 123 0 = [0, 1, 4] := rfl
@[simp] theorem dd_123_1 : deadOf 123 1 = [5] := rfl
@[simp] theorem dd_123_2 : deadOf 123 2 = [6, 7] := rfl
@[simp] theorem dd_123_3 : deadOf 123 3 = [2, 3, 6, 8] := rfl
@[simp] theorem dd_124_0 : deadOf 124 0 = [1, 13, 14] := rfl
@[simp] theorem dd_124_1 : deadOf 124 1 = [15, 16, 17] := rfl
@[simp] theorem dd_124_2 : deadOf 124 2 = [] := rfl
@[simp] theorem dd_124_3 : deadOf 124 3 = [] := rfl
@[simp] theorem dd_124_4 : deadOf 124 4 = [20, 21, 22] := rfl
@[simp] theorem dd_124_5 : deadOf 124 5 = [23, 24, 25, 26] := rfl
@[simp] theorem dd_124_6 : deadOf 124 6 = [6, 7, 9, 27, 28, 29, 30, 31, 32, 33, 34, 35, 36, 37, 38, 39, 40, 41, 42, 43, 44, 45, 46, 47, 48, 49] := rfl
@[simp] theorem dd_124_7 : deadOf 124 7 = [8, 50, 51, 52, 53, 54, 55, 56, 57, 58, 59, 60, 61, 62, 63, 64, 65, 66, 67, 68] := rfl
@[simp] theorem dd_124_8 : deadOf 124 8 = [69, 70, 71] := rfl
@[simp] theorem dd_124_9 : deadOf 124 9 = [10, 11, 72, 73, 74, 75, 76, 77, 78, 79, 80] := rfl
@[simp] theorem dd_124_10 : deadOf 124 10 = [81] := rfl
@[simp] theorem dd_124_11 : deadOf 124 11 = [4, 18, 19, 20] := rfl
@[simp] theorem dd_124_12 : deadOf 124 12 = [] := rfl
@[simp] theorem dd_124_13 : deadOf 124 13 = [83, 84] := rfl
@[simp] theorem dd_124_14 : deadOf 124 14 = [12, 85, 86, 87, 88, 89, 90, 91, 92, 93, 94, 95] := rfl
@[simp] theorem dd_124_15 : deadOf 124 15 = [96] := rfl
@[simp] theorem dd_125_0 : deadOf 125 0 = [0, 2] := rfl
@[simp] theorem dd_125_1 : deadOf 125 1 = [] := rfl
@[simp] theorem dd_125_2 : deadOf 125 2 = [1] := rfl
@[simp] theorem dd_125_3 : deadOf 125 3 = [] := rfl
@[simp] theorem dd_125_4 : deadOf 125 4 = [9, 10, 11] := rfl
@[simp] theorem dd_125_5 : deadOf 125 5 = [] := rfl
@[simp] theorem dd_125_6 : deadOf 125 6 = [] := rfl
@[simp] theorem dd_125_7 : deadOf 125 7 = [13, 14] := rfl
@[simp] theorem dd_125_8 : deadOf 125 8 = [6, 15, 16, 17, 18, 19, 20, 21, 22, 23, 24, 25] := rfl
@[simp] theorem dd_125_9 : deadOf 125 9 = [26] := rfl
@[simp] theorem dd_125_10 : deadOf 125 10 = [4, 5, 12, 13, 27] := rfl
@[simp] theorem dd_125_11 : deadOf 125 11 = [3, 7, 8, 9, 28, 29] := rfl
@[simp] theorem dd_126_0 : deadOf 126 0 = [4, 5, 6] := rfl
@[simp] theorem dd_126_1 : deadOf 126 1 = [7] := rfl
@[simp] theorem dd_126_2 : deadOf 126 2 = [9, 10, 18] := rfl
@[simp] theorem dd_126_3 : deadOf 126 3 = [8, 11, 12, 13, 14, 15, 16, 17] := rfl
@[simp] theorem dd_127_0 : deadOf 127 0 = [] := rfl
@[simp] theorem dd_127_1 : deadOf 127 1 = [7, 8, 9, 10, 11] := rfl
@[simp] theorem dd_127_2 : deadOf 127 2 = [0, 12] := rfl
@[simp] theorem dd_127_3 : deadOf 127 3 = [12] := rfl
@[simp] theorem dd_127_4 : deadOf 127 4 = [0, 13, 14, 15, 16, 17, 18, 19] := rfl
@[simp] theorem dd_127_5 : deadOf 127 5 = [2, 3, 20, 21] := rfl
@[simp] theorem dd_127_6 : deadOf 127 6 = [22] := rfl
@[simp] theorem dd_127_7 : deadOf 127 7 = [6, 23] := rfl
@[simp] theorem dd_127_8 : deadOf 127 8 = [24, 25, 26] := rfl
@[simp] theorem dd_127_9 : deadOf 127 9 = [4, 5, 24, 27, 28, 29, 30] := rfl
@[simp] theorem dd_127_10 : deadOf 127 10 = [4, 20, 31, 32] := rfl
@[simp] theorem dd_128_0 : deadOf 128 0 = [] := rfl
@[simp] theorem dd_128_1 : deadOf 128 1 = [0, 2, 3, 4, 5, 6, 7, 8, 9, 10, 11, 12, 13] := rfl
@[simp] theorem dd_128_2 : deadOf 128 2 = [] := rfl
@[simp] theorem dd_129_0 : deadOf 129 0 = [] := rfl
@[simp] theorem dd_129_1 : deadOf 129 1 = [3] := rfl
@[simp] theorem dd_129_2 : deadOf 129 2 = [2, 4, 5, 6] := rfl
@[simp] theorem dd_129_3 : deadOf 129 3 = [] := rfl
@[simp] theorem dd_129_4 : deadOf 129 4 = [4, 7] := rfl
@[simp] theorem dd_129_5 : deadOf 129 5 = [8, 9, 10] := rfl
@[simp] theorem dd_129_6 : deadOf 129 6 = [11, 12] := rfl
@[simp] theorem dd_129_7 : deadOf 129 7 = [0, 8, 13, 14, 15, 16, 17, 18] := rfl
@[simp] theorem dd_130_0 : deadOf 130 0 = [] := rfl
@[simp] theorem dd_130_1 : deadOf 130 1 = [3] := rfl
@[simp] theorem dd_130_2 : deadOf 130 2 = [2, 4, 5, 6] := rfl
@[simp] theorem dd_130_3 : deadOf 130 3 = [] := rfl
@[simp] theorem dd_130_4 : deadOf 130 4 = [4, 7] := rfl
@[simp] theorem dd_130_5 : deadOf 130 5 = [8, 9, 10] := rfl
@[simp] theorem dd_130_6 : deadOf 130 6 = [11, 12] := rfl
@[simp] theorem dd_130_7 : deadOf 130 7 = [8, 13] := rfl
@[simp] theorem dd_130_8 : deadOf 130 8 = [14, 15, 16] := rfl
@[simp] theorem dd_130_9 : deadOf 130 9 = [17, 18] := rfl
@[simp] theorem dd_130_10 : deadOf 130 10 = [0, 14, 19, 20, 21, 22, 23, 24] := rfl
@[simp] theorem dd_131_0 : deadOf 131 0 = [3] := rfl
@[simp] theorem dd_131_1 : deadOf 131 1 = [0, 1, 4, 5, 6, 7, 8] := rfl
@[simp] theorem dd_132_0 : deadOf 132 0 = [4] := rfl
@[simp] theorem dd_132_1 : deadOf 132 1 = [11] := rfl
@[simp] theorem dd_132_2 : deadOf 132 2 = [14] := rfl
@[simp] theorem dd_132_3 : deadOf 132 3 = [0, 1, 12, 13] := rfl
@[simp] theorem dd_132_4 : deadOf 132 4 = [12, 13, 16] := rfl
@[simp] theorem dd_132_5 : deadOf 132 5 = [0, 1, 15, 17, 18, 19] := rfl
@[simp] theorem dd_132_6 : deadOf 132 6 = [15] := rfl
@[simp] theorem dd_132_7 : deadOf 132 7 = [20, 21] := rfl
@[simp] theorem dd_132_8 : deadOf 132 8 = [22, 23, 24, 25, 26, 27, 28] := rfl
@[simp] theorem dd_132_9 : deadOf 132 9 = [29, 30] := rfl
@[simp] theorem dd_132_10 : deadOf 132 10 = [29, 31, 32, 33, 34, 35, 36, 37, 38] := rfl
@[simp] theorem dd_132_11 : deadOf 132 11 = [22] := rfl
@[simp] theorem dd_132_12 : deadOf 132 12 = [] := rfl
@[simp] theorem dd_132_13 : deadOf 132 13 = [42, 43, 44] := rfl
@[simp] theorem dd_132_14 : deadOf 132 14 = [45, 46, 47, 48] := rfl
@[simp] theorem dd_132_15 : deadOf 132 15 = [49, 50] := rfl
@[simp] theorem dd_132_16 : deadOf 132 16 = [7, 49, 51, 52, 53, 54] := rfl
@[simp] theorem dd_132_17 : deadOf 132 17 = [55] := rfl
@[simp] theorem dd_132_18 : deadOf 132 18 = [39, 40, 41, 42] := rfl
@[simp] theorem dd_132_19 : deadOf 132 19 = [5, 56, 57] := rfl
@[simp] theorem dd_132_20 : deadOf 132 20 = [58, 59, 60, 61] := rfl
@[simp] theorem dd_132_21 : deadOf 132 21 = [0, 62] := rfl
@[simp] theorem dd_132_22 : deadOf 132 22 = [] := rfl
@[simp] theorem dd_132_23 : deadOf 132 23 = [66, 67, 68] := rfl
@[simp] theorem dd_132_24 : deadOf 132 24 = [69, 70] := rfl
@[simp] theorem dd_132_25 : deadOf 132 25 = [10, 71, 72] := rfl
@[simp] theorem dd_132_26 : deadOf 132 26 = [73] := rfl
@[simp] theorem dd_132_27 : deadOf 132 27 = [1, 8, 63, 64, 65, 66, 74] := rfl
@[simp] theorem dd_133_0 : deadOf 133 0 = [8, 9] := rfl
@[simp] theorem dd_133_1 : deadOf 133 1 = [10, 11] := rfl
@[simp] theorem dd_133_2 : deadOf 133 2 = [7, 13, 14, 30] := rfl
@[simp] theorem dd_133_3 : deadOf 133 3 = [12, 15] := rfl
@[simp] theorem dd_133_4 : deadOf 133 4 = [16, 17, 18, 19, 20, 21, 22, 23, 24, 25, 26, 27, 28, 29] := rfl
@[simp] theorem dd_133_5 : deadOf 133 5 = [31, 32] := rfl
@[simp] theorem dd_133_6 : deadOf 133 6 = [30, 33, 34, 35, 36, 37, 38, 39, 40, 41, 42, 43, 44, 45, 46, 47, 48] := rfl
@[simp] theorem dd_134_0 : deadOf 134 0 = [11] := rfl
@[simp] theorem dd_134_1 : deadOf 134 1 = [] := rfl
@[simp] theorem dd_134_2 : deadOf 134 2 = [1, 2, 12, 13, 14] := rfl
@[simp] theorem dd_134_3 : deadOf 134 3 = [15, 16, 17] := rfl
@[simp] theorem dd_134_4 : deadOf 134 4 = [18] := rfl
@[simp] theorem dd_134_5 : deadOf 134 5 = [20, 21] := rfl
@[simp] theorem dd_134_6 : deadOf 134 6 = [19, 22, 23, 24, 25, 26] := rfl
@[simp] theorem dd_134_7 : deadOf 134 7 = [8, 9, 19, 27, 28] := rfl
@[simp] theorem dd_134_8 : deadOf 134 8 = [29] := rfl
@[simp] theorem dd_134_9 : deadOf 134 9 = [31, 32] := rfl
@[simp] theorem dd_134_10 : deadOf 134 10 = [30, 33, 34, 35, 36, 37, 38, 39, 40, 41, 42, 43, 44, 45, 46, 47, 48, 49, 50] := rfl
@[simp] theorem dd_134_11 : deadOf 134 11 = [51, 52, 53, 54, 55] := rfl
@[simp] theorem dd_135_0 : deadOf 135 0 = [2, 11, 12, 13] := rfl
@[simp] theorem dd_135_1 : deadOf 135 1 = [14] := rfl
@[simp] theorem dd_135_2 : deadOf 135 2 = [15, 16, 17] := rfl
@[simp] theorem dd_135_3 : deadOf 135 3 = [18, 19] := rfl
@[simp] theorem dd_135_4 : deadOf 135 4 = [20, 21, 22, 23, 24, 25] := rfl
@[simp] theorem dd_135_5 : deadOf 135 5 = [26, 27, 28, 29, 30, 31, 32] := rfl
@[simp] theorem dd_135_6 : deadOf 135 6 = [34, 35] := rfl
@[simp] theorem dd_135_7 : deadOf 135 7 = [33, 36, 37, 38, 39, 40] := rfl
@[simp] theorem dd_135_8 : deadOf 135 8 = [41, 42] := rfl
@[simp] theorem dd_135_9 : deadOf 135 9 = [43, 44, 45, 46] := rfl
@[simp] theorem dd_135_10 : deadOf 135 10 = [10, 43, 47, 48, 49, 50, 51, 52, 53, 54, 55, 56, 57, 58, 59, 60, 61, 62, 63, 64] := rfl
@[simp] theorem dd_136_0 : deadOf 136 0 = [6, 7] := rfl
@[simp] theorem dd_136_1 : deadOf 136 1 = [2, 13, 14, 15] := rfl
@[simp] theorem dd_136_2 : deadOf 136 2 = [] := rfl
@[simp] theorem dd_136_3 : deadOf 136 3 = [16, 17, 18, 19, 20] := rfl
@[simp] theorem dd_136_4 : deadOf 136 4 = [21, 22, 23, 24, 25] := rfl
@[simp] theorem dd_136_5 : deadOf 136 5 = [1, 26, 27, 28, 29, 30] := rfl
@[simp] theorem dd_136_6 : deadOf 136 6 = [31] := rfl
@[simp] theorem dd_136_7 : deadOf 136 7 = [8, 32, 33] := rfl
@[simp] theorem dd_136_8 : deadOf 136 8 = [34, 35, 36, 37] := rfl
@[simp] theorem dd_136_9 : deadOf 136 9 = [38, 39, 40] := rfl
@[simp] theorem dd_136_10 : deadOf 136 10 = [41, 42, 43] := rfl
@[simp] theorem dd_136_11 : deadOf 136 11 = [0, 10, 12, 34, 44, 45, 46, 47, 48] := rfl
@[simp] theorem dd_136_12 : deadOf 136 12 = [0, 8, 9, 10, 12, 32] := rfl
@[simp] theorem dd_136_13 : deadOf 136 13 = [11, 50, 54] := rfl
@[simp] theorem dd_136_14 : deadOf 136 14 = [52] := rfl
@[simp] theorem dd_136_15 : deadOf 136 15 = [11, 49, 51, 53] := rfl
@[simp] theorem dd_136_16 : deadOf 136 16 = [49, 51, 55] := rfl
@[simp] theorem dd_136_17 : deadOf 136 17 = [11, 54, 56] := rfl
@[simp] theorem dd_137_0 : deadOf 137 0 = [1, 8] := rfl
@[simp] theorem dd_137_1 : deadOf 137 1 = [2, 9, 10] := rfl
@[simp] theorem dd_137_2 : deadOf 137 2 = [11, 12] := rfl
@[simp] theorem dd_137_3 : deadOf 137 3 = [13, 14, 15, 16, 17, 18, 19, 20, 21, 22, 23, 24, 25, 26, 27] := rfl
@[simp] theorem dd_137_4 : deadOf 137 4 = [28, 29] := rfl
@[simp] theorem dd_137_5 : deadOf 137 5 = [30, 31] := rfl
@[simp] theorem dd_138_0 : deadOf 138 0 = [6] := rfl
@[simp] theorem dd_138_1 : deadOf 138 1 = [11, 12] := rfl
@[simp] theorem dd_138_2 : deadOf 138 2 = [] := rfl
@[simp] theorem dd_138_3 : deadOf 138 3 = [13] := rfl
@[simp] theorem dd_138_4 : deadOf 138 4 = [10, 15, 16, 98, 103, 116] := rfl
@[simp] theorem dd_138_5 : deadOf 138 5 = [17, 18, 19, 20, 21, 22, 23, 24, 25, 26, 27, 28, 29, 30, 31] := rfl
@[simp] theorem dd_138_6 : deadOf 138 6 = [32, 33, 34] := rfl
@[simp] theorem dd_138_7 : deadOf 138 7 = [32, 35, 36] := rfl
@[simp] theorem dd_138_8 : deadOf 138 8 = [0, 1, 2, 7, 8, 37] := rfl
@[simp] theorem dd_138_9 : deadOf 138 9 = [37, 38, 39, 40] := rfl
@[simp] theorem dd_138_10 : deadOf 138 10 = [0, 1, 2, 7, 8, 41] := rfl
@[simp] theorem dd_138_11 : deadOf 138 11 = [41, 42, 43, 44, 45, 46, 47, 48, 49, 50, 51, 52, 53, 54, 55, 56, 57] := rfl
@[simp] theorem dd_138_12 : deadOf 138 12 = [58, 59, 60] := rfl
@[simp] theorem dd_138_13 : deadOf 138 13 = [61, 62, 63] := rfl
@[simp] theorem dd_138_14 : deadOf 138 14 = [64] := rfl
@[simp] theorem dd_138_15 : deadOf 138 15 = [66, 67] := rfl
@[simp] theorem dd_138_16 : deadOf 138 16 = [65, 68, 69, 70, 71, 72, 73, 74, 75, 76, 77] := rfl
@[simp] theorem dd_138_17 : deadOf 138 17 = [78, 79, 80, 81, 82, 83, 84, 85, 86, 87, 88, 89, 90, 91, 92, 93, 94] := rfl
@[simp] theorem dd_138_18 : deadOf 138 18 = [9, 61, 65, 78, 95, 96, 97] := rfl
@[simp] theorem dd_138_19 : deadOf 138 19 = [98, 99, 100] := rfl
@[simp] theorem dd_138_20 : deadOf 138 20 = [101, 102] := rfl
@[simp] theorem dd_138_21 : deadOf 138 21 = [104, 105] := rfl
@[simp] theorem dd_138_22 : deadOf 138 22 = [103, 106, 107, 108, 109, 110, 111, 112, 113, 114, 115] := rfl
@[simp] theorem dd_138_23 : deadOf 138 23 = [116, 117, 118, 119, 120, 121, 122, 123, 124, 125, 126, 127, 128, 129, 130, 131, 132] := rfl
@[simp] theorem dd_138_24 : deadOf 138 24 = [0, 1, 2, 7, 8, 14] := rfl
@[simp] theorem dd_139_0 : deadOf 139 0 = [4] := rfl
@[simp] theorem dd_139_1 : deadOf 139 1 = [0, 1, 5, 6, 7, 8, 9, 10, 11, 12, 13, 14, 15, 16] := rfl
@[simp] theorem dd_140_0 : deadOf 140 0 = [8] := rfl
@[simp] theorem dd_140_1 : deadOf 140 1 = [3, 11, 12, 13, 14, 15, 16, 17, 18, 19, 20, 21, 22, 23, 24] := rfl
@[simp] theorem dd_140_2 : deadOf 140 2 = [2, 25, 26, 27, 28] := rfl
@[simp] theorem dd_140_3 : deadOf 140 3 = [29, 30, 31, 32, 33, 34, 35, 36, 37, 38, 39, 40, 41, 42] := rfl
@[simp] theorem dd_140_4 : deadOf 140 4 = [43, 44, 45] := rfl
@[simp] theorem dd_140_5 : deadOf 140 5 = [46, 47, 48, 49, 50, 51, 52, 53, 54, 55, 56, 57, 58] := rfl
@[simp] theorem dd_140_6 : deadOf 140 6 = [59, 60, 61] := rfl
@[simp] theorem dd_140_7 : deadOf 140 7 = [59, 62, 63] := rfl
@[simp] theorem dd_140_8 : deadOf 140 8 = [64, 65, 66, 67, 68, 69, 70, 71, 72, 73, 74, 75, 76, 77, 78] := rfl
@[simp] theorem dd_140_9 : deadOf 140 9 = [79, 80] := rfl
@[simp] theorem dd_140_10 : deadOf 140 10 = [81, 82] := rfl
@[simp] theorem dd_140_11 : deadOf 140 11 = [0, 1, 9, 10, 64, 83] := rfl
@[simp] theorem dd_141_0 : deadOf 141 0 = [8, 9] := rfl
@[simp] theorem dd_141_1 : deadOf 141 1 = [3, 12, 13, 14, 15, 16, 17, 18, 19, 20, 21, 22, 23, 24, 25] := rfl
@[simp] theorem dd_141_2 : deadOf 141 2 = [2, 26, 27, 28, 29] := rfl
@[simp] theorem dd_141_3 : deadOf 141 3 = [30, 31, 32, 33, 34, 35, 36, 37, 38, 39, 40, 41, 42] := rfl
@[simp] theorem dd_141_4 : deadOf 141 4 = [43, 44, 45] := rfl
@[simp] theorem dd_141_5 : deadOf 141 5 = [46, 47, 48, 49, 50, 51, 52, 53, 54, 55, 56, 57, 58, 59] := rfl
@[simp] theorem dd_141_6 : deadOf 141 6 = [60, 61, 62] := rfl
@[simp] theorem dd_141_7 : deadOf 141 7 = [60, 63, 64] := rfl
@[simp] theorem dd_141_8 : deadOf 141 8 = [0, 1, 10, 65, 66, 67, 68, 69, 70, 71, 72, 73, 74, 75, 76, 77, 78, 79] := rfl
@[simp] theorem dd_141_9 : deadOf 141 9 = [11, 80] := rfl
@[simp] theorem dd_141_10 : deadOf 141 10 = [65, 81, 82, 83, 84, 85, 86, 87, 88, 89, 90, 91, 92, 93, 94] := rfl
@[simp] theorem dd_141_11 : deadOf 141 11 = [95, 96] := rfl
@[simp] theorem dd_141_12 : deadOf 141 12 = [97, 98] := rfl
@[simp] theorem dd_141_13 : deadOf 141 13 = [99, 100, 101, 102, 103, 104, 105, 106, 107, 108, 109, 110, 111] := rfl
@[simp] theorem dd_141_14 : deadOf 141 14 = [112, 113, 114] := rfl
@[simp] theorem dd_141_15 : deadOf 141 15 = [115, 116, 117, 118, 119, 120, 121, 122, 123, 124, 125, 126, 127, 128] := rfl
@[simp] theorem dd_141_16 : deadOf 141 16 = [129, 130, 131] := rfl
@[simp] theorem dd_141_17 : deadOf 141 17 = [129, 132, 133] := rfl
@[simp] theorem dd_141_18 : deadOf 141 18 = [134, 135, 136, 137, 138, 139, 140, 141, 142, 143, 144, 145, 146, 147, 148] := rfl
@[simp] theorem dd_141_19 : deadOf 141 19 = [149, 150] := rfl
@[simp] theorem dd_141_20 : deadOf 141 20 = [151, 152] := rfl
@[simp] theorem dd_141_21 : deadOf 141 21 = [0, 1, 10, 134, 153, 154, 155, 156, 157, 158, 159, 160, 161, 162, 163, 164, 165, 166] := rfl
@[simp] theorem dd_141_22 : deadOf 141 22 = [11, 167] := rfl
@[simp] theorem dd_142_0 : deadOf 142 0 = [] := rfl
@[simp] theorem dd_142_1 : deadOf 142 1 = [6, 7, 8] := rfl
@[simp] theorem dd_142_2 : deadOf 142 2 = [10, 11, 12, 30] := rfl
@[simp] theorem dd_142_3 : deadOf 142 3 = [9, 13, 14, 15, 16, 17, 18] := rfl
@[simp] theorem dd_142_4 : deadOf 142 4 = [5, 19, 20, 21, 22, 23, 24, 25, 26, 27, 28, 29] := rfl
@[simp] theorem dd_143_0 : deadOf 143 0 = [] := rfl
@[simp] theorem dd_143_1 : deadOf 143 1 = [] := rfl
@[simp] theorem dd_143_2 : deadOf 143 2 = [] := rfl
@[simp] theorem dd_143_3 : deadOf 143 3 = [8, 9] := rfl
@[simp] theorem dd_143_4 : deadOf 143 4 = [3, 10, 11, 12, 13, 14, 15, 16, 17, 18, 19, 20, 21, 22, 23, 24, 25, 26, 27, 28, 29, 30, 31, 32, 33, 34, 35, 36, 37, 38, 39, 40, 41, 42, 43, 44] := rfl
@[simp] theorem dd_143_5 : deadOf 143 5 = [45] := rfl
@[simp] theorem dd_143_6 : deadOf 143 6 = [0, 7, 8] := rfl
@[simp] theorem dd_143_7 : deadOf 143 7 = [46] := rfl
@[simp] theorem dd_143_8 : deadOf 143 8 = [48, 49] := rfl
@[simp] theorem dd_143_9 : deadOf 143 9 = [47, 50, 51, 52, 53, 54, 55, 56, 57] := rfl
@[simp] theorem dd_143_10 : deadOf 143 10 = [5, 6, 58, 59, 60, 61, 62, 63, 64, 65, 66, 67, 68, 69, 70, 71, 72, 73, 74, 75, 76, 77, 78, 79, 80, 81, 82] := rfl
@[simp] theorem dd_143_11 : deadOf 143 11 = [4, 47, 83] := rfl
@[simp] theorem dd_144_0 : deadOf 144 0 = [4] := rfl
@[simp] theorem dd_144_1 : deadOf 144 1 = [] := rfl
@[simp] theorem dd_144_2 : deadOf 144 2 = [1] := rfl
@[simp] theorem dd_144_3 : deadOf 144 3 = [] := rfl
@[simp] theorem dd_144_4 : deadOf 144 4 = [11, 12, 13] := rfl
@[simp] theorem dd_144_5 : deadOf 144 5 = [7, 14, 15, 16, 17, 18, 19] := rfl
@[simp] theorem dd_144_6 : deadOf 144 6 = [20] := rfl
@[simp] theorem dd_144_7 : deadOf 144 7 = [0, 5, 8, 9, 10, 11, 21] := rfl
@[simp] theorem dd_145_0 : deadOf 145 0 = [0, 2] := rfl
@[simp] theorem dd_145_1 : deadOf 145 1 = [1, 3] := rfl
@[simp] theorem dd_147_0 : deadOf 147 0 = [4, 5] := rfl
@[simp] theorem dd_147_1 : deadOf 147 1 = [6] := rfl
@[simp] theorem dd_147_2 : deadOf 147 2 = [7, 8] := rfl
@[simp] theorem dd_147_3 : deadOf 147 3 = [7, 9, 10, 11, 12, 13, 14, 15, 16, 17, 18, 19, 20] := rfl
@[simp] theorem dd_147_4 : deadOf 147 4 = [0, 1, 21, 22, 23, 24] := rfl
@[simp] theorem dd_148_0 : deadOf 148 0 = [1, 10] := rfl
@[simp] theorem dd_148_1 : deadOf 148 1 = [11, 12, 13] := rfl
@[simp] theorem dd_148_2 : deadOf 148 2 = [14, 15] := rfl
@[simp] theorem dd_148_3 : deadOf 148 3 = [16, 17, 18, 19, 20, 21, 22, 23, 24, 25, 26, 27, 28, 29, 30, 31, 32, 33, 34, 35] := rfl
@[simp] theorem dd_148_4 : deadOf 148 4 = [36, 37, 38] := rfl
@[simp] theorem dd_148_5 : deadOf 148 5 = [36, 39, 40, 41, 42, 43, 44, 45, 46, 47, 48, 49, 50, 51] := rfl
@[simp] theorem dd_148_6 : deadOf 148 6 = [8, 52, 53, 54, 55, 56, 57, 58, 59, 60, 61, 62, 63, 64, 65, 66, 67, 68, 69, 70, 71, 72, 73, 74] := rfl
@[simp] theorem dd_148_7 : deadOf 148 7 = [9, 75] := rfl
@[simp] theorem dd_149_0 : deadOf 149 0 = [2] := rfl
@[simp] theorem dd_149_1 : deadOf 149 1 = [0, 3, 4, 5, 6] := rfl
@[simp] theorem dd_150_0 : deadOf 150 0 = [2] := rfl
@[simp] theorem dd_150_1 : deadOf 150 1 = [3, 4, 5, 6, 7, 8, 9, 10, 11] := rfl
@[simp] theorem dd_150_2 : deadOf 150 2 = [12, 13, 14, 15, 16, 17, 18, 19, 20] := rfl
@[simp] theorem dd_150_3 : deadOf 150 3 = [21, 22, 23, 24, 25, 26, 27, 28, 29] := rfl
@[simp] theorem dd_150_4 : deadOf 150 4 = [0, 30, 31, 32] := rfl
@[simp] theorem dd_151_0 : deadOf 151 0 = [6] := rfl
@[simp] theorem dd_151_1 : deadOf 151 1 = [0, 1, 2, 7, 8, 9, 10, 11, 12, 13, 14] := rfl
@[simp] theorem dd_152_0 : deadOf 152 0 = [10] := rfl
@[simp] theorem dd_152_1 : deadOf 152 1 = [11, 12, 13, 14, 15, 16, 17, 18] := rfl
@[simp] theorem dd_152_2 : deadOf 152 2 = [3, 19, 20, 21, 22, 23, 24, 25, 26] := rfl
@[simp] theorem dd_152_3 : deadOf 152 3 = [0, 1, 4, 27, 28, 29, 30, 31, 32, 33, 34] := rfl
@[simp] theorem dd_152_4 : deadOf 152 4 = [2, 35] := rfl
@[simp] theorem dd_153_0 : deadOf 153 0 = [2] := rfl
@[simp] theorem dd_153_1 : deadOf 153 1 = [0, 3, 4, 5] := rfl
@[simp] theorem dd_154_0 : deadOf 154 0 = [4] := rfl
@[simp] theorem dd_154_1 : deadOf 154 1 = [1, 6, 7, 8] := rfl
@[simp] theorem dd_154_2 : deadOf 154 2 = [0, 5, 9, 10, 11, 12, 13, 14, 15, 16] := rfl
@[simp] theorem dd_155_0 : deadOf 155 0 = [4, 5] := rfl
@[simp] theorem dd_155_1 : deadOf 155 1 = [3, 6, 7, 8, 9, 10, 11, 12, 13, 14] := rfl
@[simp] theorem dd_155_2 : deadOf 155 2 = [15, 16, 17] := rfl
@[simp] theorem dd_156_0 : deadOf 156 0 = [1, 5, 6, 7, 8, 9, 10, 11, 12, 13, 14, 15, 16, 17, 18, 19] := rfl
@[simp] theorem dd_156_1 : deadOf 156 1 = [20, 21, 22, 23, 24, 25] := rfl
@[simp] theorem dd_156_2 : deadOf 156 2 = [0, 4, 26, 27, 28, 29] := rfl
@[simp] theorem dd_157_0 : deadOf 157 0 = [8, 9] := rfl
@[simp] theorem dd_157_1 : deadOf 157 1 = [0, 10, 11, 12, 13, 14, 15, 16, 17] := rfl
@[simp] theorem dd_157_2 : deadOf 157 2 = [3, 18, 19, 20, 21, 22, 23] := rfl
@[simp] theorem dd_157_3 : deadOf 157 3 = [1, 2, 24, 25] := rfl
@[simp] theorem dd_157_4 : deadOf 157 4 = [1, 2, 3, 18, 26, 27] := rfl
@[simp] theorem dl_3_11 : deadLOf 3 11 = [] := rfl
@[simp] theorem dl_3_18 : deadLOf 3 18 = [] := rfl
@[simp] theorem dl_3_21 : deadLOf 3 21 = [] := rfl
@[simp] theorem dl_3_24 : deadLOf 3 24 = [] := rfl
@[simp] theorem dl_3_41 : deadLOf 3 41 = [] := rfl
@[simp] theorem dl_3_44 : deadLOf 3 44 = [] := rfl
@[simp] theorem dl_3_47 : deadLOf 3 47 = [] := rfl
@[simp] theorem dl_3_54 : deadLOf 3 54 = [] := rfl
@[simp] theorem dl_4_12 : deadLOf 4 12 = [] := rfl
@[simp] theorem dl_4_24 : deadLOf 4 24 = [] := rfl
@[simp] theorem dl_4_29 : deadLOf 4 29 = [] := rfl
@[simp] theorem dl_4_33 : deadLOf 4 33 = [] := rfl
@[simp] theorem dl_5_19 : deadLOf 5 19 = [] := rfl
@[simp] theorem dl_5_25 : deadLOf 5 25 = [] := rfl
@[simp] theorem dl_6_18 : deadLOf 6 18 = [] := rfl
@[simp] theorem dl_7_17 : deadLOf 7 17 = [] := rfl
@[simp] theorem dl_7_20 : deadLOf 7 20 = [] := rfl
@[simp] theorem dl_9_10 : deadLOf 9 10 = [] := rfl
@[simp] theorem dl_9_22 : deadLOf 9 22 = [] := rfl
@[simp] theorem dl_9_30 : deadLOf 9 30 = [] := rfl
@[simp] theorem dl_9_40 : deadLOf 9 40 = [] := rfl
@[simp] theorem dl_10_12 : deadLOf 10 12 = [] := rfl
@[simp] theorem dl_10_19 : deadLOf 10 19 = [] := rfl
@[simp] theorem dl_10_22 : deadLOf 10 22 = [] := rfl
@[simp] theorem dl_10_40 : deadLOf 10 40 = [] := rfl
@[simp] theorem dl_10_44 : deadLOf 10 44 = [] := rfl
@[simp] theorem dl_10_47 : deadLOf 10 47 = [] := rfl
@[simp] theorem dl_10_54 : deadLOf 10 54 = [] := rfl
@[simp] theorem dl_10_58 : deadLOf 10 58 = [] := rfl
@[simp] theorem dl_11_10 : deadLOf 11 10 = [] := rfl
@[simp] theorem dl_13_3 : deadLOf 13 3 = [] := rfl
@[simp] theorem dl_14_3 : deadLOf 14 3 = [] := rfl
@[simp] theorem dl_15_3 : deadLOf 15 3 = [] := rfl
@[simp] theorem dl_17_3 : deadLOf 17 3 = [] := rfl
@[simp] theorem dl_18_6 : deadLOf 18 6 = [] := rfl
@[simp] theorem dl_19_6 : deadLOf 19 6 = [] := rfl
@[simp] theorem dl_24_4 : deadLOf 24 4 = [] := rfl
@[simp] theorem dl_25_4 : deadLOf 25 4 = [] := rfl
@[simp] theorem dl_26_11 : deadLOf 26 11 = [] := rfl
@[simp] theorem dl_26_17 : deadLOf 26 17 = [] := rfl
@[simp] theorem dl_27_4 : deadLOf 27 4 = [] := rfl
@[simp] theorem dl_27_9 : deadLOf 27 9 = [] := rfl
@[simp] theorem dl_27_12 : deadLOf 27 12 = [] := rfl
@[simp] theorem dl_27_18 : deadLOf 27 18 = [] := rfl
@[simp] theorem dl_27_22 : deadLOf 27 22 = [] := rfl
@[simp] theorem dl_27_25 : deadLOf 27 25 = [] := rfl
@[simp] theorem dl_28_4 : deadLOf 28 4 = [] := rfl
@[simp] theorem dl_31_3 : deadLOf 31 3 = [] := rfl
@[simp] theorem dl_31_7 : deadLOf 31 7 = [] := rfl
@[simp] theorem dl_31_11 : deadLOf 31 11 = [] := rfl
@[simp] theorem dl_39_4 : deadLOf 39 4 = [] := rfl
@[simp] theorem dl_41_3 : deadLOf 41 3 = [] := rfl
@[simp] theorem dl_45_4 : deadLOf 45 4 = [] := rfl
@[simp] theorem dl_54_4 : deadLOf 54 4 = [] := rfl
@[simp] theorem dl_57_4 : deadLOf 57 4 = [] := rfl
@[simp] theorem dl_57_9 : deadLOf 57 9 = [] := rfl
@[simp] theorem dl_59_6 : deadLOf 59 6 = [] := rfl
@[simp] theorem dl_59_9 : deadLOf 59 9 = [] := rfl
@[simp] theorem dl_60_4 : deadLOf 60 4 = [] := rfl
@[simp] theorem dl_66_1 : deadLOf 66 1 = [] := rfl
@[simp] theorem dl_67_3 : deadLOf 67 3 = [] := rfl
@[simp] theorem dl_70_2 : deadLOf 70 2 = [] := rfl
@[simp] theorem dl_74_4 : deadLOf 74 4 = [] := rfl
@[simp] theorem dl_74_8 : deadLOf 74 8 = [] := rfl
@[simp] theorem dl_76_7 : deadLOf 76 7 = [] := rfl
@[simp] theorem dl_77_9 : deadLOf 77 9 = [] := rfl
@[simp] theorem dl_78_5 : deadLOf 78 5 = [] := rfl
@[simp] theorem dl_86_1 : deadLOf 86 1 = [] := rfl
@[simp] theorem dl_87_3 : deadLOf 87 3 = [] := rfl
@[simp] theorem dl_87_7 : deadLOf 87 7 = [] := rfl
@[simp] theorem dl_87_10 : deadLOf 87 10 = [] := rfl
@[simp] theorem dl_88_3 : deadLOf 88 3 = [] := rfl
@[simp] theorem dl_88_7 : deadLOf 88 7 = [] := rfl
@[simp] theorem dl_88_16 : deadLOf 88 16 = [] := rfl
@[simp] theorem dl_88_25 : deadLOf 88 25 = [] := rfl
@[simp] theorem dl_96_2 : deadLOf 96 2 = [] := rfl
@[simp] theorem dl_98_2 : deadLOf 98 2 = [] := rfl
@[simp] theorem dl_99_1 : deadLOf 99 1 = [] := rfl
@[simp] theorem dl_99_4 : deadLOf 99 4 = [] := rfl
@[simp] theorem dl_102_1 : deadLOf 102 1 = [13] := rfl
@[simp] theorem dl_104_3 : deadLOf 104 3 = [] := rfl
@[simp] theorem dl_104_6 : deadLOf 104 6 = [] := rfl
@[simp] theorem dl_111_2 : deadLOf 111 2 = [] := rfl
@[simp] theorem dl_117_2 : deadLOf 117 2 = [] := rfl
@[simp] theorem dl_120_1 : deadLOf 120 1 = [] := rfl
@[simp] theorem dl_122_2 : deadLOf 122 2 = [] := rfl
@[simp] theorem dl_124_3 : deadLOf 124 3 = [] := rfl
@[simp] theorem dl_124_12 : deadLOf 124 12 = [] := rfl
@[simp] theorem dl_125_3 : deadLOf 125 3 = [] := rfl
@[simp] theorem dl_125_6 : deadLOf 125 6 = [] := rfl
@[simp] theorem dl_126_1 : deadLOf 126 1 = [] := rfl
@[simp] theorem dl_132_12 : deadLOf 132 12 = [] := rfl
@[simp] theorem dl_132_22 : deadLOf 132 22 = [] := rfl
@[simp] theorem dl_133_1 : deadLOf 133 1 = [] := rfl
@[simp] theorem dl_133_4 : deadLOf 133 4 = [] := rfl
@[simp] theorem dl_134_4 : deadLOf 134 4 = [] := rfl
@[simp] theorem dl_134_8 : deadLOf 134 8 = [] := rfl
@[simp] theorem dl_135_5 : deadLOf 135 5 = [] := rfl
@[simp] theorem dl_137_2 : deadLOf 137 2 = [] := rfl
@[simp] theorem dl_138_3 : deadLOf 138 3 = [] := rfl
@[simp] theorem dl_138_5 : deadLOf 138 5 = [14] := rfl
@[simp] theorem dl_138_14 : deadLOf 138 14 = [] := rfl
@[simp] theorem dl_138_20 : deadLOf 138 20 = [] := rfl
@[simp] theorem dl_140_3 : deadLOf 140 3 = [] := rfl
@[simp] theorem dl_140_5 : deadLOf 140 5 = [43] := rfl
@[simp] theorem dl_141_3 : deadLOf 141 3 = [] := rfl
@[simp] theorem dl_141_5 : deadLOf 141 5 = [43] := rfl
@[simp] theorem dl_141_13 : deadLOf 141 13 = [] := rfl
@[simp] theorem dl_141_15 : deadLOf 141 15 = [112] := rfl
@[simp] theorem dl_142_1 : deadLOf 142 1 = [] := rfl
@[simp] theorem dl_143_2 : deadLOf 143 2 = [] := rfl
@[simp] theorem dl_143_7 : deadLOf 143 7 = [] := rfl
@[simp] theorem dl_144_3 : deadLOf 144 3 = [] := rfl
@[simp] theorem dl_148_1 : deadLOf 148 1 = [] := rfl
@[simp] theorem dl_155_0 : deadLOf 155 0 = [] := rfl
/-- Functions in which new slices may be written in place. -/
def ownOf (f : Nat) : Bool := [54, 74, 76, 29, 21, 4].contains f
def rawOf (f : Nat) : Bool := [86].contains f
/-- Functions whose results are appended to. -/
def keepOf (f : Nat) : Bool := [30, 36, 32, 56, 112].contains f
def glOf (g : Nat) : Option (List V) := match g with | 0 => some (Sha.wV Sha.kTab) | _ => none
def textsOf : List (List V) → Option (List ByteArray)
  | [] => some []
  | [.sc (.string s)] :: r => (textsOf r).map fun l => s :: l
  | _ :: _ => none
/-- slices.Clone. -/
def cloneP (args : List V) (h : H) : Option (V × H) :=
  match args with
  | [.list 1 xs _] =>
    match textsOf xs with
    | some l => if l.isEmpty then some (.list 1 [] .full, h) else if l.length < lim then some (.list 1 xs (.tail h.length), h ++ [.tail 9 xs.length]) else none
    | none => none
  | [.sc (.slice none 0 0)] => some (.list 1 [] .full, h)
  | _ => none
/-- digest.Sum. -/
def sumP (args : List V) (h : H) : Option (V × H) :=
  match args with
  | [.sc (.string s)] => if s.size < 1000000000 then some (.sc (.string (Sha.sumF s)), h) else none
  | _ => none
/-- The builder's first cell. -/
def checkP (args : List V) (h : H) : Option (V × H) :=
  match args with
  | [.ref id off] =>
    match h[id]? with
    | some (.cells bt [a, b]) =>
      if bt = 143 ∧ off = 0 then
        match a with
        | .sc (.pointer none) => some (.tup [], h.set id (.cells bt [.ref id 0, b]))
        | .ref id' 0 => if id' = id then some (.tup [], h) else none
        | _ => none
      else none
    | _ => none
  | _ => none
/-- The builder's text; its room is not used any more. -/
def stringP (args : List V) (h : H) : Option (V × H) :=
  match args with
  | [.ref id 0] =>
    match h[id]? with
    | some (.cells _ [_, .list 1 xs (.tail t)]) =>
      match h[t]? with
      | some (.tail bt n) =>
        match numsOf xs with
        | some l => if bt = 5 ∧ n = xs.length ∧ l ≠ [] ∧ n < 1000000000 ∧ (l.all fun x => decide (0 ≤ x) && decide (x < 256)) = true then some (.sc (.string (strOfNums l)), h.set t .dead) else none
        | none => none
      | _ => none
    | _ => none
  | _ => none
/-- strings.Join with nothing between. -/
def joinP (args : List V) (h : H) : Option (V × H) :=
  match args with
  | [.list 1 xs _, .sc (.string ⟨⟨[]⟩⟩)] =>
    match textsOf xs with
    | some l => if l.length < 4 ∧ (l.map (·.size)).sum < 1000000000 then some (.sc (.string (l.foldr (fun a b => a ++ b) .empty)), h) else none
    | none => none
  | _ => none
/-- Entries that are read as they are. -/
def mapOk (es : List (Value × V)) : Bool := es.all fun e => match e with
  | (.int .i64 n, .sc (.string s)) => decide (-9223372036854775808 ≤ n) && decide (n ≤ 9223372036854775807) && decide (s.size < 1000000000)
  | _ => false
/-- maps.Copy. -/
def copyP (args : List V) (h : H) : Option (V × H) :=
  match args with
  | [.mp a, .mp b] =>
    if a = b then none else
    match h[a]?, h[b]? with
    | some (.map es), some (.map fs) => if mapOk es = true ∧ mapOk fs = true ∧ es.length + fs.length < lim then some (.tup [], h.set a (.map (fs.foldl (fun es e => setE e.1 e.2 es) es))) else none
    | _, _ => none
  | _ => none
def keysOf : List (Value × V) → Option (List Int)
  | [] => some []
  | (.int .i64 n, _) :: r => (keysOf r).map fun l => n :: l
  | _ :: _ => none
def insI (n : Int) : List Int → List Int
  | [] => [n]
  | a :: r => if n ≤ a then n :: a :: r else a :: insI n r
def sortI : List Int → List Int
  | [] => []
  | a :: r => insI a (sortI r)
/-- slices.Sorted of a map's keys. -/
def sortedP (args : List V) (h : H) : Option (V × H) :=
  match args with
  | [.fn (.func 102) [] [.ref id 0]] =>
    match h[id]? with
    | some (.cells _ [.mp m]) =>
      match h[m]? with
      | some (.map es) => match keysOf es with
        | some l => if mapOk es = true ∧ l.length < lim then some (.list 1 ((sortI l).map fun n => [.sc (.int .i64 n)]) .no, h) else none
        | none => none
      | _ => none
    | _ => none
  | _ => none
def primOf (g : Nat) : Option (List V → H → Option (V × H)) :=
  match g with
  | 104 => some sumP
  | 66 => some copyP
  | 68 => some sortedP
  | 79 => some cloneP
  | 108 => some stringP
  | 128 => some checkP
  | 132 => some joinP
  | _ => none
/-- The evaluator with the bodies alone; and with some functions given. -/
noncomputable def C0 : Cx2 := { P := prog, gl := glOf, own := ownOf, befo := befoOf, prim := fun _ => none, dead := deadOf, deadL := deadLOf, keep := keepOf, raw := rawOf }
noncomputable def C18 : Cx2 := { C0 with prim := primOf }
@[simp] theorem C0_P : C0.toCx.P = prog := rfl
@[simp] theorem C0_own (f : FuncId) : C0.toCx.own f = ownOf f := rfl
@[simp] theorem C0_gl (f : Nat) : C0.toCx.gl f = glOf f := rfl
@[simp] theorem C0_befo (f : FuncId) (i : Nat) : C0.toCx.befo f i = befoOf f i := rfl
@[simp] theorem C0_dead (f : FuncId) (i : Nat) : C0.dead f i = deadOf f i := rfl
@[simp] theorem C0_deadL (f : FuncId) (i : Nat) : C0.deadL f i = deadLOf f i := rfl
@[simp] theorem C0_keep (f : FuncId) : C0.keep f = keepOf f := rfl
@[simp] theorem C0_args (g : FuncId) (ts : List TypeId) (args : List V) : argsHP C0 g ts args = if rawOf g then .ret args else normVs prog ts args := rfl
@[simp] theorem C18_P : C18.toCx.P = prog := rfl
@[simp] theorem C18_own (f : FuncId) : C18.toCx.own f = ownOf f := rfl
@[simp] theorem C18_gl (f : Nat) : C18.toCx.gl f = glOf f := rfl
@[simp] theorem C18_befo (f : FuncId) (i : Nat) : C18.toCx.befo f i = befoOf f i := rfl
@[simp] theorem C18_dead (f : FuncId) (i : Nat) : C18.dead f i = deadOf f i := rfl
@[simp] theorem C18_deadL (f : FuncId) (i : Nat) : C18.deadL f i = deadLOf f i := rfl
@[simp] theorem C18_keep (f : FuncId) : C18.keep f = keepOf f := rfl
@[simp] theorem keep_f (f : Nat) : keepOf f = [30, 36, 32, 56, 112].contains f := rfl
attribute [simp] kRetD_keep retD_mk selV tailOf isRes dropT
@[simp] theorem C18_args (g : FuncId) (ts : List TypeId) (args : List V) : argsHP C18 g ts args = if rawOf g then .ret args else normVs prog ts args := rfl
noncomputable abbrev T0 : Sm := top C0
noncomputable abbrev T : Sm := top C18
theorem mixed0 : C0.P.follows .mixedOrders = true := by kernel_rfl
theorem mixed : C18.P.follows .mixedOrders = true := mixed0
theorem rep2 {α : Type} (x : α) : List.replicate 2 x = [x, x] := rfl
theorem rep3 {α : Type} (x : α) : List.replicate 3 x = [x, x, x] := rfl
attribute [simp] sliceOp_ref sliceOp_list sliceOp_sl sliceOp_csl builtin_copy kWith_mk kWithT_mk takeIn_mk rdRef_mk read_ref read_refT read_pptr read_pptrT rdEref_mk read_eref read_erefT wrRef_mk kSet_mk kSetT_mk write_ref write_refT wrEref_mk write_eref
attribute [simp] Nat.testBit_eq_decide_div_mod_eq
attribute [simp] forget Pv.keyOf resHP glOf
attribute [simp] envOf_small
attribute [simp] envAt_def
@[simp] theorem own_f (f : Nat) : ownOf f = [54, 74, 76, 29, 21, 4].contains f := rfl
@[simp] theorem raw_f (f : Nat) : rawOf f = [86].contains f := rfl

@[simp] theorem one_int (k : IntKind) (i : Int) : (Value.int k i).oneCell' = true := rfl
@[simp] theorem one_bool (b : Bool) : (Value.bool b).oneCell' = true := rfl
@[simp] theorem one_string (s : ByteArray) : (Value.string s).oneCell' = true := rfl
@[simp] theorem one_slice (a : Option Addr) (l c : Nat) : (Value.slice a l c).oneCell' = true := rfl
@[simp] theorem one_pointer (a : Option Addr) : (Value.pointer a).oneCell' = true := rfl
@[simp] theorem one_func (f : Fn) (a b : Array Value) : (Value.func f a b).oneCell' = true := rfl
@[simp] theorem one_map (a : Option Nat) : (Value.map a).oneCell' = true := rfl
attribute [simp] slice3V fillV rowsBy storeV makeSliceV sizeOk toStringV rowsOf numsOf buildSliceV buildV sliceV boundOf fieldV nilCheckV isU8 lim HP.run HP.bind HP.run_bind HP.runT HP.runT_bind HP.ofOption ofVal ev putV guardV normVs normV normCell normCells isArg isD isCell tupOf resultsV Pv.stepT stepHP opHP csOf ptrAdd pack lenV indexAddrV Pv.intOf scal V.toVal clash
theorem takeAt_cons (a : V) (x : List V) (k n : Nat) : takeAt (a :: x) k n = if (((a :: x).drop k).take n).length = n then some (((a :: x).drop k).take n) else none := rfl
theorem putAt_cons (a : V) (x : List V) (k : Nat) (cs : List V) : putAt (a :: x) k cs = if k + cs.length ≤ (a :: x).length then some ((a :: x).take k ++ cs ++ (a :: x).drop (k + cs.length)) else none := rfl
attribute [simp] takeAt_cons putAt_cons
@[simp] theorem conv_3_5 (own : Bool) (k : IntKind) (a : Int) : convertV prog own 3 5 (.sc (.int k a)) = .ret (.sc (.int .u8 (IntKind.u8.wrap a))) := conv_int (P := prog) un3 un5 a
@[simp] theorem conv_3_118 (own : Bool) (k : IntKind) (a : Int) : convertV prog own 3 118 (.sc (.int k a)) = .ret (.sc (.int .u64 (IntKind.u64.wrap a))) := conv_int (P := prog) un3 un118 a
@[simp] theorem conv_3_150 (own : Bool) (k : IntKind) (a : Int) : convertV prog own 3 150 (.sc (.int k a)) = .ret (.sc (.int .u64 (IntKind.u64.wrap a))) := conv_int (P := prog) un3 un150 a
@[simp] theorem conv_3_196 (own : Bool) (k : IntKind) (a : Int) : convertV prog own 3 196 (.sc (.int k a)) = .ret (.sc (.int .u64 (IntKind.u64.wrap a))) := conv_int (P := prog) un3 un196 a
@[simp] theorem conv_5_3 (own : Bool) (k : IntKind) (a : Int) : convertV prog own 5 3 (.sc (.int k a)) = .ret (.sc (.int .i64 (IntKind.i64.wrap a))) := conv_int (P := prog) un5 un3 a
@[simp] theorem conv_5_114 (own : Bool) (k : IntKind) (a : Int) : convertV prog own 5 114 (.sc (.int k a)) = .ret (.sc (.int .u32 (IntKind.u32.wrap a))) := conv_int (P := prog) un5 un114 a
@[simp] theorem conv_114_5 (own : Bool) (k : IntKind) (a : Int) : convertV prog own 114 5 (.sc (.int k a)) = .ret (.sc (.int .u8 (IntKind.u8.wrap a))) := conv_int (P := prog) un114 un5 a
@[simp] theorem conv_118_3 (own : Bool) (k : IntKind) (a : Int) : convertV prog own 118 3 (.sc (.int k a)) = .ret (.sc (.int .i64 (IntKind.i64.wrap a))) := conv_int (P := prog) un118 un3 a
@[simp] theorem conv_118_114 (own : Bool) (k : IntKind) (a : Int) : convertV prog own 118 114 (.sc (.int k a)) = .ret (.sc (.int .u32 (IntKind.u32.wrap a))) := conv_int (P := prog) un118 un114 a
@[simp] theorem conv_150_5 (own : Bool) (k : IntKind) (a : Int) : convertV prog own 150 5 (.sc (.int k a)) = .ret (.sc (.int .u8 (IntKind.u8.wrap a))) := conv_int (P := prog) un150 un5 a
attribute [simp] len_str len_list len_sl len_csl len_nil isSlT binOpV_seq binOpV_sne min_int
@[simp] theorem conv_88_9 (own : Bool) (v : V) : convertV prog own 88 9 v = toStringV prog 5 v := by simp [convertV, un88, un9]
@[simp] theorem conv_9_88 (own : Bool) (s : ByteArray) : convertV prog own 9 88 (.sc (.string s)) = toBytesV prog own 5 s := by simp [convertV, un88, un9]
attribute [simp] code_skip code_label code_exit code_ret code_range k_scope k_seq k_region k_draw k_cond k_block kSeq_normal kSeq_exit kSeq_ret kReg_mk kDraw_mk kBlock_normal kBlock_ret kBlock_exit kLoop_normal kLoop_exit kLoop_ret kPut_mk runL_nil runL_cons stepO_mk kCons_mk kD_mk runD_nil runD_cons kBody_normal kBody_ret k_body kRetD_mk kRetR_mk
attribute [simp] binOpV_add binOpV_sub binOpV_mul binOpV_lss binOpV_leq binOpV_gtr binOpV_geq binOpV_eql binOpV_neq unOpV_neg unOpV_not
attribute [simp] un2 co2 ia2 ct2 fp2 eo2 zv2 un3 co3 ia3 ct3 fp3 eo3 zv3 un4 co4 ia4 ct4 fp4 eo4 zv4 un5 co5 ia5 ct5 fp5 eo5 zv5 un6 co6 ia6 ct6 fp6 eo6 zv6 co7 ia7 ct7 fp7 eo7 zv7 co8 ia8 ct8 fp8 eo8 zv8 un9 co9 ia9 ct9 fp9 eo9 zv9 un10 co10 ia10 ct10 fp10 eo10 zv10 un11 co11 ia11 ct11 fp11 eo11 zv11 un12 co12 ia12 ct12 fp12 eo12 zv12 co13 ia13 ct13 fp13 eo13 zv13 co14 ia14 ct14 fp14 eo14 zv14 un15 co15 ia15 ct15 fp15 eo15 zv15 un16 co16 ia16 ct16 fp16 eo16 zv16 un17 co17 ia17 ct17 fp17 eo17 zv17 co18 ia18 ct18 fp18 eo18 zv18 co19 ia19 ct19 fp19 eo19 zv19 un21 co21 ia21 ct21 fp21 eo21 zv21 un22 co22 ia22 ct22 fp22 eo22 zv22 un24 co24 ia24 ct24 fp24 eo24 zv24 co25 ia25 ct25 fp25 eo25 zv25 co26 ia26 ct26 fp26 eo26 zv26 un30 co30 ia30 ct30 fp30 eo30 zv30 un33 co33 ia33 ct33 fp33 eo33 zv33 co34 ia34 ct34 fp34 eo34 zv34 co35 ia35 ct35 fp35 eo35 zv35 un36 co36 ia36 ct36 fp36 eo36 zv36 co37 ia37 ct37 fp37 eo37 zv37 co38 ia38 ct38 fp38 eo38 zv38 un39 co39 ia39 ct39 fp39 eo39 zv39 un43 co43 ia43 ct43 fp43 eo43 zv43 co52 ia52 ct52 fp52 eo52 zv52 co53 ia53 ct53 fp53 eo53 zv53 un65 co65 ia65 ct65 fp65 eo65 zv65 un68 co68 ia68 ct68 fp68 eo68 zv68 un75 co75 ia75 ct75 fp75 eo75 zv75 un78 co78 ia78 ct78 fp78 eo78 zv78 un79 co79 ia79 ct79 fp79 eo79 zv79 un84 co84 ia84 ct84 fp84 eo84 zv84 un88 co88 ia88 ct88 fp88 eo88 zv88 un98 co98 ia98 ct98 fp98 eo98 zv98 un114 co114 ia114 ct114 fp114 eo114 zv114 un115 co115 ia115 ct115 fp115 eo115 zv115 un118 co118 ia118 ct118 fp118 eo118 zv118 un123 co123 ia123 ct123 fp123 eo123 zv123 co126 ia126 ct126 fp126 eo126 zv126 co127 ia127 ct127 fp127 eo127 zv127 un139 co139 ia139 ct139 fp139 eo139 zv139 co140 ia140 ct140 fp140 eo140 zv140 co141 ia141 ct141 fp141 eo141 zv141 co142 ia142 ct142 fp142 eo142 zv142 co143 ia143 ct143 fp143 eo143 zv143 un150 co150 ia150 ct150 fp150 eo150 zv150 un165 co165 ia165 ct165 fp165 eo165 zv165 un166 co166 ia166 ct166 fp166 eo166 zv166 un172 co172 ia172 ct172 fp172 eo172 zv172 un173 co173 ia173 ct173 fp173 eo173 zv173 un178 co178 ia178 
attribute [simp] ct178 fp178 eo178 zv178 un186 co186 ia186 ct186 fp186 eo186 zv186 un187 co187 ia187 fp187 eo187 un190 co190 ia190 ct190 fp190 eo190 un194 co194 ia194 ct194 fp194 eo194 zv194 un196 co196 ia196 ct196 fp196 eo196 zv196 un200 co200 ia200 ct200 fp200 eo200 zv200 un203 co203 ia203 ct203 fp203 eo203 zv203 un209 co209 ia209 ct209 fp209 eo209 zv209 co210 ia210 ct210 fp210 eo210 zv210 co211 ia211 ct211 fp211 eo211 zv211 un213 co213 ia213 ct213 fp213 eo213 zv213 un214 co214 ia214 ct214 fp214 eo214 zv214 un216 co216 ia216 ct216 fp216 eo216 zv216 un217 co217 ia217 ct217 fp217 eo217 zv217 co218 ia218 ct218 fp218 eo218 zv218 co219 ia219 ct219 fp219 eo219 zv219 
/-- The loops of a body, from the first on. -/
def loopsOf : Code → List Code
  | .seq a b => loopsOf a ++ loopsOf b
  | .cond _ a b => loopsOf a ++ loopsOf b
  | .block _ a => loopsOf a
  | .loop a => a :: loopsOf a
  | .scope a => loopsOf a
  | .rangeFunc _ _ a b => loopsOf a ++ loopsOf b
  | _ => []
def lp (f : Func) (k : Nat) : Code := match f.body with | some b => (loopsOf b).getD k .skip | none => .skip
theorem wrapN (i : Nat) (h : i < 9223372036854775807) : IntKind.i64.wrap ((i : Int) + 1) = ((i + 1 : Nat) : Int) := by
  rw [wrap64_of] <;> omega
end Go.Rg
