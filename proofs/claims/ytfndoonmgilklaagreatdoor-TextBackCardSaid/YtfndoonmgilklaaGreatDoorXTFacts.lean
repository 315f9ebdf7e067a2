/- Facts of types, by the kernel. -/
import Derived.Test.YtfndoonmgilklaaGreatDoorXBundle
import Derived.Test.YtfndoonmgilklaaGreatDoorProg
set_option linter.defProp false
namespace Go.Proofs.TX
open Go
theorem res3 : Tryz.f3.results = #[.tmp 4] := by rfl
theorem fact1 : lenK Tryz.prog 22 = .slice := by kernel_rfl
theorem fact2 : lenK Tryz.prog 9 = .str := by kernel_rfl
theorem call5 (E : Env Tryz.prog) (first captured : Array Value) (args : List Value) (s : St) (K : Kp (Value → St → Prop)) : XCallV Tryz.prog E false (.func (.func 5) first captured) args s K = XCallOK Tryz.prog E 5 (first ++ args.toArray ++ captured) s K := XCallV_enter Tryz.func5 rfl (by kernel_rfl) first captured args
theorem call6 (E : Env Tryz.prog) (first captured : Array Value) (args : List Value) (s : St) (K : Kp (Value → St → Prop)) : XCallV Tryz.prog E false (.func (.func 6) first captured) args s K = XCallOK Tryz.prog E 6 (first ++ args.toArray ++ captured) s K := XCallV_enter Tryz.func6 rfl (by kernel_rfl) first captured args
theorem call7 (E : Env Tryz.prog) (first captured : Array Value) (args : List Value) (s : St) (K : Kp (Value → St → Prop)) : XCallV Tryz.prog E false (.func (.func 7) first captured) args s K = XCallOK Tryz.prog E 7 (first ++ args.toArray ++ captured) s K := XCallV_enter Tryz.func7 rfl (by kernel_rfl) first captured args
theorem call8 (E : Env Tryz.prog) (first captured : Array Value) (args : List Value) (s : St) (K : Kp (Value → St → Prop)) : XCallV Tryz.prog E false (.func (.func 8) first captured) args s K = XCallOK Tryz.prog E 8 (first ++ args.toArray ++ captured) s K := XCallV_enter Tryz.func8 rfl (by kernel_rfl) first captured args
theorem call9 (E : Env Tryz.prog) (first captured : Array Value) (args : List Value) (s : St) (K : Kp (Value → St → Prop)) : XCallV Tryz.prog E false (.func (.func 9) first captured) args s K = XCallOK Tryz.prog E 9 (first ++ args.toArray ++ captured) s K := XCallV_enter Tryz.func9 rfl (by kernel_rfl) first captured args
theorem call10 (E : Env Tryz.prog) (first captured : Array Value) (args : List Value) (s : St) (K : Kp (Value → St → Prop)) : XCallV Tryz.prog E false (.func (.func 10) first captured) args s K = XCallOK Tryz.prog E 10 (first ++ args.toArray ++ captured) s K := XCallV_enter Tryz.func10 rfl (by kernel_rfl) first captured args
theorem res4 : Tryz.f4.results = #[.tmp 6] := by rfl
theorem call11 (E : Env Tryz.prog) (first captured : Array Value) (args : List Value) (s : St) (K : Kp (Value → St → Prop)) : XCallV Tryz.prog E false (.func (.func 11) first captured) args s K = XCallOK Tryz.prog E 11 (first ++ args.toArray ++ captured) s K := XCallV_enter Tryz.func11 rfl (by kernel_rfl) first captured args
theorem fact3 : zeroOf Tryz.prog 35 = some (#[.int .i64 0, .int .i64 0, .int .i64 0, .int .i64 0, .int .i64 0, .int .i64 0, .int .u64 0, .int .i64 0, .int .i64 0, .int .i64 0, .int .u8 0]) := by kernel_rfl
theorem fact4 : cellsN Tryz.prog 35 = some 11 := by kernel_rfl
theorem fact5 : aggSize Tryz.prog 35 = some (some 11) := by kernel_rfl
theorem call12 (E : Env Tryz.prog) (first captured : Array Value) (args : List Value) (s : St) (K : Kp (Value → St → Prop)) : XCallV Tryz.prog E false (.func (.func 12) first captured) args s K = XCallOK Tryz.prog E 12 (first ++ args.toArray ++ captured) s K := XCallV_enter Tryz.func12 rfl (by kernel_rfl) first captured args
theorem fact6 : convK Tryz.prog 5 3 = .int .i64 := by kernel_rfl
theorem res5 : Tryz.f5.results = #[.tmp 0] := by rfl
theorem fact7 : fieldOff Tryz.prog 35 4 = some 4 := by kernel_rfl
theorem fact8 : aggSize Tryz.prog 32 = some (some 2) := by kernel_rfl
theorem fact9 : bspec Tryz.prog 32 = some (([.int .i64 0, .int .i64 0], [(0, 1), (1, 1)])) := by kernel_rfl
theorem fact10 : eqK Tryz.prog 32 = .flat [.int .i64, .int .i64] := by kernel_rfl
theorem fact11 : fieldOff Tryz.prog 35 1 = some 1 := by kernel_rfl
theorem fact12 : aggSize Tryz.prog 3 = some (none) := by kernel_rfl
theorem fact13 : fieldOff Tryz.prog 35 9 = some 10 := by kernel_rfl
theorem fact14 : aggSize Tryz.prog 5 = some (none) := by kernel_rfl
theorem fact15 : bspec Tryz.prog 35 = some (([.int .i64 0, .int .i64 0, .int .i64 0, .int .i64 0, .int .i64 0, .int .i64 0, .int .u64 0, .int .i64 0, .int .i64 0, .int .i64 0, .int .u8 0], [(0, 1), (1, 1), (2, 1), (3, 1), (4, 2), (6, 1), (7, 1), (8, 1), (9, 1), (10, 1)])) := by kernel_rfl
theorem fact16 : bspec Tryz.prog 42 = some (([.int .i64 0, .int .i64 0, .int .i64 0, .int .i64 0, .int .u64 0, .bool false, .int .i64 0, .int .i64 0, .int .i64 0], [(0, 1), (1, 1), (2, 2), (4, 1), (5, 1), (6, 1), (7, 1), (8, 1)])) := by kernel_rfl
theorem call13 (E : Env Tryz.prog) (first captured : Array Value) (args : List Value) (s : St) (K : Kp (Value → St → Prop)) : XCallV Tryz.prog E false (.func (.func 13) first captured) args s K = XCallOK Tryz.prog E 13 (first ++ args.toArray ++ captured) s K := XCallV_enter Tryz.func13 rfl (by kernel_rfl) first captured args
theorem res6 : Tryz.f6.results = #[.tmp 2, .tmp 3] := by rfl
theorem fact17 : zeroOf Tryz.prog 46 = some (#[.pointer none, .slice none 0 0]) := by kernel_rfl
theorem fact18 : ixKind Tryz.prog 22 = .slice 11 := by kernel_rfl
theorem call14 (E : Env Tryz.prog) (first captured : Array Value) (args : List Value) (s : St) (K : Kp (Value → St → Prop)) : XCallV Tryz.prog E false (.func (.func 14) first captured) args s K = XCallOK Tryz.prog E 14 (first ++ args.toArray ++ captured) s K := XCallV_enter Tryz.func14 rfl (by kernel_rfl) first captured args
theorem call15 (E : Env Tryz.prog) (first captured : Array Value) (args : List Value) (s : St) (K : Kp (Value → St → Prop)) : XCallV Tryz.prog E false (.func (.func 15) first captured) args s K = XCallOK Tryz.prog E 15 (first ++ args.toArray ++ captured) s K := XCallV_enter Tryz.func15 rfl (by kernel_rfl) first captured args
theorem res7 : Tryz.f7.results = #[.tmp 2, .tmp 3] := by rfl
theorem call16 (E : Env Tryz.prog) (first captured : Array Value) (args : List Value) (s : St) (K : Kp (Value → St → Prop)) : XCallV Tryz.prog E false (.func (.func 16) first captured) args s K = XCallOK Tryz.prog E 16 (first ++ args.toArray ++ captured) s K := XCallV_enter Tryz.func16 rfl (by kernel_rfl) first captured args
theorem res8 : Tryz.f8.results = #[.tmp 2, .tmp 3, .tmp 4] := by rfl
theorem call17 (E : Env Tryz.prog) (first captured : Array Value) (args : List Value) (s : St) (K : Kp (Value → St → Prop)) : XCallV Tryz.prog E false (.func (.func 17) first captured) args s K = XCallOK Tryz.prog E 17 (first ++ args.toArray ++ captured) s K := XCallV_enter Tryz.func17 rfl (by kernel_rfl) first captured args
theorem fact19 : lenK Tryz.prog 52 = .slice := by kernel_rfl
theorem fact20 : ixKind Tryz.prog 52 = .slice 1 := by kernel_rfl
theorem fact21 : aggSize Tryz.prog 9 = some (none) := by kernel_rfl
theorem fact22 : sspec Tryz.prog 22 = some ((35, [.int .i64 0, .int .i64 0, .int .i64 0, .int .i64 0, .int .i64 0, .int .i64 0, .int .u64 0, .int .i64 0, .int .i64 0, .int .i64 0, .int .u8 0], 11)) := by kernel_rfl
theorem fact23 : apSpec Tryz.prog 22 = some ((35, [.int .i64 0, .int .i64 0, .int .i64 0, .int .i64 0, .int .i64 0, .int .i64 0, .int .u64 0, .int .i64 0, .int .i64 0, .int .i64 0, .int .u8 0], 11, 88)) := by kernel_rfl
theorem fact24 : notInt Tryz.prog 22 = true := by kernel_rfl
theorem res9 : Tryz.f9.results = #[.tmp 2, .tmp 3, .tmp 4] := by rfl
theorem call18 (E : Env Tryz.prog) (first captured : Array Value) (args : List Value) (s : St) (K : Kp (Value → St → Prop)) : XCallV Tryz.prog E false (.func (.func 18) first captured) args s K = XCallOK Tryz.prog E 18 (first ++ args.toArray ++ captured) s K := XCallV_enter Tryz.func18 rfl (by kernel_rfl) first captured args
theorem call19 (E : Env Tryz.prog) (first captured : Array Value) (args : List Value) (s : St) (K : Kp (Value → St → Prop)) : XCallV Tryz.prog E false (.func (.func 19) first captured) args s K = XCallOK Tryz.prog E 19 (first ++ args.toArray ++ captured) s K := XCallV_enter Tryz.func19 rfl (by kernel_rfl) first captured args
theorem res10 : Tryz.f10.results = #[.tmp 4] := by rfl
theorem fact25 : eqK Tryz.prog 35 = .flat [.int .i64, .int .i64, .int .i64, .int .i64, .int .i64, .int .i64, .int .u64, .int .i64, .int .i64, .int .i64, .int .u8] := by kernel_rfl
theorem res11 : Tryz.f11.results = #[.cell 2 35, .tmp 3] := by rfl
theorem call20 (E : Env Tryz.prog) (first captured : Array Value) (args : List Value) (s : St) (K : Kp (Value → St → Prop)) : XCallV Tryz.prog E false (.func (.func 20) first captured) args s K = XCallOK Tryz.prog E 20 (first ++ args.toArray ++ captured) s K := XCallV_enter Tryz.func20 rfl (by kernel_rfl) first captured args
theorem fact26 : fieldOff Tryz.prog 35 0 = some 0 := by kernel_rfl
theorem call21 (E : Env Tryz.prog) (first captured : Array Value) (args : List Value) (s : St) (K : Kp (Value → St → Prop)) : XCallV Tryz.prog E false (.func (.func 21) first captured) args s K = XCallOK Tryz.prog E 21 (first ++ args.toArray ++ captured) s K := XCallV_enter Tryz.func21 rfl (by kernel_rfl) first captured args
theorem call22 (E : Env Tryz.prog) (first captured : Array Value) (args : List Value) (s : St) (K : Kp (Value → St → Prop)) : XCallV Tryz.prog E false (.func (.func 22) first captured) args s K = XCallOK Tryz.prog E 22 (first ++ args.toArray ++ captured) s K := XCallV_enter Tryz.func22 rfl (by kernel_rfl) first captured args
theorem res12 : Tryz.f12.results = #[.tmp 2, .tmp 3] := by rfl
theorem call23 (E : Env Tryz.prog) (first captured : Array Value) (args : List Value) (s : St) (K : Kp (Value → St → Prop)) : XCallV Tryz.prog E false (.func (.func 23) first captured) args s K = XCallOK Tryz.prog E 23 (first ++ args.toArray ++ captured) s K := XCallV_enter Tryz.func23 rfl (by kernel_rfl) first captured args
theorem call24 (E : Env Tryz.prog) (first captured : Array Value) (args : List Value) (s : St) (K : Kp (Value → St → Prop)) : XCallV Tryz.prog E false (.func (.func 24) first captured) args s K = XCallOK Tryz.prog E 24 (first ++ args.toArray ++ captured) s K := XCallV_enter Tryz.func24 rfl (by kernel_rfl) first captured args
theorem fact27 : sspec Tryz.prog 52 = some ((9, [.string ⟨#[]⟩], 1)) := by kernel_rfl
theorem call25 (E : Env Tryz.prog) (first captured : Array Value) (args : List Value) (s : St) (K : Kp (Value → St → Prop)) : XCallV Tryz.prog E false (.func (.func 25) first captured) args s K = XCallOK Tryz.prog E 25 (first ++ args.toArray ++ captured) s K := XCallV_enter Tryz.func25 rfl (by kernel_rfl) first captured args
theorem fact28 : apSpec Tryz.prog 52 = some ((9, [.string ⟨#[]⟩], 1, 16)) := by kernel_rfl
theorem fact29 : notInt Tryz.prog 52 = true := by kernel_rfl
theorem call26 (E : Env Tryz.prog) (first captured : Array Value) (args : List Value) (s : St) (K : Kp (Value → St → Prop)) : XCallV Tryz.prog E false (.func (.func 26) first captured) args s K = XCallOK Tryz.prog E 26 (first ++ args.toArray ++ captured) s K := XCallV_enter Tryz.func26 rfl (by kernel_rfl) first captured args
theorem res13 : Tryz.f13.results = #[.tmp 4] := by rfl
theorem fact30 : fieldOff Tryz.prog 42 0 = some 0 := by kernel_rfl
theorem fact31 : aggSize Tryz.prog 24 = some (none) := by kernel_rfl
theorem call27 (E : Env Tryz.prog) (first captured : Array Value) (args : List Value) (s : St) (K : Kp (Value → St → Prop)) : XCallV Tryz.prog E false (.func (.func 27) first captured) args s K = XCallOK Tryz.prog E 27 (first ++ args.toArray ++ captured) s K := XCallV_enter Tryz.func27 rfl (by kernel_rfl) first captured args
theorem fact32 : fieldOff Tryz.prog 42 1 = some 1 := by kernel_rfl
theorem fact33 : fieldOff Tryz.prog 42 2 = some 2 := by kernel_rfl
theorem call28 (E : Env Tryz.prog) (first captured : Array Value) (args : List Value) (s : St) (K : Kp (Value → St → Prop)) : XCallV Tryz.prog E false (.func (.func 28) first captured) args s K = XCallOK Tryz.prog E 28 (first ++ args.toArray ++ captured) s K := XCallV_enter Tryz.func28 rfl (by kernel_rfl) first captured args
theorem fact34 : fieldOff Tryz.prog 42 3 = some 4 := by kernel_rfl
theorem fact35 : aggSize Tryz.prog 33 = some (none) := by kernel_rfl
theorem call29 (E : Env Tryz.prog) (first captured : Array Value) (args : List Value) (s : St) (K : Kp (Value → St → Prop)) : XCallV Tryz.prog E false (.func (.func 29) first captured) args s K = XCallOK Tryz.prog E 29 (first ++ args.toArray ++ captured) s K := XCallV_enter Tryz.func29 rfl (by kernel_rfl) first captured args
theorem fact36 : fieldOff Tryz.prog 42 4 = some 5 := by kernel_rfl
theorem fact37 : aggSize Tryz.prog 4 = some (none) := by kernel_rfl
theorem fact38 : fieldOff Tryz.prog 42 5 = some 6 := by kernel_rfl
theorem fact39 : fieldOff Tryz.prog 42 6 = some 7 := by kernel_rfl
theorem fact40 : fieldOff Tryz.prog 42 7 = some 8 := by kernel_rfl
theorem res14 : Tryz.f14.results = #[.tmp 4, .tmp 5] := by rfl
theorem call30 (E : Env Tryz.prog) (first captured : Array Value) (args : List Value) (s : St) (K : Kp (Value → St → Prop)) : XCallV Tryz.prog E false (.func (.func 30) first captured) args s K = XCallOK Tryz.prog E 30 (first ++ args.toArray ++ captured) s K := XCallV_enter Tryz.func30 rfl (by kernel_rfl) first captured args
theorem fact41 : fieldOff Tryz.prog 46 1 = some 1 := by kernel_rfl
theorem fact42 : aggSize Tryz.prog 44 = some (none) := by kernel_rfl
theorem fact43 : apSpec Tryz.prog 44 = some ((5, [.int .u8 0], 1, 1)) := by kernel_rfl
theorem fact44 : notInt Tryz.prog 9 = true := by kernel_rfl
theorem fact45 : cellsN Tryz.prog 44 = some 1 := by kernel_rfl
theorem res15 : Tryz.f15.results = #[.tmp 2] := by rfl
theorem fact46 : lenK Tryz.prog 44 = .slice := by kernel_rfl
theorem res16 : Tryz.f16.results = #[.tmp 2, .tmp 3] := by rfl
theorem call31 (E : Env Tryz.prog) (first captured : Array Value) (args : List Value) (s : St) (K : Kp (Value → St → Prop)) : XCallV Tryz.prog E false (.func (.func 31) first captured) args s K = XCallOK Tryz.prog E 31 (first ++ args.toArray ++ captured) s K := XCallV_enter Tryz.func31 rfl (by kernel_rfl) first captured args
theorem call32 (E : Env Tryz.prog) (first captured : Array Value) (args : List Value) (s : St) (K : Kp (Value → St → Prop)) : XCallV Tryz.prog E false (.func (.func 32) first captured) args s K = XCallOK Tryz.prog E 32 (first ++ args.toArray ++ captured) s K := XCallV_enter Tryz.func32 rfl (by kernel_rfl) first captured args
theorem call33 (E : Env Tryz.prog) (first captured : Array Value) (args : List Value) (s : St) (K : Kp (Value → St → Prop)) : XCallV Tryz.prog E false (.func (.func 33) first captured) args s K = XCallOK Tryz.prog E 33 (first ++ args.toArray ++ captured) s K := XCallV_enter Tryz.func33 rfl (by kernel_rfl) first captured args
theorem call34 (E : Env Tryz.prog) (first captured : Array Value) (args : List Value) (s : St) (K : Kp (Value → St → Prop)) : XCallV Tryz.prog E false (.func (.func 34) first captured) args s K = XCallOK Tryz.prog E 34 (first ++ args.toArray ++ captured) s K := XCallV_enter Tryz.func34 rfl (by kernel_rfl) first captured args
theorem fact47 : convK Tryz.prog 5 2 = .int .i64 := by kernel_rfl
theorem call35 (E : Env Tryz.prog) (first captured : Array Value) (args : List Value) (s : St) (K : Kp (Value → St → Prop)) : XCallV Tryz.prog E false (.func (.func 35) first captured) args s K = XCallOK Tryz.prog E 35 (first ++ args.toArray ++ captured) s K := XCallV_enter Tryz.func35 rfl (by kernel_rfl) first captured args
theorem fact48 : fieldOff Tryz.prog 35 5 = some 6 := by kernel_rfl
theorem call36 (E : Env Tryz.prog) (first captured : Array Value) (args : List Value) (s : St) (K : Kp (Value → St → Prop)) : XCallV Tryz.prog E false (.func (.func 36) first captured) args s K = XCallOK Tryz.prog E 36 (first ++ args.toArray ++ captured) s K := XCallV_enter Tryz.func36 rfl (by kernel_rfl) first captured args
theorem call37 (E : Env Tryz.prog) (first captured : Array Value) (args : List Value) (s : St) (K : Kp (Value → St → Prop)) : XCallV Tryz.prog E false (.func (.func 37) first captured) args s K = XCallOK Tryz.prog E 37 (first ++ args.toArray ++ captured) s K := XCallV_enter Tryz.func37 rfl (by kernel_rfl) first captured args
theorem call38 (E : Env Tryz.prog) (first captured : Array Value) (args : List Value) (s : St) (K : Kp (Value → St → Prop)) : XCallV Tryz.prog E false (.func (.func 38) first captured) args s K = XCallOK Tryz.prog E 38 (first ++ args.toArray ++ captured) s K := XCallV_enter Tryz.func38 rfl (by kernel_rfl) first captured args
theorem res18 : Tryz.f18.results = #[.tmp 4] := by rfl
theorem fact49 : slK Tryz.prog 9 = .str := by kernel_rfl
theorem res19 : Tryz.f19.results = #[.cell 2 35, .tmp 3] := by rfl
theorem call40 (E : Env Tryz.prog) (first captured : Array Value) (args : List Value) (s : St) (K : Kp (Value → St → Prop)) : XCallV Tryz.prog E false (.func (.func 40) first captured) args s K = XCallOK Tryz.prog E 40 (first ++ args.toArray ++ captured) s K := XCallV_enter Tryz.func40 rfl (by kernel_rfl) first captured args
theorem call41 (E : Env Tryz.prog) (first captured : Array Value) (args : List Value) (s : St) (K : Kp (Value → St → Prop)) : XCallV Tryz.prog E false (.func (.func 41) first captured) args s K = XCallOK Tryz.prog E 41 (first ++ args.toArray ++ captured) s K := XCallV_enter Tryz.func41 rfl (by kernel_rfl) first captured args
theorem fact50 : convK Tryz.prog 3 5 = .int .u8 := by kernel_rfl
theorem fact51 : cellsN Tryz.prog 5 = some 1 := by kernel_rfl
theorem call42 (E : Env Tryz.prog) (first captured : Array Value) (args : List Value) (s : St) (K : Kp (Value → St → Prop)) : XCallV Tryz.prog E false (.func (.func 42) first captured) args s K = XCallOK Tryz.prog E 42 (first ++ args.toArray ++ captured) s K := XCallV_enter Tryz.func42 rfl (by kernel_rfl) first captured args
theorem fact52 : cellsN Tryz.prog 33 = some 1 := by kernel_rfl
theorem call43 (E : Env Tryz.prog) (first captured : Array Value) (args : List Value) (s : St) (K : Kp (Value → St → Prop)) : XCallV Tryz.prog E false (.func (.func 43) first captured) args s K = XCallOK Tryz.prog E 43 (first ++ args.toArray ++ captured) s K := XCallV_enter Tryz.func43 rfl (by kernel_rfl) first captured args
theorem fact53 : zeroOf Tryz.prog 32 = some (#[.int .i64 0, .int .i64 0]) := by kernel_rfl
theorem fact54 : cellsN Tryz.prog 32 = some 2 := by kernel_rfl
theorem call44 (E : Env Tryz.prog) (first captured : Array Value) (args : List Value) (s : St) (K : Kp (Value → St → Prop)) : XCallV Tryz.prog E false (.func (.func 44) first captured) args s K = XCallOK Tryz.prog E 44 (first ++ args.toArray ++ captured) s K := XCallV_enter Tryz.func44 rfl (by kernel_rfl) first captured args
theorem res20 : Tryz.f20.results = #[.tmp 2] := by rfl
theorem call45 (E : Env Tryz.prog) (first captured : Array Value) (args : List Value) (s : St) (K : Kp (Value → St → Prop)) : XCallV Tryz.prog E false (.func (.func 45) first captured) args s K = XCallOK Tryz.prog E 45 (first ++ args.toArray ++ captured) s K := XCallV_enter Tryz.func45 rfl (by kernel_rfl) first captured args
theorem fact55 : lenK Tryz.prog 77 = .slice := by kernel_rfl
theorem fact56 : ixKind Tryz.prog 77 = .slice 3 := by kernel_rfl
theorem fact57 : aggSize Tryz.prog 81 = some (some 3) := by kernel_rfl
theorem fact58 : zeroOf Tryz.prog 81 = some (#[.string ⟨#[]⟩, .string ⟨#[]⟩, .nilFunc]) := by kernel_rfl
theorem fact59 : cellsN Tryz.prog 81 = some 3 := by kernel_rfl
theorem fact60 : fieldOff Tryz.prog 81 0 = some 0 := by kernel_rfl
theorem res21 : Tryz.f21.results = #[.tmp 2] := by rfl
theorem call46 (E : Env Tryz.prog) (first captured : Array Value) (args : List Value) (s : St) (K : Kp (Value → St → Prop)) : XCallV Tryz.prog E false (.func (.func 46) first captured) args s K = XCallOK Tryz.prog E 46 (first ++ args.toArray ++ captured) s K := XCallV_enter Tryz.func46 rfl (by kernel_rfl) first captured args
theorem fact61 : fieldOff Tryz.prog 81 1 = some 1 := by kernel_rfl
theorem res22 : Tryz.f22.results = #[.tmp 6] := by rfl
theorem call47 (E : Env Tryz.prog) (first captured : Array Value) (args : List Value) (s : St) (K : Kp (Value → St → Prop)) : XCallV Tryz.prog E false (.func (.func 47) first captured) args s K = XCallOK Tryz.prog E 47 (first ++ args.toArray ++ captured) s K := XCallV_enter Tryz.func47 rfl (by kernel_rfl) first captured args
theorem call48 (E : Env Tryz.prog) (first captured : Array Value) (args : List Value) (s : St) (K : Kp (Value → St → Prop)) : XCallV Tryz.prog E false (.func (.func 48) first captured) args s K = XCallOK Tryz.prog E 48 (first ++ args.toArray ++ captured) s K := XCallV_enter Tryz.func48 rfl (by kernel_rfl) first captured args
theorem call49 (E : Env Tryz.prog) (first captured : Array Value) (args : List Value) (s : St) (K : Kp (Value → St → Prop)) : XCallV Tryz.prog E false (.func (.func 49) first captured) args s K = XCallOK Tryz.prog E 49 (first ++ args.toArray ++ captured) s K := XCallV_enter Tryz.func49 rfl (by kernel_rfl) first captured args
theorem call50 (E : Env Tryz.prog) (first captured : Array Value) (args : List Value) (s : St) (K : Kp (Value → St → Prop)) : XCallV Tryz.prog E false (.func (.func 50) first captured) args s K = XCallOK Tryz.prog E 50 (first ++ args.toArray ++ captured) s K := XCallV_enter Tryz.func50 rfl (by kernel_rfl) first captured args
theorem fact62 : cellsN Tryz.prog 3 = some 1 := by kernel_rfl
theorem res23 : Tryz.f23.results = #[.tmp 2] := by rfl
theorem res24 : Tryz.f24.results = #[.cell 2 35] := by rfl
theorem fact63 : fieldOff Tryz.prog 35 6 = some 7 := by kernel_rfl
theorem fact64 : fieldOff Tryz.prog 35 7 = some 8 := by kernel_rfl
theorem fact65 : fieldOff Tryz.prog 35 8 = some 9 := by kernel_rfl
theorem fact66 : fieldOff Tryz.prog 35 2 = some 2 := by kernel_rfl
theorem fact67 : fieldOff Tryz.prog 35 3 = some 3 := by kernel_rfl
theorem res25 : Tryz.f25.results = #[.tmp 4, .tmp 5] := by rfl
theorem res28 : Tryz.f28.results = #[.tmp 2] := by rfl
theorem call53 (E : Env Tryz.prog) (first captured : Array Value) (args : List Value) (s : St) (K : Kp (Value → St → Prop)) : XCallV Tryz.prog E false (.func (.func 53) first captured) args s K = XCallOK Tryz.prog E 53 (first ++ args.toArray ++ captured) s K := XCallV_enter Tryz.func53 rfl (by kernel_rfl) first captured args
theorem fact68 : fieldOff Tryz.prog 32 1 = some 1 := by kernel_rfl
theorem fact69 : aggSize Tryz.prog 2 = some (none) := by kernel_rfl
theorem call54 (E : Env Tryz.prog) (first captured : Array Value) (args : List Value) (s : St) (K : Kp (Value → St → Prop)) : XCallV Tryz.prog E false (.func (.func 54) first captured) args s K = XCallOK Tryz.prog E 54 (first ++ args.toArray ++ captured) s K := XCallV_enter Tryz.func54 rfl (by kernel_rfl) first captured args
theorem fact70 : bspec Tryz.prog 90 = some (([.string ⟨#[]⟩, .string ⟨#[]⟩, .string ⟨#[]⟩], [(0, 1), (1, 1), (2, 1)])) := by kernel_rfl
theorem fact71 : fieldOff Tryz.prog 32 0 = some 0 := by kernel_rfl
theorem fact72 : ixV Tryz.prog 90 = some ((3, 1, none)) := by kernel_rfl
theorem res29 : Tryz.f29.results = #[.tmp 2] := by rfl
theorem fact73 : zeroOf Tryz.prog 91 = some (#[.int .u8 0, .int .u8 0, .int .u8 0, .int .u8 0, .int .u8 0, .int .u8 0, .int .u8 0, .int .u8 0, .int .u8 0, .int .u8 0, .int .u8 0, .int .u8 0, .int .u8 0, .int .u8 0, .int .u8 0, .int .u8 0]) := by kernel_rfl
theorem fact74 : ixKind Tryz.prog 91 = .array 16 1 := by kernel_rfl
theorem fact75 : slK Tryz.prog 91 = .array 16 1 := by kernel_rfl
theorem res30 : Tryz.f30.results = #[] := by rfl
theorem fact76 : fieldOff Tryz.prog 46 0 = some 0 := by kernel_rfl
theorem fact77 : aggSize Tryz.prog 43 = some (none) := by kernel_rfl
theorem fact78 : eqK Tryz.prog 43 = .ptr := by kernel_rfl
theorem fact79 : cellsN Tryz.prog 43 = some 1 := by kernel_rfl
theorem res31 : Tryz.f31.results = #[.tmp 2] := by rfl
theorem res32 : Tryz.f32.results = #[.cell 2 35] := by rfl
theorem call56 (E : Env Tryz.prog) (first captured : Array Value) (args : List Value) (s : St) (K : Kp (Value → St → Prop)) : XCallV Tryz.prog E false (.func (.func 56) first captured) args s K = XCallOK Tryz.prog E 56 (first ++ args.toArray ++ captured) s K := XCallV_enter Tryz.func56 rfl (by kernel_rfl) first captured args
theorem res33 : Tryz.f33.results = #[.tmp 2] := by rfl
theorem res34 : Tryz.f34.results = #[.tmp 2] := by rfl
theorem res35 : Tryz.f35.results = #[.tmp 2] := by rfl
theorem res36 : Tryz.f36.results = #[.tmp 2] := by rfl
theorem res37 : Tryz.f37.results = #[.tmp 2] := by rfl
theorem res38 : Tryz.f38.results = #[.tmp 4] := by rfl
theorem res40 : Tryz.f40.results = #[.tmp 2] := by rfl
theorem res41 : Tryz.f41.results = #[.tmp 2, .tmp 3] := by rfl
theorem fact80 : convK Tryz.prog 5 33 = .int .u64 := by kernel_rfl
theorem fact81 : convK Tryz.prog 33 3 = .int .i64 := by kernel_rfl
theorem res42 : Tryz.f42.results = #[.tmp 2, .tmp 3] := by rfl
theorem res43 : Tryz.f43.results = #[.cell 2 32, .tmp 3] := by rfl
theorem fact82 : cellsN Tryz.prog 2 = some 1 := by kernel_rfl
theorem res44 : Tryz.f44.results = #[.cell 6 35] := by rfl
theorem res45 : Tryz.f45.results = #[.tmp 0] := by rfl
theorem fact83 : bspec Tryz.prog 81 = some (([.string ⟨#[]⟩, .string ⟨#[]⟩, .nilFunc], [(0, 1), (1, 1), (2, 1)])) := by kernel_rfl
theorem fact84 : sspec Tryz.prog 77 = some ((81, [.string ⟨#[]⟩, .string ⟨#[]⟩, .nilFunc], 3)) := by kernel_rfl
theorem res46 : Tryz.f46.results = #[.cell 2 81, .tmp 3] := by rfl
theorem res47 : Tryz.f47.results = #[.tmp 2, .tmp 3] := by rfl
theorem call80 (E : Env Tryz.prog) (first captured : Array Value) (args : List Value) (s : St) (K : Kp (Value → St → Prop)) : XCallV Tryz.prog E false (.func (.func 80) first captured) args s K = XCallOK Tryz.prog E 80 (first ++ args.toArray ++ captured) s K := XCallV_enter Tryz.func80 rfl (by kernel_rfl) first captured args
theorem fact85 : eqK Tryz.prog 48 = .iface := by kernel_rfl
theorem res48 : Tryz.f48.results = #[.tmp 2, .tmp 3] := by rfl
theorem fact86 : convK Tryz.prog 3 33 = .int .u64 := by kernel_rfl
theorem res49 : Tryz.f49.results = #[.cell 2 32] := by rfl
theorem call81 (E : Env Tryz.prog) (first captured : Array Value) (args : List Value) (s : St) (K : Kp (Value → St → Prop)) : XCallV Tryz.prog E false (.func (.func 81) first captured) args s K = XCallOK Tryz.prog E 81 (first ++ args.toArray ++ captured) s K := XCallV_enter Tryz.func81 rfl (by kernel_rfl) first captured args
theorem res50 : Tryz.f50.results = #[.tmp 4] := by rfl
theorem res53 : Tryz.f53.results = #[.tmp 2, .tmp 3] := by rfl
theorem fact87 : convK Tryz.prog 2 33 = .int .u64 := by kernel_rfl
theorem res56 : Tryz.f56.results = #[.tmp 4] := by rfl
def facts0 := And.intro @fact1 (And.intro @fact2 (And.intro @fact3 (And.intro @fact4 (And.intro @fact5 (And.intro @fact6 (And.intro @fact7 (And.intro @fact8 (And.intro @fact9 (And.intro @fact10 (And.intro @fact11 (And.intro @fact12 (And.intro @fact13 (And.intro @fact14 (And.intro @fact15 (And.intro @fact16 (And.intro @fact17 (And.intro @fact18 (And.intro @fact19 (And.intro @fact20 (And.intro @fact21 (And.intro @fact22 (And.intro @fact23 (And.intro @fact24 (And.intro @fact25 (And.intro @fact26 (And.intro @fact27 (And.intro @fact28 (And.intro @fact29 (And.intro @fact30 (And.intro @fact31 (And.intro @fact32 (And.intro @fact33 (And.intro @fact34 (And.intro @fact35 (And.intro @fact36 (And.intro @fact37 (And.intro @fact38 (And.intro @fact39 (And.intro @fact40 (And.intro @fact41 (And.intro @fact42 (And.intro @fact43 (And.intro @fact44 (And.intro @fact45 (And.intro @fact46 (And.intro @fact47 (And.intro @fact48 (And.intro @fact49 (And.intro @fact50 (And.intro @fact51 (And.intro @fact52 (And.intro @fact53 (And.intro @fact54 (And.intro @fact55 (And.intro @fact56 (And.intro @fact57 (And.intro @fact58 (And.intro @fact59 (And.intro @fact60 (And.intro @fact61 (And.intro @fact62 (And.intro @fact63 (And.intro @fact64 (And.intro @fact65 (And.intro @fact66 (And.intro @fact67 (And.intro @fact68 (And.intro @fact69 (@fact70)))))))))))))))))))))))))))))))))))))))))))))))))))))))))))))))))))))
def facts1 := And.intro @fact71 (And.intro @fact72 (And.intro @fact73 (And.intro @fact74 (And.intro @fact75 (And.intro @fact76 (And.intro @fact77 (And.intro @fact78 (And.intro @fact79 (And.intro @fact80 (And.intro @fact81 (And.intro @fact82 (And.intro @fact83 (And.intro @fact84 (And.intro @fact85 (And.intro @fact86 (@fact87))))))))))))))))
def calls0 := And.intro @call5 (And.intro @call6 (And.intro @call7 (And.intro @call8 (And.intro @call9 (And.intro @call10 (And.intro @call11 (And.intro @call12 (And.intro @call13 (And.intro @call14 (And.intro @call15 (And.intro @call16 (And.intro @call17 (And.intro @call18 (And.intro @call19 (And.intro @call20 (And.intro @call21 (And.intro @call22 (And.intro @call23 (And.intro @call24 (And.intro @call25 (And.intro @call26 (And.intro @call27 (And.intro @call28 (And.intro @call29 (And.intro @call30 (And.intro @call31 (And.intro @call32 (And.intro @call33 (And.intro @call34 (And.intro @call35 (And.intro @call36 (And.intro @call37 (And.intro @call38 (And.intro @call40 (And.intro @call41 (And.intro @call42 (And.intro @call43 (And.intro @call44 (And.intro @call45 (And.intro @call46 (And.intro @call47 (And.intro @call48 (And.intro @call49 (And.intro @call50 (And.intro @call53 (And.intro @call54 (And.intro @call56 (And.intro @call80 (@call81)))))))))))))))))))))))))))))))))))))))))))))))))
theorem mixed : Tryz.prog.follows .mixedOrders = true := by kernel_rfl
end Go.Proofs.TX
