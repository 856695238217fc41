import Derived.Test.YthakebelpnfinaaSxM
import Derived.Test.YthakebelpnfinaaProg
set_option linter.unusedVariables false
namespace Go.Proofs.Ythakebelpnfinaa
open Go.RowKit Go.Sx
theorem mixedT : Try.prog.follows .mixedOrders = true := by kernel_rfl
instance tl3 : TL Try.prog 3 false 1 := ⟨⟨_, Try.underlying3, rfl⟩, by kernel_rfl⟩   -- int
instance is3 : IsInt Try.prog 3 .i64 := ⟨Try.underlying3⟩
instance tl4 : TL Try.prog 4 false 1 := ⟨⟨_, Try.underlying4, rfl⟩, by kernel_rfl⟩   -- bool
instance is4 : IsBool Try.prog 4 := ⟨Try.underlying4⟩
instance tl22 : TL Try.prog 22 false 1 := ⟨⟨_, Try.underlying22, rfl⟩, by kernel_rfl⟩   -- []bool
instance is22 : IsSl Try.prog 22 4 := ⟨Try.underlying22⟩
instance tl23 : TL Try.prog 23 false 1 := ⟨⟨_, Try.underlying23, rfl⟩, by kernel_rfl⟩   -- [][]api.Move
instance is23 : IsSl Try.prog 23 38 := ⟨Try.underlying23⟩
instance tl25 : TL Try.prog 25 true 2 := ⟨⟨_, Try.underlying25, rfl⟩, by kernel_rfl⟩   -- api.Game
instance tl29 : TL Try.prog 29 false 1 := ⟨⟨_, Try.underlying29, rfl⟩, by kernel_rfl⟩   -- []int
instance is29 : IsSl Try.prog 29 3 := ⟨Try.underlying29⟩
instance tl35 : TL Try.prog 35 false 1 := ⟨⟨_, Try.underlying35, rfl⟩, by kernel_rfl⟩   -- []api.Row
instance is35 : IsSl Try.prog 35 43 := ⟨Try.underlying35⟩
instance tl38 : TL Try.prog 38 false 1 := ⟨⟨_, Try.underlying38, rfl⟩, by kernel_rfl⟩   -- []api.Move
instance is38 : IsSl Try.prog 38 41 := ⟨Try.underlying38⟩
instance tl41 : TL Try.prog 41 true 2 := ⟨⟨_, Try.underlying41, rfl⟩, by kernel_rfl⟩   -- api.Move
instance tl43 : TL Try.prog 43 true 3 := ⟨⟨_, Try.underlying43, rfl⟩, by kernel_rfl⟩   -- api.Row
instance tl56 : TL Try.prog 56 false 1 := ⟨⟨_, Try.underlying56, rfl⟩, by kernel_rfl⟩   -- func
instance tl57 : TL Try.prog 57 false 1 := ⟨⟨_, Try.underlying57, rfl⟩, by kernel_rfl⟩   -- *game.solver
instance is57 : IsPtr Try.prog 57 64 := ⟨Try.underlying57⟩
instance tl59 : TL Try.prog 59 false 1 := ⟨⟨_, Try.underlying59, rfl⟩, by kernel_rfl⟩   -- func
instance tl60 : TL Try.prog 60 false 1 := ⟨⟨_, Try.underlying60, rfl⟩, by kernel_rfl⟩   -- iter.Seq[int]
instance tl62 : TL Try.prog 62 false 1 := ⟨⟨_, Try.underlying62, rfl⟩, by kernel_rfl⟩   -- [][]int
instance is62 : IsSl Try.prog 62 29 := ⟨Try.underlying62⟩
instance tl64 : TL Try.prog 64 true 7 := ⟨⟨_, Try.underlying64, rfl⟩, by kernel_rfl⟩   -- game.solver
instance tl66 : TL Try.prog 66 false 1 := ⟨⟨_, Try.underlying66, rfl⟩, by kernel_rfl⟩   -- func
instance fa25_0 : FA Try.prog 25 0 0 := ⟨_, _, Try.underlying25, rfl, rfl, 1, by decide, by kernel_rfl⟩   -- Goal
instance fa25_1 : FA Try.prog 25 1 1 := ⟨_, _, Try.underlying25, rfl, rfl, 1, by decide, by kernel_rfl⟩   -- Moves
instance fa41_0 : FA Try.prog 41 0 0 := ⟨_, _, Try.underlying41, rfl, rfl, 1, by decide, by kernel_rfl⟩   -- Act
instance fa41_1 : FA Try.prog 41 1 1 := ⟨_, _, Try.underlying41, rfl, rfl, 1, by decide, by kernel_rfl⟩   -- To
instance fa43_0 : FA Try.prog 43 0 0 := ⟨_, _, Try.underlying43, rfl, rfl, 1, by decide, by kernel_rfl⟩   -- Pos
instance fa43_1 : FA Try.prog 43 1 1 := ⟨_, _, Try.underlying43, rfl, rfl, 1, by decide, by kernel_rfl⟩   -- Act
instance fa43_2 : FA Try.prog 43 2 2 := ⟨_, _, Try.underlying43, rfl, rfl, 1, by decide, by kernel_rfl⟩   -- Rank
instance fa64_1 : FA Try.prog 64 1 2 := ⟨_, _, Try.underlying64, rfl, rfl, 1, by decide, by kernel_rfl⟩   -- ranks
instance fa64_2 : FA Try.prog 64 2 3 := ⟨_, _, Try.underlying64, rfl, rfl, 1, by decide, by kernel_rfl⟩   -- owner
instance fa64_3 : FA Try.prog 64 3 4 := ⟨_, _, Try.underlying64, rfl, rfl, 1, by decide, by kernel_rfl⟩   -- left
instance fa64_4 : FA Try.prog 64 4 5 := ⟨_, _, Try.underlying64, rfl, rfl, 1, by decide, by kernel_rfl⟩   -- into
instance fa64_5 : FA Try.prog 64 5 6 := ⟨_, _, Try.underlying64, rfl, rfl, 1, by decide, by kernel_rfl⟩   -- queue
instance zv3 : ZV Try.prog 3 [.int .i64 0] := ⟨(.int .i64 0), by kernel_rfl, rfl⟩
instance zv4 : ZV Try.prog 4 [.bool false] := ⟨(.bool false), by kernel_rfl, rfl⟩
instance zv25 : ZV Try.prog 25 [.slice none 0 0, .slice none 0 0] := ⟨(.agg #[.slice none 0 0, .slice none 0 0]), by kernel_rfl, rfl⟩
instance zv29 : ZV Try.prog 29 [.slice none 0 0] := ⟨(.slice none 0 0), by kernel_rfl, rfl⟩
instance zv38 : ZV Try.prog 38 [.slice none 0 0] := ⟨(.slice none 0 0), by kernel_rfl, rfl⟩
instance zv41 : ZV Try.prog 41 [.int .i64 0, .slice none 0 0] := ⟨(.agg #[.int .i64 0, .slice none 0 0]), by kernel_rfl, rfl⟩
instance zv43 : ZV Try.prog 43 [.int .i64 0, .int .i64 0, .int .i64 0] := ⟨(.agg #[.int .i64 0, .int .i64 0, .int .i64 0]), by kernel_rfl, rfl⟩
instance zv57 : ZV Try.prog 57 [.pointer none] := ⟨(.pointer none), by kernel_rfl, rfl⟩
instance zv66 : ZV Try.prog 66 [.nilFunc] := ⟨(.nilFunc), by kernel_rfl, rfl⟩
theorem bld25_0 (a0 : Option Addr) (a0n a0c : Nat) (w : World) : (Instr.build 25 ([(0, .slice a0 a0n a0c)] : List (Nat × Value)).toArray).run Try.prog w = .ok (.agg ([.slice a0 a0n a0c, .slice none 0 0] : List Value).toArray) w := by kernel_rfl
theorem bld25_0_1 (a0 : Option Addr) (a0n a0c : Nat) (a1 : Option Addr) (a1n a1c : Nat) (w : World) : (Instr.build 25 ([(0, .slice a0 a0n a0c), (1, .slice a1 a1n a1c)] : List (Nat × Value)).toArray).run Try.prog w = .ok (.agg ([.slice a0 a0n a0c, .slice a1 a1n a1c] : List Value).toArray) w := by kernel_rfl
theorem bld41  (w : World) : (Instr.build 41 ([] : List (Nat × Value)).toArray).run Try.prog w = .ok (.agg ([.int .i64 0, .slice none 0 0] : List Value).toArray) w := by kernel_rfl
theorem bld41_0 (a0 : Int) (w : World) : (Instr.build 41 ([(0, .int .i64 a0)] : List (Nat × Value)).toArray).run Try.prog w = .ok (.agg ([.int .i64 a0, .slice none 0 0] : List Value).toArray) w := by kernel_rfl
theorem bld41_0_1 (a0 : Int) (a1 : Option Addr) (a1n a1c : Nat) (w : World) : (Instr.build 41 ([(0, .int .i64 a0), (1, .slice a1 a1n a1c)] : List (Nat × Value)).toArray).run Try.prog w = .ok (.agg ([.int .i64 a0, .slice a1 a1n a1c] : List Value).toArray) w := by kernel_rfl
theorem bld41_1 (a1 : Option Addr) (a1n a1c : Nat) (w : World) : (Instr.build 41 ([(1, .slice a1 a1n a1c)] : List (Nat × Value)).toArray).run Try.prog w = .ok (.agg ([.int .i64 0, .slice a1 a1n a1c] : List Value).toArray) w := by kernel_rfl
theorem bld43  (w : World) : (Instr.build 43 ([] : List (Nat × Value)).toArray).run Try.prog w = .ok (.agg ([.int .i64 0, .int .i64 0, .int .i64 0] : List Value).toArray) w := by kernel_rfl
theorem bld43_0_1 (a0 : Int) (a1 : Int) (w : World) : (Instr.build 43 ([(0, .int .i64 a0), (1, .int .i64 a1)] : List (Nat × Value)).toArray).run Try.prog w = .ok (.agg ([.int .i64 a0, .int .i64 a1, .int .i64 0] : List Value).toArray) w := by kernel_rfl
theorem bld43_0_1_2 (a0 : Int) (a1 : Int) (a2 : Int) (w : World) : (Instr.build 43 ([(0, .int .i64 a0), (1, .int .i64 a1), (2, .int .i64 a2)] : List (Nat × Value)).toArray).run Try.prog w = .ok (.agg ([.int .i64 a0, .int .i64 a1, .int .i64 a2] : List Value).toArray) w := by kernel_rfl
theorem bld43_0_2 (a0 : Int) (a2 : Int) (w : World) : (Instr.build 43 ([(0, .int .i64 a0), (2, .int .i64 a2)] : List (Nat × Value)).toArray).run Try.prog w = .ok (.agg ([.int .i64 a0, .int .i64 0, .int .i64 a2] : List Value).toArray) w := by kernel_rfl
-- build 64 (0, 4): not printed
instance fc3 : FC Try.prog 3 := ⟨_, Try.func3, by kernel_rfl, rfl⟩   -- taquin/taquinlaw30.GameTells
instance fc4 : FC Try.prog 4 := ⟨_, Try.func4, by kernel_rfl, rfl⟩   -- taquin/taquinlaw30.GameRanks
instance fc5 : FC Try.prog 5 := ⟨_, Try.func5, by kernel_rfl, rfl⟩   -- taquin/taquinlaw30.GameForces
instance fc6 : FC Try.prog 6 := ⟨_, Try.func6, by kernel_rfl, rfl⟩   -- taquin/taquinlaw30.GameAvoids
instance fc7 : FC Try.prog 7 := ⟨_, Try.func7, by kernel_rfl, rfl⟩   -- taquin/taquinlaw30.GameMore
instance fc8 : FC Try.prog 8 := ⟨_, Try.func8, by kernel_rfl, rfl⟩   -- taquin/taquinlaw30.GameApart
instance fc9 : FC Try.prog 9 := ⟨_, Try.func9, by kernel_rfl, rfl⟩   -- taquin/taquinlaw30.small
instance fc10 : FC Try.prog 10 := ⟨_, Try.func10, by kernel_rfl, rfl⟩   -- taquin/taquinref30.Few
instance fc11 : FC Try.prog 11 := ⟨_, Try.func11, by kernel_rfl, rfl⟩   -- taquin/game.Right
instance fc12 : FC Try.prog 12 := ⟨_, Try.func12, by kernel_rfl, rfl⟩   -- taquin/taquinref30.Right
instance fc13 : FC Try.prog 13 := ⟨_, Try.func13, by kernel_rfl, rfl⟩   -- taquin/taquinref30.Ranks
instance fc14 : FC Try.prog 14 := ⟨_, Try.func14, by kernel_rfl, rfl⟩   -- taquin/game.Answer
instance fc15 : FC Try.prog 15 := ⟨_, Try.func15, by kernel_rfl, rfl⟩   -- taquin/taquinref30.Answer
instance fc16 : FC Try.prog 16 := ⟨_, Try.func16, by kernel_rfl, rfl⟩   -- taquin/taquinref30.Ints
instance fc17 : FC Try.prog 17 := ⟨_, Try.func17, by kernel_rfl, rfl⟩   -- taquin/game.Ranks
instance fc18 : FC Try.prog 18 := ⟨_, Try.func18, by kernel_rfl, rfl⟩   -- taquin/taquinref30.SameRows
instance fc19 : FC Try.prog 19 := ⟨_, Try.func19, by kernel_rfl, rfl⟩   -- taquin/game.Solve
instance fc20 : FC Try.prog 20 := ⟨_, Try.func20, by kernel_rfl, rfl⟩   -- taquin/taquinref30.Solve
instance fc21 : FC Try.prog 21 := ⟨_, Try.func21, by kernel_rfl, rfl⟩   -- taquin/taquinlaw30.given
instance fc22 : FC Try.prog 22 := ⟨_, Try.func22, by kernel_rfl, rfl⟩   -- taquin/taquinlaw30.most
instance fc23 : FC Try.prog 23 := ⟨_, Try.func23, by kernel_rfl, rfl⟩   -- taquin/taquinlaw30.row
instance fc24 : FC Try.prog 24 := ⟨_, Try.func24, by kernel_rfl, rfl⟩   -- taquin/taquinref30.Move
instance fc25 : FC Try.prog 25 := ⟨_, Try.func25, by kernel_rfl, rfl⟩   -- taquin/taquinlaw30.clone
instance fc26 : FC Try.prog 26 := ⟨_, Try.func26, by kernel_rfl, rfl⟩   -- taquin/taquinlaw30.easier
instance fc27 : FC Try.prog 27 := ⟨_, Try.func27, by kernel_rfl, rfl⟩   -- taquin/taquinlaw30.sample
instance fc28 : FC Try.prog 28 := ⟨_, Try.func28, by kernel_rfl, rfl⟩   -- taquin/game.ascends
instance fc29 : FC Try.prog 29 := ⟨_, Try.func29, by kernel_rfl, rfl⟩   -- taquin/taquinref30.within
instance fc30 : FC Try.prog 30 := ⟨_, Try.func30, by kernel_rfl, rfl⟩   -- slices.IndexFunc[[]taquin/api.Move,taquin/api.Move]
instance fc31 : FC Try.prog 31 := ⟨_, Try.func31, by kernel_rfl, rfl⟩   -- taquin/game.Answer$1
instance fc32 : FC Try.prog 32 := ⟨_, Try.func32, by kernel_rfl, rfl⟩   -- taquin/game.begin
instance fc33 : FC Try.prog 33 := ⟨_, Try.func33, by kernel_rfl, rfl⟩   -- (*taquin/game.solver).won
instance fc34 : FC Try.prog 34 := ⟨_, Try.func34, by kernel_rfl, rfl⟩   -- taquin/game.good
instance fc35 : FC Try.prog 35 := ⟨_, Try.func35, by kernel_rfl, rfl⟩   -- (*taquin/game.solver).won$1
instance fc36 : FC Try.prog 36 := ⟨_, Try.func36, by kernel_rfl, rfl⟩   -- taquin/game.good$1
instance fc37 : FC Try.prog 37 := ⟨_, Try.func37, by kernel_rfl, rfl⟩   -- taquin/game.good$2
instance fc38 : FC Try.prog 38 := ⟨_, Try.func38, by kernel_rfl, rfl⟩   -- slices.ContainsFunc[[]int,int]
instance fc39 : FC Try.prog 39 := ⟨_, Try.func39, by kernel_rfl, rfl⟩   -- slices.IndexFunc[[]int,int]
end Go.Proofs.Ythakebelpnfinaa
