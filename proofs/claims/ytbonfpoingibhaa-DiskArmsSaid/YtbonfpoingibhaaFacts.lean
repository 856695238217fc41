import Derived.Test.YtbonfpoingibhaaSxV
import Derived.Test.YtbonfpoingibhaaProg
set_option linter.unusedVariables false
namespace Go.Proofs.Ytbonfpoingibhaa
open Go.RowKit Go.Sx
theorem mixedT : Try.prog.follows .mixedOrders = true := by kernel_rfl
instance tl3 : TL Try.prog 3 false 1 := ⟨⟨_, Try.underlying3, rfl⟩, by kernel_rfl⟩   -- int
instance is3 : IsInt Try.prog 3 .i64 := ⟨Try.underlying3⟩
instance tl4 : TL Try.prog 4 false 1 := ⟨⟨_, Try.underlying4, rfl⟩, by kernel_rfl⟩   -- bool
instance is4 : IsBool Try.prog 4 := ⟨Try.underlying4⟩
instance tl5 : TL Try.prog 5 false 1 := ⟨⟨_, Try.underlying5, rfl⟩, by kernel_rfl⟩   -- uint8
instance is5 : IsInt Try.prog 5 .u8 := ⟨Try.underlying5⟩
instance tl9 : TL Try.prog 9 false 1 := ⟨⟨_, Try.underlying9, rfl⟩, by kernel_rfl⟩   -- string
instance is9 : IsStr Try.prog 9 := ⟨Try.underlying9⟩
instance tl22 : TL Try.prog 22 false 1 := ⟨⟨_, Try.underlying22, rfl⟩, by kernel_rfl⟩   -- []taquinlaw03.Act
instance is22 : IsSl Try.prog 22 33 := ⟨Try.underlying22⟩
instance tl25 : TL Try.prog 25 false 1 := ⟨⟨_, Try.underlying25, rfl⟩, by kernel_rfl⟩   -- *disk.Disk
instance is25 : IsPtr Try.prog 25 56 := ⟨Try.underlying25⟩
instance tl27 : TL Try.prog 27 false 1 := ⟨⟨_, Try.underlying27, rfl⟩, by kernel_rfl⟩   -- *taquinref03.Disk
instance is27 : IsPtr Try.prog 27 60 := ⟨Try.underlying27⟩
instance tl29 : TL Try.prog 29 false 1 := ⟨⟨_, Try.underlying29, rfl⟩, by kernel_rfl⟩   -- api.Errno
instance is29 : IsInt Try.prog 29 .i64 := ⟨Try.underlying29⟩
instance tl31 : TL Try.prog 31 false 1 := ⟨⟨_, Try.underlying31, rfl⟩, by kernel_rfl⟩   -- []int
instance is31 : IsSl Try.prog 31 3 := ⟨Try.underlying31⟩
instance tl33 : TL Try.prog 33 true 5 := ⟨⟨_, Try.underlying33, rfl⟩, by kernel_rfl⟩   -- taquinlaw03.Act
instance tl52 : TL Try.prog 52 false 1 := ⟨⟨_, Try.underlying52, rfl⟩, by kernel_rfl⟩   -- map[int]disk.file
instance is52 : IsMap Try.prog 52 3 63 := ⟨Try.underlying52⟩
instance tl53 : TL Try.prog 53 false 1 := ⟨⟨_, Try.underlying53, rfl⟩, by kernel_rfl⟩   -- map[disk.sector]bool
instance is53 : IsMap Try.prog 53 70 4 := ⟨Try.underlying53⟩
instance tl54 : TL Try.prog 54 false 1 := ⟨⟨_, Try.underlying54, rfl⟩, by kernel_rfl⟩   -- []disk.sector
instance is54 : IsSl Try.prog 54 70 := ⟨Try.underlying54⟩
instance tl56 : TL Try.prog 56 true 7 := ⟨⟨_, Try.underlying56, rfl⟩, by kernel_rfl⟩   -- disk.Disk
instance tl57 : TL Try.prog 57 false 1 := ⟨⟨_, Try.underlying57, rfl⟩, by kernel_rfl⟩   -- []taquinref03.File
instance is57 : IsSl Try.prog 57 65 := ⟨Try.underlying57⟩
instance tl58 : TL Try.prog 58 false 1 := ⟨⟨_, Try.underlying58, rfl⟩, by kernel_rfl⟩   -- []taquinref03.Sector
instance is58 : IsSl Try.prog 58 78 := ⟨Try.underlying58⟩
instance tl60 : TL Try.prog 60 true 6 := ⟨⟨_, Try.underlying60, rfl⟩, by kernel_rfl⟩   -- taquinref03.Disk
instance tl63 : TL Try.prog 63 true 2 := ⟨⟨_, Try.underlying63, rfl⟩, by kernel_rfl⟩   -- disk.file
instance tl65 : TL Try.prog 65 true 3 := ⟨⟨_, Try.underlying65, rfl⟩, by kernel_rfl⟩   -- taquinref03.File
instance tl70 : TL Try.prog 70 true 2 := ⟨⟨_, Try.underlying70, rfl⟩, by kernel_rfl⟩   -- disk.sector
instance tl78 : TL Try.prog 78 true 2 := ⟨⟨_, Try.underlying78, rfl⟩, by kernel_rfl⟩   -- taquinref03.Sector
instance tl82 : TL Try.prog 82 false 1 := ⟨⟨_, Try.underlying82, rfl⟩, by kernel_rfl⟩   -- func
instance tl84 : TL Try.prog 84 false 1 := ⟨⟨_, Try.underlying84, rfl⟩, by kernel_rfl⟩   -- func
instance tl85 : TL Try.prog 85 false 1 := ⟨⟨_, Try.underlying85, rfl⟩, by kernel_rfl⟩   -- []uint8
instance is85 : IsSl Try.prog 85 5 := ⟨Try.underlying85⟩
instance fa33_0 : FA Try.prog 33 0 0 := ⟨_, _, Try.underlying33, rfl, rfl, 1, by decide, by kernel_rfl⟩   -- Do
instance fa33_1 : FA Try.prog 33 1 1 := ⟨_, _, Try.underlying33, rfl, rfl, 1, by decide, by kernel_rfl⟩   -- F
instance fa33_2 : FA Try.prog 33 2 2 := ⟨_, _, Try.underlying33, rfl, rfl, 1, by decide, by kernel_rfl⟩   -- N
instance fa33_3 : FA Try.prog 33 3 3 := ⟨_, _, Try.underlying33, rfl, rfl, 1, by decide, by kernel_rfl⟩   -- S
instance fa33_4 : FA Try.prog 33 4 4 := ⟨_, _, Try.underlying33, rfl, rfl, 1, by decide, by kernel_rfl⟩   -- Keep
instance fa56_0 : FA Try.prog 56 0 0 := ⟨_, _, Try.underlying56, rfl, rfl, 1, by decide, by kernel_rfl⟩   -- files
instance fa56_1 : FA Try.prog 56 1 1 := ⟨_, _, Try.underlying56, rfl, rfl, 1, by decide, by kernel_rfl⟩   -- queue
instance fa56_2 : FA Try.prog 56 2 2 := ⟨_, _, Try.underlying56, rfl, rfl, 1, by decide, by kernel_rfl⟩   -- set
instance fa56_3 : FA Try.prog 56 3 3 := ⟨_, _, Try.underlying56, rfl, rfl, 1, by decide, by kernel_rfl⟩   -- lost
instance fa56_4 : FA Try.prog 56 4 4 := ⟨_, _, Try.underlying56, rfl, rfl, 1, by decide, by kernel_rfl⟩   -- down
instance fa56_5 : FA Try.prog 56 5 5 := ⟨_, _, Try.underlying56, rfl, rfl, 1, by decide, by kernel_rfl⟩   -- armed
instance fa56_6 : FA Try.prog 56 6 6 := ⟨_, _, Try.underlying56, rfl, rfl, 1, by decide, by kernel_rfl⟩   -- keep
instance fa60_0 : FA Try.prog 60 0 0 := ⟨_, _, Try.underlying60, rfl, rfl, 1, by decide, by kernel_rfl⟩   -- Files
instance fa60_1 : FA Try.prog 60 1 1 := ⟨_, _, Try.underlying60, rfl, rfl, 1, by decide, by kernel_rfl⟩   -- Queue
instance fa60_2 : FA Try.prog 60 2 2 := ⟨_, _, Try.underlying60, rfl, rfl, 1, by decide, by kernel_rfl⟩   -- Lost
instance fa60_3 : FA Try.prog 60 3 3 := ⟨_, _, Try.underlying60, rfl, rfl, 1, by decide, by kernel_rfl⟩   -- IsDown
instance fa60_4 : FA Try.prog 60 4 4 := ⟨_, _, Try.underlying60, rfl, rfl, 1, by decide, by kernel_rfl⟩   -- Armed
instance fa60_5 : FA Try.prog 60 5 5 := ⟨_, _, Try.underlying60, rfl, rfl, 1, by decide, by kernel_rfl⟩   -- Keep
instance fa63_0 : FA Try.prog 63 0 0 := ⟨_, _, Try.underlying63, rfl, rfl, 1, by decide, by kernel_rfl⟩   -- now
instance fa63_1 : FA Try.prog 63 1 1 := ⟨_, _, Try.underlying63, rfl, rfl, 1, by decide, by kernel_rfl⟩   -- last
instance fa65_0 : FA Try.prog 65 0 0 := ⟨_, _, Try.underlying65, rfl, rfl, 1, by decide, by kernel_rfl⟩   -- Number
instance fa65_1 : FA Try.prog 65 1 1 := ⟨_, _, Try.underlying65, rfl, rfl, 1, by decide, by kernel_rfl⟩   -- Now
instance fa65_2 : FA Try.prog 65 2 2 := ⟨_, _, Try.underlying65, rfl, rfl, 1, by decide, by kernel_rfl⟩   -- Last
instance fa70_0 : FA Try.prog 70 0 0 := ⟨_, _, Try.underlying70, rfl, rfl, 1, by decide, by kernel_rfl⟩   -- file
instance fa70_1 : FA Try.prog 70 1 1 := ⟨_, _, Try.underlying70, rfl, rfl, 1, by decide, by kernel_rfl⟩   -- number
instance fa78_0 : FA Try.prog 78 0 0 := ⟨_, _, Try.underlying78, rfl, rfl, 1, by decide, by kernel_rfl⟩   -- F
instance fa78_1 : FA Try.prog 78 1 1 := ⟨_, _, Try.underlying78, rfl, rfl, 1, by decide, by kernel_rfl⟩   -- N
instance zv3 : ZV Try.prog 3 [.int .i64 0] := ⟨(.int .i64 0), by kernel_rfl, rfl⟩
instance zv5 : ZV Try.prog 5 [.int .u8 0] := ⟨(.int .u8 0), by kernel_rfl, rfl⟩
instance zv33 : ZV Try.prog 33 [.int .i64 0, .int .i64 0, .int .i64 0, .string ⟨#[]⟩, .slice none 0 0] := ⟨(.agg #[.int .i64 0, .int .i64 0, .int .i64 0, .string ⟨#[]⟩, .slice none 0 0]), by kernel_rfl, rfl⟩
instance zv56 : ZV Try.prog 56 [.map none, .slice none 0 0, .map none, .int .i64 0, .bool false, .int .i64 0, .slice none 0 0] := ⟨(.agg #[.map none, .slice none 0 0, .map none, .int .i64 0, .bool false, .int .i64 0, .slice none 0 0]), by kernel_rfl, rfl⟩
instance zv63 : ZV Try.prog 63 [.string ⟨#[]⟩, .string ⟨#[]⟩] := ⟨(.agg #[.string ⟨#[]⟩, .string ⟨#[]⟩]), by kernel_rfl, rfl⟩
instance zv65 : ZV Try.prog 65 [.int .i64 0, .string ⟨#[]⟩, .string ⟨#[]⟩] := ⟨(.agg #[.int .i64 0, .string ⟨#[]⟩, .string ⟨#[]⟩]), by kernel_rfl, rfl⟩
instance zv70 : ZV Try.prog 70 [.int .i64 0, .int .i64 0] := ⟨(.agg #[.int .i64 0, .int .i64 0]), by kernel_rfl, rfl⟩
instance zv78 : ZV Try.prog 78 [.int .i64 0, .int .i64 0] := ⟨(.agg #[.int .i64 0, .int .i64 0]), by kernel_rfl, rfl⟩
theorem bld56_0_2 (a0 : Option Nat) (a2 : Option Nat) (w : World) : (Instr.build 56 ([(0, .map a0), (2, .map a2)] : List (Nat × Value)).toArray).run Try.prog w = .ok (.agg ([.map a0, .slice none 0 0, .map a2, .int .i64 0, .bool false, .int .i64 0, .slice none 0 0] : List Value).toArray) w := by kernel_rfl
theorem bld60  (w : World) : (Instr.build 60 ([] : List (Nat × Value)).toArray).run Try.prog w = .ok (.agg ([.slice none 0 0, .slice none 0 0, .int .i64 0, .bool false, .int .i64 0, .slice none 0 0] : List Value).toArray) w := by kernel_rfl
theorem bld63_0_1 (a0 : ByteArray) (a1 : ByteArray) (w : World) : (Instr.build 63 ([(0, .string a0), (1, .string a1)] : List (Nat × Value)).toArray).run Try.prog w = .ok (.agg ([.string a0, .string a1] : List Value).toArray) w := by kernel_rfl
theorem bld65_0 (a0 : Int) (w : World) : (Instr.build 65 ([(0, .int .i64 a0)] : List (Nat × Value)).toArray).run Try.prog w = .ok (.agg ([.int .i64 a0, .string ⟨#[]⟩, .string ⟨#[]⟩] : List Value).toArray) w := by kernel_rfl
theorem bld65_0_1_2 (a0 : Int) (a1 : ByteArray) (a2 : ByteArray) (w : World) : (Instr.build 65 ([(0, .int .i64 a0), (1, .string a1), (2, .string a2)] : List (Nat × Value)).toArray).run Try.prog w = .ok (.agg ([.int .i64 a0, .string a1, .string a2] : List Value).toArray) w := by kernel_rfl
theorem bld70_0_1 (a0 : Int) (a1 : Int) (w : World) : (Instr.build 70 ([(0, .int .i64 a0), (1, .int .i64 a1)] : List (Nat × Value)).toArray).run Try.prog w = .ok (.agg ([.int .i64 a0, .int .i64 a1] : List Value).toArray) w := by kernel_rfl
theorem bld78_0_1 (a0 : Int) (a1 : Int) (w : World) : (Instr.build 78 ([(0, .int .i64 a0), (1, .int .i64 a1)] : List (Nat × Value)).toArray).run Try.prog w = .ok (.agg ([.int .i64 a0, .int .i64 a1] : List Value).toArray) w := by kernel_rfl
instance fc3 : FC Try.prog 3 := ⟨_, Try.func3, by kernel_rfl, rfl⟩   -- taquin/taquinlaw03.DiskTells
instance fc4 : FC Try.prog 4 := ⟨_, Try.func4, by kernel_rfl, rfl⟩   -- taquin/taquinlaw03.DiskSurvives
instance fc5 : FC Try.prog 5 := ⟨_, Try.func5, by kernel_rfl, rfl⟩   -- taquin/taquinlaw03.DiskSynced
instance fc6 : FC Try.prog 6 := ⟨_, Try.func6, by kernel_rfl, rfl⟩   -- taquin/taquinlaw03.DiskArms
instance fc7 : FC Try.prog 7 := ⟨_, Try.func7, by kernel_rfl, rfl⟩   -- taquin/taquinlaw03.DiskReads
instance fc8 : FC Try.prog 8 := ⟨_, Try.func8, by kernel_rfl, rfl⟩   -- taquin/taquinlaw03.small
instance fc9 : FC Try.prog 9 := ⟨_, Try.func9, by kernel_rfl, rfl⟩   -- taquin/taquinlaw03.few
instance fc10 : FC Try.prog 10 := ⟨_, Try.func10, by kernel_rfl, rfl⟩   -- taquin/disk.New
instance fc11 : FC Try.prog 11 := ⟨_, Try.func11, by kernel_rfl, rfl⟩   -- taquin/taquinref03.New
instance fc12 : FC Try.prog 12 := ⟨_, Try.func12, by kernel_rfl, rfl⟩   -- taquin/taquinlaw03.do
instance fc13 : FC Try.prog 13 := ⟨_, Try.func13, by kernel_rfl, rfl⟩   -- taquin/taquinlaw03.tell
instance fc14 : FC Try.prog 14 := ⟨_, Try.func14, by kernel_rfl, rfl⟩   -- (*taquin/disk.Disk).Down
instance fc15 : FC Try.prog 15 := ⟨_, Try.func15, by kernel_rfl, rfl⟩   -- (*taquin/taquinref03.Disk).Down
instance fc16 : FC Try.prog 16 := ⟨_, Try.func16, by kernel_rfl, rfl⟩   -- (*taquin/disk.Disk).Size
instance fc17 : FC Try.prog 17 := ⟨_, Try.func17, by kernel_rfl, rfl⟩   -- (*taquin/taquinref03.Disk).Size
instance fc18 : FC Try.prog 18 := ⟨_, Try.func18, by kernel_rfl, rfl⟩   -- (*taquin/disk.Disk).Copy
instance fc19 : FC Try.prog 19 := ⟨_, Try.func19, by kernel_rfl, rfl⟩   -- (*taquin/disk.Disk).Sync
instance fc20 : FC Try.prog 20 := ⟨_, Try.func20, by kernel_rfl, rfl⟩   -- (*taquin/disk.Disk).Read
instance fc21 : FC Try.prog 21 := ⟨_, Try.func21, by kernel_rfl, rfl⟩   -- (*taquin/taquinref03.Disk).Read
instance fc22 : FC Try.prog 22 := ⟨_, Try.func22, by kernel_rfl, rfl⟩   -- taquin/taquinlaw03.played
instance fc23 : FC Try.prog 23 := ⟨_, Try.func23, by kernel_rfl, rfl⟩   -- taquin/taquinlaw03.after
instance fc24 : FC Try.prog 24 := ⟨_, Try.func24, by kernel_rfl, rfl⟩   -- taquin/taquinlaw03.byteAt
instance fc25 : FC Try.prog 25 := ⟨_, Try.func25, by kernel_rfl, rfl⟩   -- (*taquin/disk.Disk).Crash
instance fc26 : FC Try.prog 26 := ⟨_, Try.func26, by kernel_rfl, rfl⟩   -- (*taquin/disk.Disk).Start
instance fc27 : FC Try.prog 27 := ⟨_, Try.func27, by kernel_rfl, rfl⟩   -- (*taquin/disk.Disk).Arm
instance fc28 : FC Try.prog 28 := ⟨_, Try.func28, by kernel_rfl, rfl⟩   -- taquin/taquinlaw03.same
instance fc29 : FC Try.prog 29 := ⟨_, Try.func29, by kernel_rfl, rfl⟩   -- (*taquin/disk.Disk).Write
instance fc30 : FC Try.prog 30 := ⟨_, Try.func30, by kernel_rfl, rfl⟩   -- (*taquin/disk.Disk).Truncate
instance fc31 : FC Try.prog 31 := ⟨_, Try.func31, by kernel_rfl, rfl⟩   -- (*taquin/disk.Disk).Lose
instance fc32 : FC Try.prog 32 := ⟨_, Try.func32, by kernel_rfl, rfl⟩   -- (*taquin/taquinref03.Disk).Sync
instance fc33 : FC Try.prog 33 := ⟨_, Try.func33, by kernel_rfl, rfl⟩   -- (*taquin/taquinref03.Disk).Truncate
instance fc34 : FC Try.prog 34 := ⟨_, Try.func34, by kernel_rfl, rfl⟩   -- (*taquin/taquinref03.Disk).Lose
instance fc35 : FC Try.prog 35 := ⟨_, Try.func35, by kernel_rfl, rfl⟩   -- (*taquin/taquinref03.Disk).Arm
instance fc36 : FC Try.prog 36 := ⟨_, Try.func36, by kernel_rfl, rfl⟩   -- (*taquin/taquinref03.Disk).Crash
instance fc37 : FC Try.prog 37 := ⟨_, Try.func37, by kernel_rfl, rfl⟩   -- (*taquin/taquinref03.Disk).Start
instance fc38 : FC Try.prog 38 := ⟨_, Try.func38, by kernel_rfl, rfl⟩   -- (*taquin/taquinref03.Disk).Write
instance fc39 : FC Try.prog 39 := ⟨_, Try.func39, by kernel_rfl, rfl⟩   -- (*taquin/taquinref03.Disk).get
instance fc40 : FC Try.prog 40 := ⟨_, Try.func40, by kernel_rfl, rfl⟩   -- maps.Clone[map[int]taquin/disk.file,int,taquin/disk.file]
instance fc41 : FC Try.prog 41 := ⟨_, Try.func41, by kernel_rfl, rfl⟩   -- slices.Clone[[]taquin/disk.sector,taquin/disk.sector]
instance fc42 : FC Try.prog 42 := ⟨_, Try.func42, by kernel_rfl, rfl⟩   -- maps.Clone[map[taquin/disk.sector]bool,taquin/disk.sector,bool]
instance fc43 : FC Try.prog 43 := ⟨_, Try.func43, by kernel_rfl, rfl⟩   -- (*taquin/disk.Disk).ends
instance fc44 : FC Try.prog 44 := ⟨_, Try.func44, by kernel_rfl, rfl⟩   -- (*taquin/disk.Disk).may
instance fc45 : FC Try.prog 45 := ⟨_, Try.func45, by kernel_rfl, rfl⟩   -- (*taquin/disk.Disk).settle
instance fc46 : FC Try.prog 46 := ⟨_, Try.func46, by kernel_rfl, rfl⟩   -- (*taquin/taquinref03.Disk).may
instance fc47 : FC Try.prog 47 := ⟨_, Try.func47, by kernel_rfl, rfl⟩   -- taquin/disk.put
instance fc48 : FC Try.prog 48 := ⟨_, Try.func48, by kernel_rfl, rfl⟩   -- slices.Clone[[]int,int]
instance fc49 : FC Try.prog 49 := ⟨_, Try.func49, by kernel_rfl, rfl⟩   -- (*taquin/disk.Disk).write
instance fc50 : FC Try.prog 50 := ⟨_, Try.func50, by kernel_rfl, rfl⟩   -- (*taquin/taquinref03.Disk).comes
instance fc51 : FC Try.prog 51 := ⟨_, Try.func51, by kernel_rfl, rfl⟩   -- (*taquin/taquinref03.Disk).settle
instance fc52 : FC Try.prog 52 := ⟨_, Try.func52, by kernel_rfl, rfl⟩   -- (*taquin/taquinref03.Disk).survive
instance fc53 : FC Try.prog 53 := ⟨_, Try.func53, by kernel_rfl, rfl⟩   -- taquin/taquinref03.fits
instance fc54 : FC Try.prog 54 := ⟨_, Try.func54, by kernel_rfl, rfl⟩   -- (*taquin/taquinref03.Disk).add
instance fc56 : FC Try.prog 56 := ⟨_, Try.func56, by kernel_rfl, rfl⟩   -- slices.DeleteFunc[[]taquin/disk.sector,taquin/disk.sector]
instance fc57 : FC Try.prog 57 := ⟨_, Try.func57, by kernel_rfl, rfl⟩   -- (*taquin/disk.Disk).settle$1
instance fc58 : FC Try.prog 58 := ⟨_, Try.func58, by kernel_rfl, rfl⟩   -- maps.DeleteFunc[map[taquin/disk.sector]bool,taquin/disk.sector,bool]
instance fc59 : FC Try.prog 59 := ⟨_, Try.func59, by kernel_rfl, rfl⟩   -- (*taquin/disk.Disk).settle$2
instance fc60 : FC Try.prog 60 := ⟨_, Try.func60, by kernel_rfl, rfl⟩   -- (*taquin/taquinref03.Disk).set
instance fc61 : FC Try.prog 61 := ⟨_, Try.func61, by kernel_rfl, rfl⟩   -- taquin/taquinref03.Put
instance fc62 : FC Try.prog 62 := ⟨_, Try.func62, by kernel_rfl, rfl⟩   -- (*taquin/taquinref03.Disk).pending
instance fc63 : FC Try.prog 63 := ⟨_, Try.func63, by kernel_rfl, rfl⟩   -- slices.IndexFunc[[]taquin/disk.sector,taquin/disk.sector]
end Go.Proofs.Ytbonfpoingibhaa
