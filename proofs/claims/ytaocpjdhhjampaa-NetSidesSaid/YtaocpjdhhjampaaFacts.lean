import Derived.Test.YtaocpjdhhjampaaSxG
import Derived.Test.YtaocpjdhhjampaaProg
set_option linter.unusedVariables false
namespace Go.Proofs.Ytaocpjdhhjampaa
open Go.RowKit Go.Sx
theorem mixedT : Try.prog.follows .mixedOrders = true := by kernel_rfl
instance tl3 : TL Try.prog 3 false 1 := ⟨⟨_, Try.underlying3, rfl⟩, by kernel_rfl⟩   -- int
instance is3 : IsInt Try.prog 3 .i64 := ⟨Try.underlying3⟩
instance tl4 : TL Try.prog 4 false 1 := ⟨⟨_, Try.underlying4, rfl⟩, by kernel_rfl⟩   -- bool
instance is4 : IsBool Try.prog 4 := ⟨Try.underlying4⟩
instance tl9 : TL Try.prog 9 false 1 := ⟨⟨_, Try.underlying9, rfl⟩, by kernel_rfl⟩   -- string
instance is9 : IsStr Try.prog 9 := ⟨Try.underlying9⟩
instance tl22 : TL Try.prog 22 false 1 := ⟨⟨_, Try.underlying22, rfl⟩, by kernel_rfl⟩   -- []taquinlaw06.Op
instance is22 : IsSl Try.prog 22 30 := ⟨Try.underlying22⟩
instance tl23 : TL Try.prog 23 false 1 := ⟨⟨_, Try.underlying23, rfl⟩, by kernel_rfl⟩   -- []int
instance is23 : IsSl Try.prog 23 3 := ⟨Try.underlying23⟩
instance tl25 : TL Try.prog 25 false 1 := ⟨⟨_, Try.underlying25, rfl⟩, by kernel_rfl⟩   -- *net.Net
instance is25 : IsPtr Try.prog 25 56 := ⟨Try.underlying25⟩
instance tl28 : TL Try.prog 28 false 1 := ⟨⟨_, Try.underlying28, rfl⟩, by kernel_rfl⟩   -- []api.Packet
instance is28 : IsSl Try.prog 28 34 := ⟨Try.underlying28⟩
instance tl30 : TL Try.prog 30 true 4 := ⟨⟨_, Try.underlying30, rfl⟩, by kernel_rfl⟩   -- taquinlaw06.Op
instance tl31 : TL Try.prog 31 false 1 := ⟨⟨_, Try.underlying31, rfl⟩, by kernel_rfl⟩   -- api.Errno
instance is31 : IsInt Try.prog 31 .i64 := ⟨Try.underlying31⟩
instance tl34 : TL Try.prog 34 true 3 := ⟨⟨_, Try.underlying34, rfl⟩, by kernel_rfl⟩   -- api.Packet
instance tl41 : TL Try.prog 41 false 1 := ⟨⟨_, Try.underlying41, rfl⟩, by kernel_rfl⟩   -- uint
instance is41 : IsInt Try.prog 41 .u64 := ⟨Try.underlying41⟩
instance tl49 : TL Try.prog 49 false 1 := ⟨⟨_, Try.underlying49, rfl⟩, by kernel_rfl⟩   -- *taquinref06.Net
instance is49 : IsPtr Try.prog 49 51 := ⟨Try.underlying49⟩
instance tl51 : TL Try.prog 51 true 2 := ⟨⟨_, Try.underlying51, rfl⟩, by kernel_rfl⟩   -- taquinref06.Net
instance tl56 : TL Try.prog 56 true 2 := ⟨⟨_, Try.underlying56, rfl⟩, by kernel_rfl⟩   -- net.Net
instance fa30_0 : FA Try.prog 30 0 0 := ⟨_, _, Try.underlying30, rfl, rfl, 1, by decide, by kernel_rfl⟩   -- Do
instance fa30_1 : FA Try.prog 30 1 1 := ⟨_, _, Try.underlying30, rfl, rfl, 1, by decide, by kernel_rfl⟩   -- N
instance fa30_2 : FA Try.prog 30 2 2 := ⟨_, _, Try.underlying30, rfl, rfl, 1, by decide, by kernel_rfl⟩   -- To
instance fa30_3 : FA Try.prog 30 3 3 := ⟨_, _, Try.underlying30, rfl, rfl, 1, by decide, by kernel_rfl⟩   -- S
instance fa34_0 : FA Try.prog 34 0 0 := ⟨_, _, Try.underlying34, rfl, rfl, 1, by decide, by kernel_rfl⟩   -- From
instance fa34_1 : FA Try.prog 34 1 1 := ⟨_, _, Try.underlying34, rfl, rfl, 1, by decide, by kernel_rfl⟩   -- To
instance fa34_2 : FA Try.prog 34 2 2 := ⟨_, _, Try.underlying34, rfl, rfl, 1, by decide, by kernel_rfl⟩   -- Body
instance fa51_0 : FA Try.prog 51 0 0 := ⟨_, _, Try.underlying51, rfl, rfl, 1, by decide, by kernel_rfl⟩   -- L
instance fa51_1 : FA Try.prog 51 1 1 := ⟨_, _, Try.underlying51, rfl, rfl, 1, by decide, by kernel_rfl⟩   -- Sides
instance fa56_0 : FA Try.prog 56 0 0 := ⟨_, _, Try.underlying56, rfl, rfl, 1, by decide, by kernel_rfl⟩   -- flight
instance fa56_1 : FA Try.prog 56 1 1 := ⟨_, _, Try.underlying56, rfl, rfl, 1, by decide, by kernel_rfl⟩   -- split
instance zv3 : ZV Try.prog 3 [.int .i64 0] := ⟨(.int .i64 0), by kernel_rfl, rfl⟩
instance zv30 : ZV Try.prog 30 [.int .i64 0, .int .i64 0, .int .i64 0, .string ⟨#[]⟩] := ⟨(.agg #[.int .i64 0, .int .i64 0, .int .i64 0, .string ⟨#[]⟩]), by kernel_rfl, rfl⟩
instance zv34 : ZV Try.prog 34 [.int .i64 0, .int .i64 0, .string ⟨#[]⟩] := ⟨(.agg #[.int .i64 0, .int .i64 0, .string ⟨#[]⟩]), by kernel_rfl, rfl⟩
theorem bld34  (w : World) : (Instr.build 34 ([] : List (Nat × Value)).toArray).run Try.prog w = .ok (.agg ([.int .i64 0, .int .i64 0, .string ⟨#[]⟩] : List Value).toArray) w := by kernel_rfl
theorem bld34_0_1_2 (a0 : Int) (a1 : Int) (a2 : ByteArray) (w : World) : (Instr.build 34 ([(0, .int .i64 a0), (1, .int .i64 a1), (2, .string a2)] : List (Nat × Value)).toArray).run Try.prog w = .ok (.agg ([.int .i64 a0, .int .i64 a1, .string a2] : List Value).toArray) w := by kernel_rfl
theorem bld51  (w : World) : (Instr.build 51 ([] : List (Nat × Value)).toArray).run Try.prog w = .ok (.agg ([.slice none 0 0, .int .i64 0] : List Value).toArray) w := by kernel_rfl
theorem bld51_0_1 (a0 : Option Addr) (a0n a0c : Nat) (a1 : Int) (w : World) : (Instr.build 51 ([(0, .slice a0 a0n a0c), (1, .int .i64 a1)] : List (Nat × Value)).toArray).run Try.prog w = .ok (.agg ([.slice a0 a0n a0c, .int .i64 a1] : List Value).toArray) w := by kernel_rfl
theorem bld56  (w : World) : (Instr.build 56 ([] : List (Nat × Value)).toArray).run Try.prog w = .ok (.agg ([.slice none 0 0, .int .i64 0] : List Value).toArray) w := by kernel_rfl
theorem bld56_0_1 (a0 : Option Addr) (a0n a0c : Nat) (a1 : Int) (w : World) : (Instr.build 56 ([(0, .slice a0 a0n a0c), (1, .int .i64 a1)] : List (Nat × Value)).toArray).run Try.prog w = .ok (.agg ([.slice a0 a0n a0c, .int .i64 a1] : List Value).toArray) w := by kernel_rfl
instance fc3 : FC Try.prog 3 := ⟨_, Try.func3, by kernel_rfl, rfl⟩   -- taquin/taquinlaw06.NetOrders
instance fc4 : FC Try.prog 4 := ⟨_, Try.func4, by kernel_rfl, rfl⟩   -- taquin/taquinlaw06.NetSides
instance fc5 : FC Try.prog 5 := ⟨_, Try.func5, by kernel_rfl, rfl⟩   -- taquin/taquinlaw06.NetHonest
instance fc6 : FC Try.prog 6 := ⟨_, Try.func6, by kernel_rfl, rfl⟩   -- taquin/taquinlaw06.NetTells
instance fc7 : FC Try.prog 7 := ⟨_, Try.func7, by kernel_rfl, rfl⟩   -- taquin/taquinlaw06.small
instance fc8 : FC Try.prog 8 := ⟨_, Try.func8, by kernel_rfl, rfl⟩   -- taquin/net.New
instance fc9 : FC Try.prog 9 := ⟨_, Try.func9, by kernel_rfl, rfl⟩   -- taquin/taquinlaw06.few
instance fc10 : FC Try.prog 10 := ⟨_, Try.func10, by kernel_rfl, rfl⟩   -- (*taquin/net.Net).Send
instance fc11 : FC Try.prog 11 := ⟨_, Try.func11, by kernel_rfl, rfl⟩   -- (*taquin/net.Net).Deliver
instance fc12 : FC Try.prog 12 := ⟨_, Try.func12, by kernel_rfl, rfl⟩   -- taquin/taquinref06.Same
instance fc13 : FC Try.prog 13 := ⟨_, Try.func13, by kernel_rfl, rfl⟩   -- (*taquin/net.Net).List
instance fc14 : FC Try.prog 14 := ⟨_, Try.func14, by kernel_rfl, rfl⟩   -- (*taquin/net.Net).Split
instance fc15 : FC Try.prog 15 := ⟨_, Try.func15, by kernel_rfl, rfl⟩   -- (*taquin/net.Net).Hear
instance fc16 : FC Try.prog 16 := ⟨_, Try.func16, by kernel_rfl, rfl⟩   -- (*taquin/net.Net).Heal
instance fc17 : FC Try.prog 17 := ⟨_, Try.func17, by kernel_rfl, rfl⟩   -- (*taquin/net.Net).Count
instance fc18 : FC Try.prog 18 := ⟨_, Try.func18, by kernel_rfl, rfl⟩   -- (*taquin/net.Net).Double
instance fc19 : FC Try.prog 19 := ⟨_, Try.func19, by kernel_rfl, rfl⟩   -- taquin/taquinlaw06.do
instance fc20 : FC Try.prog 20 := ⟨_, Try.func20, by kernel_rfl, rfl⟩   -- taquin/taquinlaw06.count
instance fc21 : FC Try.prog 21 := ⟨_, Try.func21, by kernel_rfl, rfl⟩   -- (*taquin/net.Net).Copy
instance fc22 : FC Try.prog 22 := ⟨_, Try.func22, by kernel_rfl, rfl⟩   -- (*taquin/taquinref06.Net).Copy
instance fc23 : FC Try.prog 23 := ⟨_, Try.func23, by kernel_rfl, rfl⟩   -- taquin/taquinlaw06.model
instance fc24 : FC Try.prog 24 := ⟨_, Try.func24, by kernel_rfl, rfl⟩   -- (*taquin/taquinref06.Net).Hear
instance fc25 : FC Try.prog 25 := ⟨_, Try.func25, by kernel_rfl, rfl⟩   -- taquin/net.end
instance fc26 : FC Try.prog 26 := ⟨_, Try.func26, by kernel_rfl, rfl⟩   -- (*taquin/net.Net).take
instance fc27 : FC Try.prog 27 := ⟨_, Try.func27, by kernel_rfl, rfl⟩   -- slices.Clone[[]taquin/api.Packet,taquin/api.Packet]
instance fc28 : FC Try.prog 28 := ⟨_, Try.func28, by kernel_rfl, rfl⟩   -- (*taquin/net.Net).Drop
instance fc29 : FC Try.prog 29 := ⟨_, Try.func29, by kernel_rfl, rfl⟩   -- (*taquin/taquinref06.Net).Deliver
instance fc30 : FC Try.prog 30 := ⟨_, Try.func30, by kernel_rfl, rfl⟩   -- (*taquin/taquinref06.Net).Drop
instance fc31 : FC Try.prog 31 := ⟨_, Try.func31, by kernel_rfl, rfl⟩   -- (*taquin/taquinref06.Net).Double
instance fc32 : FC Try.prog 32 := ⟨_, Try.func32, by kernel_rfl, rfl⟩   -- (*taquin/taquinref06.Net).Split
instance fc33 : FC Try.prog 33 := ⟨_, Try.func33, by kernel_rfl, rfl⟩   -- (*taquin/taquinref06.Net).Send
instance fc34 : FC Try.prog 34 := ⟨_, Try.func34, by kernel_rfl, rfl⟩   -- (*taquin/taquinref06.Net).side
instance fc35 : FC Try.prog 35 := ⟨_, Try.func35, by kernel_rfl, rfl⟩   -- slices.Delete[[]taquin/api.Packet,taquin/api.Packet]
instance fc36 : FC Try.prog 36 := ⟨_, Try.func36, by kernel_rfl, rfl⟩   -- (*taquin/taquinref06.Net).remove
end Go.Proofs.Ytaocpjdhhjampaa
