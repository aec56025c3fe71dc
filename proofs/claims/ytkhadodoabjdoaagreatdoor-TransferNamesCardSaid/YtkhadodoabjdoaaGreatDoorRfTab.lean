/-
  The tables of the translation: types, functions, plans. Printed by wip/tools/mktab.py. No statement of the program is claimed here.
-/
import Derived.Test.YtkhadodoabjdoaaGreatDoorProg
import Derived.Test.YtkhadodoabjdoaaGreatDoorRfV
import Derived.KernelRfl
namespace Go.Rf
set_option maxRecDepth 100000
noncomputable def b3 : Code := match Go.Proofs.Tryz.f3.body with | some c => c | none => .skip
def pl3 : T Plan := (.n (.n (.n (.n (.n (.n .e (some ⟨[0, 1, 2, 3, 5, 6, 4, 7, 8, 9, 10, 11, 12, 13], [(1, 11), (6, 11), (10, 11)], [0, 1, 3, 7, 15, 7, 7, 71, 199, 487, 999, 2047, 4095, 8191]⟩) .e) none .e) none .e) none .e) none .e) none (.n (.n (.n (.n .e (some ⟨[0, 1, 2, 3, 4, 5, 6, 7, 9, 10, 14, 15, 8, 11, 16, 12, 17, 13, 18, 19, 20, 21, 22, 23, 24, 25, 26, 27, 28, 29, 30, 32, 33, 37, 38, 31, 34, 39, 35, 40, 36, 41, 42, 43, 44, 45], [(4, 19), (12, 19), (17, 19), (18, 19), (27, 42), (35, 42), (40, 42), (41, 42)], [0, 0, 3, 7, 15, 31, 63, 127, 255, 127, 127, 1663, 3711, 7807, 127, 127, 49279, 114815, 245887, 524287, 1048575, 2097151, 4194303, 8388607, 8388607, 33554431, 67108863, 134217727, 268435455, 536870911, 1073741823, 2147483647, 1073741823, 1073741823, 13958643711, 31138512895, 65498251263, 1073741823, 1073741823, 413390602239, 963146416127, 2062658043903, 4398046511103, 8796093022207, 17592186044415, 35184372088831]⟩) .e) none .e) none .e) none (.n (.n (.n (.n .e (some ⟨[0, 1, 2, 3, 5, 7, 4, 6, 8, 9, 10, 11, 12, 13, 14, 15, 17, 16, 18, 19, 20, 21, 23, 22, 24, 25, 26, 27, 28, 29, 32, 30, 33, 31, 34, 35, 36, 37, 38, 39], [(1, 18), (6, 18), (7, 18), (10, 18), (14, 18), (16, 18), (17, 18), (23, 40), (25, 40), (31, 40), (35, 40)], [0, 1, 3, 7, 15, 7, 39, 7, 231, 487, 999, 2047, 4095, 8191, 16383, 16383, 49151, 16383, 262143, 524287, 1048575, 2097151, 4194303, 2097151, 10485759, 27262975, 67108863, 134217727, 268435455, 536870911, 1073741823, 2147483647, 536870911, 4831838207, 13421772799, 30601641983, 64961380351, 137438953471, 274877906943, 549755813887]⟩) .e) none .e) none .e) none (.n (.n (.n .e (some ⟨[0, 2, 6, 1, 3, 4, 5, 7, 8, 9, 10, 11, 13, 17, 12, 14, 15, 16, 18, 19], [(2, 7), (3, 7), (3, 18), (6, 7), (6, 18), (10, 18), (13, 18), (14, 18), (17, 18)], [0, 1, 0, 7, 15, 31, 0, 64, 255, 511, 1023, 1023, 3071, 1023, 15359, 31743, 64511, 1023, 262143, 524287]⟩) .e) (some ⟨[0, 2, 5, 1, 6, 3, 4, 7], [(3, 8), (4, 8), (6, 8)], [0, 1, 0, 7, 15, 0, 32, 127]⟩) .e) none .e))))
noncomputable def fi3 : FI := ⟨298, [(.tmp 8)], b3, pl3.get⟩
noncomputable def b4 : Code := match Go.Proofs.Tryz.f4.body with | some c => c | none => .skip
def pl4 : T Plan := (.n (.n (.n (.n .e (some ⟨[0, 1, 2, 3, 4, 5, 6, 7, 10, 12, 8, 11, 9, 13, 14, 15, 16, 17], [(10, 18), (11, 18), (15, 18)], [0, 1, 3, 7, 15, 31, 63, 127, 255, 511, 127, 1151, 127, 7295, 15487, 31871, 65535, 131071]⟩) .e) none .e) none .e) none (.n (.n .e none (.n (.n .e (some ⟨[0, 1, 2, 4, 8, 10, 3, 9, 5, 11, 6, 12, 7, 13, 14, 15, 16, 18, 22, 24, 17, 23, 19, 25, 20, 26, 21, 27, 28, 29, 30, 31], [(6, 28), (7, 28), (12, 28), (13, 28), (20, 28), (21, 28), (26, 28), (27, 28)], [0, 1, 3, 7, 3, 31, 63, 127, 3, 259, 3, 1795, 3843, 7939, 16383, 32767, 65535, 131071, 65535, 524287, 1048575, 2097151, 65535, 4259839, 65535, 29425663, 62980095, 130088959, 268435455, 536870911, 1073741823, 2147483647]⟩) .e) none .e)) none (.n .e none (.n .e none (.n .e (some ⟨[0, 1, 2, 4, 7, 9, 3, 8, 5, 10, 6, 11, 12, 13, 14], [(6, 15), (7, 15), (10, 15), (11, 15)], [0, 1, 3, 7, 3, 31, 63, 3, 131, 3, 899, 1923, 4095, 8191, 16383]⟩) .e)))))
noncomputable def fi4 : FI := ⟨254, [(.tmp 8)], b4, pl4.get⟩
noncomputable def b5 : Code := match Go.Proofs.Tryz.f5.body with | some c => c | none => .skip
def pl5 : T Plan := (.n .e none (.n (.n (.n .e none (.n .e (some ⟨[0, 5, 1, 2, 3, 4, 6, 7, 8, 9, 11, 10, 12, 13, 14, 15, 16, 18, 17, 19, 20, 21, 22, 23, 25, 24, 26, 27, 28, 29, 30, 32, 31, 33, 34, 35, 36], [(1, 6), (2, 6), (2, 13), (5, 6), (5, 13), (11, 13), (12, 13), (18, 20), (19, 20), (25, 27), (26, 27), (32, 37), (33, 37)], [0, 1, 3, 7, 15, 0, 32, 127, 255, 511, 1023, 511, 2559, 8191, 16383, 32767, 65535, 131071, 65535, 327679, 1048575, 2097151, 4194303, 8388607, 16777215, 8388607, 41943039, 134217727, 268435455, 536870911, 1073741823, 2147483647, 1073741823, 5368709119, 17179869183, 34359738367, 68719476735]⟩) .e)) none .e) none .e))
noncomputable def fi5 : FI := ⟨133, [(.tmp 4)], b5, pl5.get⟩
noncomputable def b6 : Code := match Go.Proofs.Tryz.f6.body with | some c => c | none => .skip
def pl6 : T Plan := (.n (.n .e none (.n .e (some ⟨[0, 1, 7, 2, 3, 4, 5, 6, 8, 9], [(0, 3), (0, 4), (1, 3), (1, 4), (2, 3), (2, 4), (2, 8)], [0, 0, 0, 7, 15, 31, 31, 0, 191, 511]⟩) .e)) none .e)
noncomputable def fi6 : FI := ⟨100, [(.tmp 0)], b6, pl6.get⟩
noncomputable def b7 : Code := match Go.Proofs.Tryz.f7.body with | some c => c | none => .skip
def pl7 : T Plan := (.n (.n (.n (.n .e (some ⟨[0, 1, 2, 3, 4, 5, 6, 7, 8, 9, 10, 12, 11, 13, 14, 15], [(0, 2), (1, 2), (10, 12), (11, 12), (11, 13)], [0, 0, 3, 7, 15, 31, 31, 127, 255, 511, 1023, 2047, 1023, 8191, 16383, 32767]⟩) .e) none .e) none .e) none .e)
noncomputable def fi7 : FI := ⟨185, [(.tmp 14)], b7, pl7.get⟩
noncomputable def b8 : Code := match Go.Proofs.Tryz.f8.body with | some c => c | none => .skip
noncomputable def fi8 : FI := ⟨98, [(.tmp 0)], b8, fun _ => none⟩
noncomputable def b9 : Code := match Go.Proofs.Tryz.f9.body with | some c => c | none => .skip
noncomputable def fi9 : FI := ⟨57, [(.tmp 4)], b9, fun _ => none⟩
noncomputable def b10 : Code := match Go.Proofs.Tryz.f10.body with | some c => c | none => .skip
noncomputable def fi10 : FI := ⟨24, [(.tmp 4)], b10, fun _ => none⟩
noncomputable def b11 : Code := match Go.Proofs.Tryz.f11.body with | some c => c | none => .skip
noncomputable def fi11 : FI := ⟨42, [(.tmp 4)], b11, fun _ => none⟩
noncomputable def b12 : Code := match Go.Proofs.Tryz.f12.body with | some c => c | none => .skip
noncomputable def fi12 : FI := ⟨17, [(.tmp 4)], b12, fun _ => none⟩
noncomputable def b13 : Code := match Go.Proofs.Tryz.f13.body with | some c => c | none => .skip
noncomputable def fi13 : FI := ⟨54, [(.tmp 6)], b13, fun _ => none⟩
noncomputable def b14 : Code := match Go.Proofs.Tryz.f14.body with | some c => c | none => .skip
noncomputable def fi14 : FI := ⟨16, [(.tmp 2)], b14, fun _ => none⟩
noncomputable def b15 : Code := match Go.Proofs.Tryz.f15.body with | some c => c | none => .skip
def pl15 : T Plan := (.n (.n .e none (.n (.n .e (some ⟨[0, 1, 2, 3, 4, 5, 6, 7, 8, 9, 10], [(0, 2), (0, 3), (1, 2)], [0, 0, 2, 7, 15, 31, 31, 31, 63, 383, 1023]⟩) .e) (some ⟨[0, 1, 2, 3, 6, 8, 4, 7, 5, 9, 10, 11, 12, 13], [(6, 14), (7, 14), (11, 14)], [0, 1, 3, 7, 15, 31, 7, 71, 7, 455, 967, 1991, 4095, 8191]⟩) .e)) none .e)
noncomputable def fi15 : FI := ⟨103, [(.cell 6 64), (.tmp 7)], b15, pl15.get⟩
noncomputable def b16 : Code := match Go.Proofs.Tryz.f16.body with | some c => c | none => .skip
def pl16 : T Plan := (.n (.n (.n (.n (.n .e (some ⟨[0, 1, 5, 10, 2, 6, 3, 7, 4, 8, 9, 11, 12, 13, 14, 15], [(8, 15), (9, 15)], [0, 0, 2, 6, 14, 0, 32, 96, 224, 480, 0, 2016, 4094, 8191, 16383, 32767]⟩) .e) none .e) none .e) none (.n (.n (.n (.n .e (some ⟨[0, 2, 5, 1, 3, 6, 4, 7, 8, 9, 10, 11, 12, 13], [(3, 8), (6, 8), (7, 8)], [0, 1, 0, 4, 12, 0, 32, 96, 255, 511, 1023, 1023, 2047, 8191]⟩) .e) none (.n .e (some ⟨[0, 2, 4, 6, 7, 9, 1, 3, 5, 8, 10, 11, 12, 13, 14, 15, 16, 17], [(6, 12), (6, 15), (7, 12), (7, 15), (8, 12), (8, 15), (9, 12), (10, 12), (14, 15)], [0, 1, 0, 4, 0, 16, 0, 0, 128, 0, 512, 1920, 4032, 8188, 16380, 32767, 65535, 131071]⟩) .e)) none .e) none .e)) none (.n (.n (.n .e none (.n (.n .e (some ⟨[0, 3, 1, 4, 2, 5, 6, 7, 8, 9], [(3, 5), (4, 5)], [0, 1, 3, 0, 8, 31, 63, 127, 127, 255]⟩) .e) none .e)) (some ⟨[0, 2, 8, 1, 3, 4, 5, 6, 7, 9], [(2, 9), (3, 9), (6, 9), (8, 9)], [0, 1, 0, 4, 12, 28, 63, 127, 0, 511]⟩) (.n .e none (.n .e (some ⟨[0, 1, 2, 9, 3, 4, 5, 6, 7, 8, 10, 11], [(0, 6), (1, 6), (3, 6), (3, 10), (5, 6)], [0, 0, 0, 4, 12, 31, 63, 127, 127, 0, 767, 2047]⟩) .e))) none (.n .e none (.n (.n (.n .e (some ⟨[0, 2, 1, 3, 4, 5, 6, 7, 8, 9], [(2, 5), (4, 5)], [0, 1, 0, 4, 12, 31, 63, 127, 127, 255]⟩) .e) none .e) (some ⟨[0, 4, 9, 1, 5, 2, 6, 3, 7, 8, 10, 11, 12, 13], [(7, 12), (8, 12)], [0, 1, 3, 7, 0, 16, 48, 112, 240, 0, 1008, 2047, 4095, 8191]⟩) .e))))
noncomputable def fi16 : FI := ⟨332, [(.cell 6 39), (.tmp 7)], b16, pl16.get⟩
noncomputable def b17 : Code := match Go.Proofs.Tryz.f17.body with | some c => c | none => .skip
noncomputable def fi17 : FI := ⟨39, [(.tmp 6)], b17, fun _ => none⟩
noncomputable def b18 : Code := match Go.Proofs.Tryz.f18.body with | some c => c | none => .skip
noncomputable def fi18 : FI := ⟨17, [(.tmp 2)], b18, fun _ => none⟩
noncomputable def b19 : Code := match Go.Proofs.Tryz.f19.body with | some c => c | none => .skip
noncomputable def fi19 : FI := ⟨20, [(.tmp 4)], b19, fun _ => none⟩
noncomputable def b20 : Code := match Go.Proofs.Tryz.f20.body with | some c => c | none => .skip
noncomputable def fi20 : FI := ⟨17, [(.tmp 4)], b20, fun _ => none⟩
noncomputable def b21 : Code := match Go.Proofs.Tryz.f21.body with | some c => c | none => .skip
noncomputable def fi21 : FI := ⟨16, [(.tmp 2)], b21, fun _ => none⟩
noncomputable def b22 : Code := match Go.Proofs.Tryz.f22.body with | some c => c | none => .skip
noncomputable def fi22 : FI := ⟨11, [(.cell 4 36), (.tmp 5)], b22, fun _ => none⟩
noncomputable def b23 : Code := match Go.Proofs.Tryz.f23.body with | some c => c | none => .skip
noncomputable def fi23 : FI := ⟨34, [(.tmp 4), (.tmp 5)], b23, fun _ => none⟩
noncomputable def b24 : Code := match Go.Proofs.Tryz.f24.body with | some c => c | none => .skip
noncomputable def fi24 : FI := ⟨27, [(.tmp 4)], b24, fun _ => none⟩
noncomputable def b25 : Code := match Go.Proofs.Tryz.f25.body with | some c => c | none => .skip
noncomputable def fi25 : FI := ⟨47, [(.tmp 4)], b25, fun _ => none⟩
noncomputable def b26 : Code := match Go.Proofs.Tryz.f26.body with | some c => c | none => .skip
def pl26 : T Plan := (.n .e none (.n (.n (.n .e (some ⟨[0, 1, 2, 3, 7, 8, 4, 9, 5, 10, 6, 11, 12, 13, 14, 15, 19, 20, 16, 21, 17, 22, 18, 23, 24, 25, 26, 27, 28, 32, 33, 29, 34, 30, 35, 31, 36, 37, 38, 39, 40], [(10, 37), (11, 37), (22, 37), (23, 37), (35, 37), (36, 37)], [0, 1, 3, 3, 15, 31, 63, 3, 3, 387, 899, 1923, 4095, 8191, 16383, 16383, 65535, 131071, 262143, 16383, 16383, 1589247, 3686399, 7880703, 16777215, 33554431, 67108863, 134217727, 134217727, 536870911, 1073741823, 2147483647, 134217727, 134217727, 13019119615, 30198988799, 64558727167, 137438953471, 274877906943, 549755813887, 1099511627775]⟩) .e) none .e) none .e))
noncomputable def fi26 : FI := ⟨62, [(.tmp 4)], b26, pl26.get⟩
noncomputable def b27 : Code := match Go.Proofs.Tryz.f27.body with | some c => c | none => .skip
noncomputable def fi27 : FI := ⟨39, [(.tmp 2)], b27, fun _ => none⟩
noncomputable def b28 : Code := match Go.Proofs.Tryz.f28.body with | some c => c | none => .skip
def pl28 : T Plan := (.n .e none (.n .e (some ⟨[0, 3, 6, 9, 11, 13, 15, 1, 4, 7, 10, 12, 14, 16, 17, 2, 5, 8, 18, 19], [(7, 15), (8, 15), (8, 16), (9, 15), (9, 16), (9, 17), (10, 15), (10, 16), (10, 17), (10, 19), (11, 15), (11, 16), (11, 17), (11, 19), (12, 15), (12, 16), (12, 17), (12, 19), (13, 15), (13, 16), (13, 17), (13, 19)], [0, 1, 3, 0, 8, 31, 0, 64, 255, 0, 512, 0, 2048, 0, 8192, 0, 32768, 130560, 262143, 524287]⟩) .e))
noncomputable def fi28 : FI := ⟨31, [(.cell 2 36)], b28, pl28.get⟩
noncomputable def b29 : Code := match Go.Proofs.Tryz.f29.body with | some c => c | none => .skip
def pl29 : T Plan := (.n .e none (.n .e none (.n .e (some ⟨[0, 1, 4, 5, 2, 6, 3, 7, 8], [(6, 9), (7, 9)], [0, 0, 3, 7, 0, 0, 48, 112, 255]⟩) .e)))
noncomputable def fi29 : FI := ⟨26, [(.tmp 4)], b29, pl29.get⟩
noncomputable def b30 : Code := match Go.Proofs.Tryz.f30.body with | some c => c | none => .skip
def pl30 : T Plan := (.n (.n .e (some ⟨[0, 1, 3, 5, 7, 2, 4, 6, 8], [(0, 8), (3, 8), (4, 8), (5, 8), (6, 8)], [0, 0, 3, 0, 8, 0, 63, 0, 255]⟩) .e) none (.n (.n .e (some ⟨[0, 1, 2, 3], [(0, 2), (1, 2), (1, 3)], [0, 0, 1, 7]⟩) .e) none .e))
noncomputable def fi30 : FI := ⟨25, [(.cell 4 29), (.cell 5 36)], b30, pl30.get⟩
noncomputable def b31 : Code := match Go.Proofs.Tryz.f31.body with | some c => c | none => .skip
def pl31 : T Plan := (.n .e none (.n (.n .e (some ⟨[0, 3, 5, 7, 1, 4, 6, 8, 2, 9, 10, 11, 12, 13, 14, 15, 16], [(4, 8), (5, 8), (5, 10), (5, 12), (6, 8), (6, 10), (6, 12), (6, 14), (7, 8), (7, 10), (7, 12), (7, 14), (7, 16)], [0, 1, 3, 0, 8, 0, 32, 0, 128, 7, 519, 1567, 3615, 7807, 15999, 32767, 65535]⟩) .e) none .e))
noncomputable def fi31 : FI := ⟨44, [(.cell 6 56), (.tmp 7)], b31, pl31.get⟩
noncomputable def b32 : Code := match Go.Proofs.Tryz.f32.body with | some c => c | none => .skip
noncomputable def fi32 : FI := ⟨4, [(.cell 0 62)], b32, fun _ => none⟩
noncomputable def b33 : Code := match Go.Proofs.Tryz.f33.body with | some c => c | none => .skip
noncomputable def fi33 : FI := ⟨38, [(.cell 6 62), (.tmp 7)], b33, fun _ => none⟩
noncomputable def b34 : Code := match Go.Proofs.Tryz.f34.body with | some c => c | none => .skip
def pl34 : T Plan := (.n (.n (.n .e none (.n .e (some ⟨[0, 2, 4, 8, 1, 3, 5, 9, 6, 10, 11, 7, 12, 13, 14], [(4, 15), (5, 15), (6, 15), (7, 15)], [0, 1, 0, 4, 0, 16, 60, 124, 0, 256, 768, 3, 2303, 8191, 16383]⟩) .e)) none .e) none (.n (.n (.n .e (some ⟨[0, 2, 4, 1, 3, 5, 6, 7, 8, 9, 10], [(3, 11), (4, 11), (5, 11)], [0, 1, 0, 4, 0, 16, 48, 3, 143, 511, 1023]⟩) .e) none .e) none .e))
noncomputable def fi34 : FI := ⟨50, [(.tmp 4), (.tmp 5), (.tmp 6), (.tmp 7)], b34, pl34.get⟩
noncomputable def b35 : Code := match Go.Proofs.Tryz.f35.body with | some c => c | none => .skip
def pl35 : T Plan := (.n .e none (.n .e none (.n .e (some ⟨[0, 1, 4, 5, 2, 6, 3, 7, 8], [(6, 9), (7, 9)], [0, 0, 3, 7, 0, 0, 48, 112, 255]⟩) .e)))
noncomputable def fi35 : FI := ⟨26, [(.tmp 4)], b35, pl35.get⟩
noncomputable def b36 : Code := match Go.Proofs.Tryz.f36.body with | some c => c | none => .skip
def pl36 : T Plan := (.n .e none (.n (.n .e (some ⟨[0, 1, 2, 3, 6, 8, 4, 7, 5, 9, 10, 11, 12, 13], [(6, 14), (7, 14), (11, 14)], [0, 1, 3, 7, 15, 31, 7, 71, 7, 455, 967, 1991, 4095, 8191]⟩) .e) none .e))
noncomputable def fi36 : FI := ⟨44, [(.cell 6 64), (.tmp 7)], b36, pl36.get⟩
noncomputable def b37 : Code := match Go.Proofs.Tryz.f37.body with | some c => c | none => .skip
def pl37 : T Plan := (.n .e none (.n .e none (.n .e (some ⟨[0, 2, 5, 7, 1, 6, 3, 8, 4, 9, 10, 11], [(4, 10), (5, 10), (8, 10), (9, 10)], [0, 1, 0, 7, 15, 0, 32, 0, 224, 480, 1023, 2047]⟩) .e)))
noncomputable def fi37 : FI := ⟨100, [(.tmp 4)], b37, pl37.get⟩
noncomputable def b38 : Code := match Go.Proofs.Tryz.f38.body with | some c => c | none => .skip
noncomputable def fi38 : FI := ⟨17, [(.tmp 2)], b38, fun _ => none⟩
noncomputable def b39 : Code := match Go.Proofs.Tryz.f39.body with | some c => c | none => .skip
def pl39 : T Plan := (.n (.n .e none (.n .e (some ⟨[0, 2, 4, 1, 3, 5, 6, 7, 8, 9, 10, 11], [(3, 7), (4, 7), (4, 9), (5, 7), (5, 9), (5, 11)], [0, 1, 0, 4, 0, 16, 3, 67, 207, 463, 1023, 2047]⟩) .e)) none .e)
noncomputable def fi39 : FI := ⟨45, [(.cell 6 56), (.tmp 7)], b39, pl39.get⟩
noncomputable def b40 : Code := match Go.Proofs.Tryz.f40.body with | some c => c | none => .skip
noncomputable def fi40 : FI := ⟨17, [(.tmp 4)], b40, fun _ => none⟩
noncomputable def b41 : Code := match Go.Proofs.Tryz.f41.body with | some c => c | none => .skip
def pl41 : T Plan := (.n (.n (.n (.n .e (some ⟨[0, 1, 3, 2, 4, 5, 6, 7], [(0, 6), (3, 6), (5, 6)], [0, 0, 2, 0, 14, 30, 63, 127]⟩) .e) none .e) none .e) none .e)
noncomputable def fi41 : FI := ⟨44, [(.cell 6 62), (.tmp 7)], b41, pl41.get⟩
noncomputable def b42 : Code := match Go.Proofs.Tryz.f42.body with | some c => c | none => .skip
def pl42 : T Plan := (.n .e none (.n .e none (.n (.n .e (some ⟨[0, 2, 3, 5, 8, 1, 4, 6, 7, 9, 10, 11], [(4, 9), (5, 9), (5, 11), (6, 9), (8, 9)], [0, 1, 0, 0, 8, 0, 56, 120, 0, 504, 1023, 2047]⟩) .e) none .e)))
noncomputable def fi42 : FI := ⟨46, [(.cell 8 36), (.tmp 9)], b42, pl42.get⟩
noncomputable def b43 : Code := match Go.Proofs.Tryz.f43.body with | some c => c | none => .skip
def pl43 : T Plan := (.n .e none (.n .e none (.n (.n .e (some ⟨[0, 2, 3, 5, 8, 1, 4, 6, 7, 9, 10, 11], [(4, 9), (5, 9), (5, 11), (6, 9), (8, 9)], [0, 1, 0, 0, 8, 0, 56, 120, 0, 504, 1023, 2047]⟩) .e) none .e)))
noncomputable def fi43 : FI := ⟨55, [(.cell 8 36), (.tmp 9)], b43, pl43.get⟩
noncomputable def b44 : Code := match Go.Proofs.Tryz.f44.body with | some c => c | none => .skip
def pl44 : T Plan := (.n (.n (.n (.n .e (some ⟨[0, 2, 4, 1, 3, 5, 6, 7, 8, 9, 10], [(3, 11), (4, 11), (5, 11)], [0, 1, 0, 4, 0, 16, 48, 3, 143, 511, 1023]⟩) .e) none .e) none .e) none (.n .e none (.n (.n .e (some ⟨[0, 2, 4, 8, 1, 3, 5, 9, 6, 10, 11, 7, 12, 13, 14], [(4, 15), (5, 15), (6, 15), (7, 15)], [0, 1, 0, 4, 0, 16, 60, 124, 0, 256, 768, 3, 2303, 8191, 16383]⟩) .e) none .e)))
noncomputable def fi44 : FI := ⟨54, [(.tmp 4), (.tmp 5), (.tmp 6), (.tmp 7)], b44, pl44.get⟩
noncomputable def b45 : Code := match Go.Proofs.Tryz.f45.body with | some c => c | none => .skip
noncomputable def fi45 : FI := ⟨45, [(.tmp 4)], b45, fun _ => none⟩
noncomputable def b46 : Code := match Go.Proofs.Tryz.f46.body with | some c => c | none => .skip
noncomputable def fi46 : FI := ⟨16, [(.cell 4 62)], b46, fun _ => none⟩
noncomputable def b47 : Code := match Go.Proofs.Tryz.f47.body with | some c => c | none => .skip
def pl47 : T Plan := (.n (.n .e none (.n .e (some ⟨[0, 3, 4, 5, 1, 2, 6], [(0, 4), (2, 4), (2, 7)], [0, 1, 3, 0, 8, 24, 63]⟩) .e)) none .e)
noncomputable def fi47 : FI := ⟨15, [(.tmp 2)], b47, pl47.get⟩
noncomputable def b48 : Code := match Go.Proofs.Tryz.f48.body with | some c => c | none => .skip
def pl48 : T Plan := (.n .e none (.n (.n (.n .e (some ⟨[0, 1, 2, 3, 4, 6, 7, 5, 8, 9, 10, 12, 11, 13, 14, 15, 16, 17], [(1, 7), (4, 7), (6, 7), (6, 13), (11, 13), (12, 13), (12, 18)], [0, 1, 3, 7, 15, 31, 15, 79, 255, 511, 1023, 2047, 1023, 5119, 16383, 32767, 65535, 131071]⟩) .e) none .e) none (.n .e (some ⟨[0, 1, 3, 6, 2, 7, 4, 5, 8, 9], [(0, 8), (4, 8), (7, 8)], [0, 0, 2, 0, 14, 30, 0, 64, 255, 511]⟩) .e)))
noncomputable def fi48 : FI := ⟨83, [(.tmp 4)], b48, pl48.get⟩
noncomputable def b49 : Code := match Go.Proofs.Tryz.f49.body with | some c => c | none => .skip
def pl49 : T Plan := (.n .e none (.n .e none (.n .e (some ⟨[0, 1, 4, 5, 2, 6, 3, 7, 8, 9], [(6, 8), (7, 8)], [0, 0, 3, 7, 0, 0, 48, 112, 255, 511]⟩) .e)))
noncomputable def fi49 : FI := ⟨27, [(.tmp 4)], b49, pl49.get⟩
noncomputable def b50 : Code := match Go.Proofs.Tryz.f50.body with | some c => c | none => .skip
noncomputable def fi50 : FI := ⟨36, [(.tmp 6)], b50, fun _ => none⟩
noncomputable def b51 : Code := match Go.Proofs.Tryz.f51.body with | some c => c | none => .skip
noncomputable def fi51 : FI := ⟨70, [(.tmp 4)], b51, fun _ => none⟩
noncomputable def b52 : Code := match Go.Proofs.Tryz.f52.body with | some c => c | none => .skip
noncomputable def fi52 : FI := ⟨39, [(.tmp 4), (.tmp 5)], b52, fun _ => none⟩
noncomputable def b53 : Code := match Go.Proofs.Tryz.f53.body with | some c => c | none => .skip
noncomputable def fi53 : FI := ⟨11, [], b53, fun _ => none⟩
noncomputable def b54 : Code := match Go.Proofs.Tryz.f54.body with | some c => c | none => .skip
noncomputable def fi54 : FI := ⟨14, [], b54, fun _ => none⟩
noncomputable def b55 : Code := match Go.Proofs.Tryz.f55.body with | some c => c | none => .skip
noncomputable def fi55 : FI := ⟨10, [(.tmp 4)], b55, fun _ => none⟩
noncomputable def b56 : Code := match Go.Proofs.Tryz.f56.body with | some c => c | none => .skip
noncomputable def fi56 : FI := ⟨11, [], b56, fun _ => none⟩
noncomputable def b57 : Code := match Go.Proofs.Tryz.f57.body with | some c => c | none => .skip
def pl57 : T Plan := (.n (.n (.n .e none (.n .e (some ⟨[0, 1, 4, 5, 2, 6, 3, 7, 8, 9], [(6, 10), (8, 10)], [0, 0, 3, 7, 0, 0, 32, 112, 240, 511]⟩) .e)) none .e) none (.n .e none (.n .e (some ⟨[0, 1, 4, 5, 2, 6, 3, 7, 8, 9], [(6, 10), (8, 10)], [0, 0, 3, 7, 0, 0, 32, 112, 240, 511]⟩) .e)))
noncomputable def fi57 : FI := ⟨61, [(.tmp 2)], b57, pl57.get⟩
noncomputable def b58 : Code := match Go.Proofs.Tryz.f58.body with | some c => c | none => .skip
def pl58 : T Plan := (.n (.n .e none (.n (.n .e (some ⟨[0, 1, 2, 3, 4, 5], [(2, 6)], [0, 0, 2, 1, 15, 31]⟩) .e) none .e)) none .e)
noncomputable def fi58 : FI := ⟨34, [(.tmp 4), (.tmp 5), (.tmp 6)], b58, pl58.get⟩
noncomputable def b59 : Code := match Go.Proofs.Tryz.f59.body with | some c => c | none => .skip
noncomputable def fi59 : FI := ⟨22, [(.tmp 2)], b59, fun _ => none⟩
noncomputable def b60 : Code := match Go.Proofs.Tryz.f60.body with | some c => c | none => .skip
def pl60 : T Plan := (.n (.n (.n (.n .e (some ⟨[0, 1, 2, 5, 3, 4, 6, 7], [(5, 6)], [0, 0, 2, 6, 14, 1, 63, 127]⟩) .e) (some ⟨[0, 4, 1, 2, 3, 5, 6], [(4, 5)], [0, 1, 3, 7, 0, 31, 63]⟩) .e) none .e) none .e)
noncomputable def fi60 : FI := ⟨62, [(.tmp 4), (.cell 5 36), (.tmp 6)], b60, pl60.get⟩
noncomputable def b61 : Code := match Go.Proofs.Tryz.f61.body with | some c => c | none => .skip
def pl61 : T Plan := (.n (.n .e none (.n (.n .e none (.n .e (some ⟨[0, 1, 5, 2, 6, 3, 7, 4, 8, 9, 10, 11, 12, 13, 14], [(7, 10), (9, 10)], [0, 0, 2, 6, 14, 0, 32, 96, 224, 480, 1022, 2047, 4095, 8191, 16383]⟩) .e)) none .e)) none .e)
noncomputable def fi61 : FI := ⟨105, [], b61, pl61.get⟩
noncomputable def b62 : Code := match Go.Proofs.Tryz.f62.body with | some c => c | none => .skip
noncomputable def fi62 : FI := ⟨16, [], b62, fun _ => none⟩
noncomputable def b63 : Code := match Go.Proofs.Tryz.f63.body with | some c => c | none => .skip
def pl63 : T Plan := (.n .e (some ⟨[0, 1, 6, 7, 2, 8, 3, 9, 4, 10, 5, 11, 12, 13, 14, 15, 16, 17, 18], [(9, 11), (10, 11), (10, 14), (13, 14)], [0, 0, 2, 6, 14, 30, 0, 0, 128, 384, 896, 1920, 4032, 8128, 16382, 32767, 65535, 131071, 262143]⟩) .e)
noncomputable def fi63 : FI := ⟨22, [], b63, pl63.get⟩
noncomputable def b64 : Code := match Go.Proofs.Tryz.f64.body with | some c => c | none => .skip
def pl64 : T Plan := (.n .e none (.n .e none (.n .e (some ⟨[0, 2, 3, 5, 6, 8, 13, 15, 1, 4, 7, 14, 9, 16, 10, 17, 11, 18, 12, 19, 20, 21, 22, 23, 24, 25], [(8, 18), (8, 19), (8, 22), (9, 18), (9, 19), (9, 22), (9, 25), (10, 18), (11, 18), (11, 19), (16, 18), (17, 18), (17, 19)], [0, 1, 0, 0, 8, 0, 0, 64, 0, 448, 960, 1984, 4032, 0, 8192, 0, 57344, 122880, 253952, 524224, 1048519, 2097095, 4194247, 8388607, 16777215, 33554431]⟩) .e)))
noncomputable def fi64 : FI := ⟨45, [(.cell 2 39)], b64, pl64.get⟩
noncomputable def b65 : Code := match Go.Proofs.Tryz.f65.body with | some c => c | none => .skip
noncomputable def fi65 : FI := ⟨44, [(.tmp 4), (.tmp 5), (.tmp 6)], b65, fun _ => none⟩
noncomputable def b66 : Code := match Go.Proofs.Tryz.f66.body with | some c => c | none => .skip
def pl66 : T Plan := (.n .e none (.n .e (some ⟨[0, 1, 2, 3, 4, 5, 6], [(0, 3), (0, 5), (1, 3), (4, 5), (4, 7)], [0, 0, 0, 6, 14, 15, 63]⟩) .e))
noncomputable def fi66 : FI := ⟨13, [(.cell 4 39), (.tmp 5)], b66, pl66.get⟩
noncomputable def b67 : Code := match Go.Proofs.Tryz.f67.body with | some c => c | none => .skip
noncomputable def fi67 : FI := ⟨6, [(.tmp 2)], b67, fun _ => none⟩
noncomputable def b68 : Code := match Go.Proofs.Tryz.f68.body with | some c => c | none => .skip
def pl68 : T Plan := (.n (.n .e none (.n .e (some ⟨[0, 2, 4, 1, 3, 5, 6, 7, 8, 9, 10, 11], [(3, 7), (4, 7), (4, 9), (5, 7), (5, 9), (5, 11)], [0, 1, 0, 4, 0, 16, 3, 67, 207, 463, 1023, 2047]⟩) .e)) none (.n (.n .e (some ⟨[0, 1, 3, 2, 4, 5, 6, 7, 8], [(2, 4), (3, 4), (3, 7), (6, 7)], [0, 0, 2, 0, 8, 30, 62, 127, 255]⟩) .e) none .e))
noncomputable def fi68 : FI := ⟨68, [(.cell 6 39), (.tmp 7)], b68, pl68.get⟩
noncomputable def b69 : Code := match Go.Proofs.Tryz.f69.body with | some c => c | none => .skip
def pl69 : T Plan := (.n (.n (.n .e (some ⟨[0, 1, 2, 3, 4, 5, 6, 7, 8, 9], [(0, 5), (0, 7), (0, 8), (2, 5), (4, 5), (6, 7)], [0, 0, 0, 0, 8, 28, 60, 126, 255, 511]⟩) .e) (some ⟨[0, 2, 3, 1, 4], [(0, 3), (2, 3), (2, 5)], [0, 1, 0, 4, 15]⟩) .e) none (.n (.n .e (some ⟨[0, 2, 1, 3, 4, 5, 6], [(1, 3), (2, 3), (2, 6)], [0, 1, 0, 4, 15, 31, 63]⟩) .e) none .e))
noncomputable def fi69 : FI := ⟨30, [(.cell 6 39), (.tmp 7)], b69, pl69.get⟩
noncomputable def b70 : Code := match Go.Proofs.Tryz.f70.body with | some c => c | none => .skip
noncomputable def fi70 : FI := ⟨134, [(.tmp 6), (.tmp 7)], b70, fun _ => none⟩
noncomputable def b71 : Code := match Go.Proofs.Tryz.f71.body with | some c => c | none => .skip
noncomputable def fi71 : FI := ⟨20, [(.tmp 4), (.tmp 5)], b71, fun _ => none⟩
noncomputable def b72 : Code := match Go.Proofs.Tryz.f72.body with | some c => c | none => .skip
noncomputable def fi72 : FI := ⟨18, [(.tmp 4), (.tmp 5)], b72, fun _ => none⟩
noncomputable def b73 : Code := match Go.Proofs.Tryz.f73.body with | some c => c | none => .skip
def pl73 : T Plan := (.n (.n (.n .e (some ⟨[0, 1, 5, 2, 6, 3, 7, 4, 8, 9, 10, 11, 12], [(4, 12), (7, 12)], [0, 0, 2, 6, 14, 0, 32, 96, 224, 510, 1023, 2047, 4095]⟩) (.n .e (some ⟨[0, 2, 1, 3, 4, 5, 6, 7], [(2, 5), (2, 7), (4, 5)], [0, 1, 0, 4, 12, 28, 63, 127]⟩) .e)) none (.n (.n .e (some ⟨[0, 2, 1, 3, 4, 5, 6, 7], [(2, 5), (2, 7), (4, 5)], [0, 1, 0, 4, 12, 28, 63, 127]⟩) .e) (some ⟨[0, 1, 5, 2, 6, 3, 7, 4, 8, 9, 10, 11, 12], [(4, 12), (7, 12)], [0, 0, 2, 6, 14, 0, 32, 96, 224, 510, 1023, 2047, 4095]⟩) .e)) none .e)
noncomputable def fi73 : FI := ⟨61, [(.cell 4 71)], b73, pl73.get⟩
noncomputable def b74 : Code := match Go.Proofs.Tryz.f74.body with | some c => c | none => .skip
def pl74 : T Plan := (.n (.n (.n (.n (.n .e (some ⟨[0, 1, 3, 6, 9, 2, 7, 4, 5, 8, 10, 11], [(5, 10), (6, 10), (8, 10)], [0, 0, 2, 0, 14, 30, 0, 64, 255, 0, 1023, 2047]⟩) .e) (some ⟨[0, 2, 7, 1, 3, 8, 4, 5, 6, 9, 10], [(3, 11), (5, 11), (6, 11)], [0, 1, 0, 4, 12, 28, 63, 0, 128, 127, 1023]⟩) .e) (some ⟨[0, 2, 1, 3, 4, 5], [(2, 6), (3, 6)], [0, 1, 0, 4, 3, 31]⟩) (.n (.n .e (some ⟨[0, 4, 6, 9, 1, 5, 7, 10, 2, 8, 3, 11, 12, 13, 14, 15, 16], [(5, 11), (5, 16), (7, 11), (9, 11), (10, 11), (10, 16)], [0, 1, 3, 7, 0, 16, 0, 64, 192, 0, 512, 1984, 4032, 8128, 8128, 16383, 49151]⟩) .e) (some ⟨[0, 2, 5, 6, 8, 11, 1, 7, 12, 3, 9, 4, 10, 13, 14, 15, 16], [(6, 15), (7, 15), (8, 15), (11, 15), (12, 15)], [0, 1, 0, 7, 15, 0, 0, 64, 0, 448, 960, 0, 2048, 8160, 31, 32767, 65535]⟩) (.n .e (some ⟨[0, 1, 2, 3], [(0, 2)], [0, 0, 3, 7]⟩) .e))) none (.n (.n (.n .e (some ⟨[0, 4, 8, 1, 5, 2, 3, 6, 7, 9, 10, 11], [(4, 10), (6, 10), (8, 10)], [0, 1, 3, 7, 0, 16, 63, 127, 0, 255, 1023, 2047]⟩) .e) none .e) (some ⟨[0, 4, 1, 5, 2, 3, 6], [(3, 7), (4, 7)], [0, 1, 3, 7, 0, 16, 63]⟩) (.n .e none (.n .e (some ⟨[0, 1, 2, 3], [(0, 2)], [0, 0, 3, 7]⟩) .e)))) none (.n (.n (.n .e none (.n .e (some ⟨[0, 1, 2, 3, 4], [(1, 3)], [0, 0, 1, 7, 15]⟩) .e)) none (.n .e none (.n .e (some ⟨[0, 3, 1, 2, 4, 5, 6], [(3, 4), (3, 6)], [0, 1, 3, 0, 8, 31, 63]⟩) .e))) (some ⟨[0, 2, 5, 1, 3, 4, 6], [(1, 4), (2, 4), (2, 6), (3, 4), (3, 6)], [0, 1, 0, 4, 15, 0, 63]⟩) (.n .e (some ⟨[0, 1, 2, 3], [(0, 2)], [0, 0, 3, 7]⟩) (.n (.n .e (some ⟨[0, 1, 2, 3], [(0, 2)], [0, 0, 3, 7]⟩) .e) (some ⟨[0, 2, 3, 4, 9, 1, 5, 6, 7, 8, 10, 11, 12, 13, 14, 15], [(5, 10), (5, 15), (9, 10)], [0, 1, 0, 0, 0, 16, 48, 120, 248, 0, 1016, 2040, 4088, 4088, 8191, 24575]⟩) .e))))
noncomputable def fi74 : FI := ⟨167, [(.tmp 10), (.cell 11 71), (.tmp 12)], b74, pl74.get⟩
noncomputable def b75 : Code := match Go.Proofs.Tryz.f75.body with | some c => c | none => .skip
noncomputable def fi75 : FI := ⟨17, [(.tmp 2)], b75, fun _ => none⟩
noncomputable def b76 : Code := match Go.Proofs.Tryz.f76.body with | some c => c | none => .skip
noncomputable def fi76 : FI := ⟨20, [(.tmp 4)], b76, fun _ => none⟩
noncomputable def b77 : Code := match Go.Proofs.Tryz.f77.body with | some c => c | none => .skip
noncomputable def fi77 : FI := ⟨17, [(.tmp 4)], b77, fun _ => none⟩
noncomputable def b78 : Code := match Go.Proofs.Tryz.f78.body with | some c => c | none => .skip
noncomputable def fi78 : FI := ⟨69, [(.tmp 4)], b78, fun _ => none⟩
noncomputable def b79 : Code := match Go.Proofs.Tryz.f79.body with | some c => c | none => .skip
def pl79 : T Plan := (.n .e none (.n (.n .e (some ⟨[0, 1, 6, 7, 11, 2, 8, 3, 9, 4, 10, 5, 12, 13], [(4, 13), (10, 13), (11, 13)], [0, 0, 3, 7, 15, 31, 0, 0, 192, 448, 960, 0, 2111, 8191]⟩) .e) none .e))
noncomputable def fi79 : FI := ⟨84, [(.tmp 2)], b79, pl79.get⟩
noncomputable def b80 : Code := match Go.Proofs.Tryz.f80.body with | some c => c | none => .skip
def pl80 : T Plan := (.n (.n (.n .e (some ⟨[0, 2, 4, 6, 8, 10, 12, 14, 16, 18, 20, 23, 25, 28, 30, 1, 3, 7, 9, 13, 15, 19, 21, 24, 26, 29, 31, 27, 32, 5, 11, 17, 22, 33, 34, 35], [(15, 29), (16, 29), (17, 29), (17, 30), (18, 29), (18, 30), (19, 29), (19, 30), (19, 31), (20, 29), (20, 30), (20, 31), (21, 29), (21, 30), (21, 31), (21, 32), (22, 29), (22, 30), (22, 31), (22, 32), (23, 29), (23, 30), (23, 31), (23, 32), (23, 34), (24, 29), (24, 30), (24, 31), (24, 32), (24, 34), (25, 29), (25, 30), (25, 31), (25, 32), (25, 34), (26, 29), (26, 30), (26, 31), (26, 32), (26, 34)], [0, 1, 0, 4, 0, 31, 0, 64, 0, 256, 0, 2047, 0, 4096, 0, 16384, 0, 131071, 0, 262144, 0, 1048576, 4194303, 0, 8388608, 0, 33554432, 125829120, 0, 268435456, 0, 1073741824, 4026531840, 8589934591, 17179869183, 34359738367]⟩) .e) none .e) none .e)
noncomputable def fi80 : FI := ⟨68, [(.cell 6 36), (.tmp 7)], b80, pl80.get⟩
noncomputable def b81 : Code := match Go.Proofs.Tryz.f81.body with | some c => c | none => .skip
noncomputable def fi81 : FI := ⟨39, [(.tmp 4), (.tmp 5)], b81, fun _ => none⟩
noncomputable def b82 : Code := match Go.Proofs.Tryz.f82.body with | some c => c | none => .skip
noncomputable def fi82 : FI := ⟨27, [(.tmp 4)], b82, fun _ => none⟩
noncomputable def b83 : Code := match Go.Proofs.Tryz.f83.body with | some c => c | none => .skip
noncomputable def fi83 : FI := ⟨31, [(.tmp 4)], b83, fun _ => none⟩
noncomputable def b84 : Code := match Go.Proofs.Tryz.f84.body with | some c => c | none => .skip
def pl84 : T Plan := (.n .e none (.n .e none (.n .e (some ⟨[0, 1, 4, 5, 2, 6, 3, 7, 8, 9], [(6, 8), (7, 8)], [0, 0, 3, 7, 0, 0, 48, 112, 255, 511]⟩) .e)))
noncomputable def fi84 : FI := ⟨27, [(.tmp 4)], b84, pl84.get⟩
noncomputable def b85 : Code := match Go.Proofs.Tryz.f85.body with | some c => c | none => .skip
noncomputable def fi85 : FI := ⟨43, [(.tmp 4)], b85, fun _ => none⟩
noncomputable def b86 : Code := match Go.Proofs.Tryz.f86.body with | some c => c | none => .skip
noncomputable def fi86 : FI := ⟨45, [(.cell 2 149)], b86, fun _ => none⟩
noncomputable def b87 : Code := match Go.Proofs.Tryz.f87.body with | some c => c | none => .skip
noncomputable def fi87 : FI := ⟨70, [(.tmp 4)], b87, fun _ => none⟩
noncomputable def b88 : Code := match Go.Proofs.Tryz.f88.body with | some c => c | none => .skip
noncomputable def fi88 : FI := ⟨20, [(.tmp 2)], b88, fun _ => none⟩
noncomputable def b89 : Code := match Go.Proofs.Tryz.f89.body with | some c => c | none => .skip
def pl89 : T Plan := (.n .e none (.n (.n (.n .e (some ⟨[0, 1, 2, 3, 4, 5, 6], [(1, 2), (1, 4), (3, 4)], [0, 1, 0, 4, 15, 31, 63]⟩) .e) none (.n .e (some ⟨[0, 2, 4, 1, 3, 5, 6, 7, 8, 9, 10, 11], [(3, 7), (3, 9), (4, 7), (6, 7), (8, 9)], [0, 1, 0, 4, 0, 28, 60, 124, 252, 511, 1023, 2047]⟩) .e)) none .e))
noncomputable def fi89 : FI := ⟨50, [(.cell 2 36), (.tmp 3)], b89, pl89.get⟩
noncomputable def b90 : Code := match Go.Proofs.Tryz.f90.body with | some c => c | none => .skip
def pl90 : T Plan := (.n .e none (.n .e (some ⟨[0, 1, 6, 2, 7, 3, 4, 5, 8, 9, 10, 11, 12], [(2, 8), (4, 8), (7, 8)], [0, 0, 2, 6, 14, 30, 0, 64, 254, 511, 1023, 2047, 4095]⟩) .e))
noncomputable def fi90 : FI := ⟨25, [(.cell 4 36)], b90, pl90.get⟩
noncomputable def b91 : Code := match Go.Proofs.Tryz.f91.body with | some c => c | none => .skip
noncomputable def fi91 : FI := ⟨8, [(.tmp 2)], b91, fun _ => none⟩
noncomputable def b92 : Code := match Go.Proofs.Tryz.f92.body with | some c => c | none => .skip
noncomputable def fi92 : FI := ⟨2, [(.cell 0 58)], b92, fun _ => none⟩
noncomputable def b93 : Code := match Go.Proofs.Tryz.f93.body with | some c => c | none => .skip
noncomputable def fi93 : FI := ⟨2, [(.cell 0 60)], b93, fun _ => none⟩
noncomputable def b94 : Code := match Go.Proofs.Tryz.f94.body with | some c => c | none => .skip
noncomputable def fi94 : FI := ⟨21, [(.tmp 6)], b94, fun _ => none⟩
noncomputable def b95 : Code := match Go.Proofs.Tryz.f95.body with | some c => c | none => .skip
noncomputable def fi95 : FI := ⟨4, [(.cell 0 62)], b95, fun _ => none⟩
noncomputable def b96 : Code := match Go.Proofs.Tryz.f96.body with | some c => c | none => .skip
def pl96 : T Plan := (.n (.n (.n .e (some ⟨[0, 2, 5, 7, 1, 3, 6, 8, 4, 9, 10, 11], [(4, 8), (5, 8), (6, 8), (6, 9), (7, 8), (7, 9)], [0, 1, 0, 4, 15, 0, 32, 0, 128, 511, 1023, 2047]⟩) .e) none .e) none .e)
noncomputable def fi96 : FI := ⟨22, [(.cell 4 62)], b96, pl96.get⟩
noncomputable def b97 : Code := match Go.Proofs.Tryz.f97.body with | some c => c | none => .skip
def pl97 : T Plan := (.n (.n (.n .e none (.n .e (some ⟨[0, 1, 2, 3, 4, 5, 6, 7], [(1, 5), (1, 6), (3, 5)], [0, 0, 0, 4, 12, 28, 63, 127]⟩) .e)) none (.n (.n (.n .e (some ⟨[0, 3, 9, 1, 4, 2, 5, 6, 7, 8, 10, 11], [(2, 6), (2, 10), (4, 6), (5, 6)], [0, 1, 3, 0, 8, 31, 63, 127, 127, 0, 767, 2047]⟩) .e) none (.n .e none (.n .e (some ⟨[0, 3, 5, 1, 4, 6, 2, 7, 8, 9, 10], [(3, 11), (4, 11), (5, 11), (9, 11)], [0, 1, 3, 0, 8, 0, 32, 120, 248, 504, 1023]⟩) .e))) none (.n .e (some ⟨[0, 1, 2, 4, 9, 3, 5, 6, 7, 8, 10], [(1, 9), (4, 9), (4, 10), (5, 9), (6, 9), (8, 9)], [0, 0, 0, 4, 0, 16, 60, 124, 255, 0, 1023]⟩) (.n (.n .e (some ⟨[0, 3, 9, 1, 4, 2, 5, 6, 7, 8, 10, 11], [(2, 6), (2, 10), (4, 6), (5, 6)], [0, 1, 3, 0, 8, 31, 63, 127, 127, 0, 767, 2047]⟩) .e) (some ⟨[0, 2, 4, 7, 1, 3, 5, 8, 6, 9, 10, 11, 12, 13, 14], [(4, 9), (4, 14), (5, 9), (5, 14), (7, 9), (8, 9)], [0, 1, 0, 4, 0, 16, 48, 0, 128, 496, 1008, 2032, 2032, 4095, 12287]⟩) .e)))) none (.n .e (some ⟨[0, 1, 2, 3, 4, 5, 6, 7, 8, 9, 10], [(0, 2), (0, 3), (1, 2)], [0, 0, 2, 7, 15, 31, 31, 31, 63, 383, 1023]⟩) (.n (.n (.n (.n .e (some ⟨[0, 1, 2, 3, 4], [(1, 2), (1, 3)], [0, 0, 0, 7, 15]⟩) .e) none (.n .e (some ⟨[0, 1, 2, 3, 4, 5, 6, 7], [(1, 6), (2, 6), (5, 6)], [0, 0, 0, 0, 8, 24, 63, 127]⟩) .e)) none (.n (.n .e (some ⟨[0, 2, 9, 1, 3, 4, 5, 6, 7, 8, 10, 11], [(2, 6), (2, 10), (3, 6), (5, 6)], [0, 1, 0, 4, 12, 31, 63, 127, 127, 0, 767, 2047]⟩) .e) (some ⟨[0, 1, 2, 4, 3, 5, 6, 7, 8, 9], [(1, 8), (4, 8), (5, 8), (7, 8)], [0, 0, 0, 4, 0, 16, 60, 124, 255, 511]⟩) (.n .e (some ⟨[0, 1, 2, 3, 4, 5, 6], [(1, 2), (1, 4), (3, 4)], [0, 1, 0, 4, 15, 31, 63]⟩) .e))) none (.n .e (some ⟨[0, 2, 4, 6, 1, 3, 5, 7, 8, 9, 10, 11, 12, 13], [(4, 13), (5, 13), (6, 13), (7, 13), (9, 13), (11, 13)], [0, 1, 0, 4, 0, 16, 0, 64, 240, 496, 1023, 2047, 4095, 8191]⟩) .e))))
noncomputable def fi97 : FI := ⟨332, [(.cell 6 64)], b97, pl97.get⟩
noncomputable def b98 : Code := match Go.Proofs.Tryz.f98.body with | some c => c | none => .skip
def pl98 : T Plan := (.n .e none (.n .e none (.n .e (some ⟨[0, 1, 4, 5, 2, 6, 3, 7, 8], [(6, 9), (7, 9)], [0, 0, 3, 7, 0, 0, 48, 112, 255]⟩) .e)))
noncomputable def fi98 : FI := ⟨26, [(.tmp 4)], b98, pl98.get⟩
noncomputable def b99 : Code := match Go.Proofs.Tryz.f99.body with | some c => c | none => .skip
noncomputable def fi99 : FI := ⟨14, [(.cell 4 36)], b99, fun _ => none⟩
noncomputable def b100 : Code := match Go.Proofs.Tryz.f100.body with | some c => c | none => .skip
def pl100 : T Plan := (.n (.n (.n .e (some ⟨[0, 2, 5, 7, 15, 1, 3, 6, 8, 4, 9, 10, 11, 12, 13, 14, 16, 17], [(4, 9), (4, 10), (4, 12), (4, 16), (5, 9), (6, 9), (7, 9), (7, 10), (8, 9), (8, 10)], [0, 1, 0, 4, 15, 0, 32, 0, 128, 511, 1023, 2047, 4095, 8191, 8191, 0, 49151, 131071]⟩) .e) none .e) none .e)
noncomputable def fi100 : FI := ⟨32, [(.cell 4 62)], b100, pl100.get⟩
noncomputable def b101 : Code := match Go.Proofs.Tryz.f101.body with | some c => c | none => .skip
noncomputable def fi101 : FI := ⟨9, [(.cell 2 36)], b101, fun _ => none⟩
noncomputable def b102 : Code := match Go.Proofs.Tryz.f102.body with | some c => c | none => .skip
def pl102 : T Plan := (.n (.n .e (some ⟨[0, 1, 4, 5, 8, 9, 2, 6, 10, 3, 12, 7, 11, 13, 14, 15, 16, 17], [(0, 9), (2, 9), (2, 11), (4, 9), (4, 11), (4, 12), (6, 9), (7, 9), (7, 11), (8, 9), (8, 11), (8, 12)], [0, 0, 2, 7, 0, 0, 32, 127, 0, 0, 512, 2047, 1647, 8191, 16383, 32767, 65535, 131071]⟩) .e) none .e)
noncomputable def fi102 : FI := ⟨19, [(.cell 2 36)], b102, pl102.get⟩
noncomputable def b103 : Code := match Go.Proofs.Tryz.f103.body with | some c => c | none => .skip
noncomputable def fi103 : FI := ⟨80, [(.cell 2 62), (.tmp 3)], b103, fun _ => none⟩
noncomputable def b104 : Code := match Go.Proofs.Tryz.f104.body with | some c => c | none => .skip
noncomputable def fi104 : FI := ⟨52, [(.tmp 2)], b104, fun _ => none⟩
noncomputable def b105 : Code := match Go.Proofs.Tryz.f105.body with | some c => c | none => .skip
def pl105 : T Plan := (.n .e none (.n .e none (.n .e (some ⟨[0, 1, 3, 2, 4, 5, 6, 7, 8, 9, 10, 12, 16, 11, 17, 13, 14, 15, 18, 19], [(0, 7), (3, 7), (6, 7), (13, 20), (14, 20), (17, 20)], [0, 0, 2, 0, 14, 30, 62, 127, 255, 511, 1023, 2047, 1023, 8191, 16383, 32767, 1023, 66559, 262143, 524287]⟩) (.n .e (some ⟨[0, 2, 5, 1, 3, 4, 6, 7, 8, 9, 10, 12, 15, 18, 11, 19, 13, 20, 14, 16, 17, 21, 22, 23, 24, 25, 26, 27, 29, 32, 36, 38, 41, 28, 33, 37, 30, 39, 31, 40, 34, 42, 35, 43, 44, 45, 46], [(3, 47), (5, 47), (7, 47), (14, 47), (15, 47), (18, 47), (20, 47), (33, 47), (35, 47), (38, 47), (39, 47), (42, 47), (43, 47)], [0, 1, 0, 7, 15, 0, 63, 127, 255, 511, 1023, 2047, 1023, 8191, 16383, 1023, 65535, 131071, 1023, 263167, 787455, 2097151, 4194303, 8388607, 16777215, 33554431, 67108863, 134217727, 268435455, 134217727, 1073741823, 2147483647, 134217727, 4429185023, 17179869183, 34359738367, 134217727, 68853694463, 134217727, 481170554879, 1030926368767, 134217727, 4329461252095, 8727507763199, 17592186044415, 35184372088831, 70368744177663]⟩) .e))))
noncomputable def fi105 : FI := ⟨144, [(.tmp 2)], b105, pl105.get⟩
noncomputable def b106 : Code := match Go.Proofs.Tryz.f106.body with | some c => c | none => .skip
noncomputable def fi106 : FI := ⟨76, [(.tmp 2)], b106, fun _ => none⟩
noncomputable def b107 : Code := match Go.Proofs.Tryz.f107.body with | some c => c | none => .skip
def pl107 : T Plan := (.n (.n .e (some ⟨[0, 1, 2, 3, 4, 6, 5, 7, 8, 9, 10, 11, 12, 15, 17, 13, 16, 18, 14, 19, 20, 21, 22, 23, 24, 25, 26, 27, 28, 29, 30, 31, 32, 33, 35, 34, 36, 37, 38, 39, 40, 41, 42, 43], [(1, 44), (6, 44), (7, 44), (15, 44), (16, 44), (17, 44), (21, 44), (26, 44), (35, 44), (36, 44), (40, 44)], [0, 1, 3, 7, 15, 31, 15, 79, 207, 511, 1023, 2047, 4095, 8191, 16383, 4095, 36863, 4095, 135167, 495615, 1019903, 2068479, 4194303, 8388607, 16777215, 33554431, 67108863, 134217727, 268435455, 536870911, 1073741823, 2147483647, 4294967295, 8589934591, 17179869183, 8589934591, 42949672959, 137438953471, 274877906943, 549755813887, 1099511627775, 2199023255551, 4398046511103, 8796093022207]⟩) .e) none (.n .e none (.n .e (some ⟨[0, 2, 4, 1, 3, 5, 6, 7, 8, 9, 10, 11, 13, 12, 14, 15], [(3, 16), (4, 16), (5, 16), (8, 16), (13, 16)], [0, 1, 0, 4, 0, 16, 60, 124, 252, 511, 1023, 2047, 4095, 2047, 16383, 32767]⟩) .e)))
noncomputable def fi107 : FI := ⟨120, [(.tmp 6)], b107, pl107.get⟩
noncomputable def b108 : Code := match Go.Proofs.Tryz.f108.body with | some c => c | none => .skip
def pl108 : T Plan := (.n (.n .e none (.n .e (some ⟨[0, 2, 4, 10, 12, 1, 3, 11, 5, 13, 6, 14, 7, 15, 8, 16, 9, 17, 18], [(6, 19), (7, 19), (12, 19), (13, 19)], [0, 1, 0, 4, 0, 28, 60, 124, 252, 511, 0, 1024, 0, 7168, 15360, 31744, 64512, 131071, 262143]⟩) .e)) none .e)
noncomputable def fi108 : FI := ⟨39, [(.tmp 2)], b108, pl108.get⟩
noncomputable def b109 : Code := match Go.Proofs.Tryz.f109.body with | some c => c | none => .skip
noncomputable def fi109 : FI := ⟨26, [(.tmp 2)], b109, fun _ => none⟩
noncomputable def b110 : Code := match Go.Proofs.Tryz.f110.body with | some c => c | none => .skip
noncomputable def fi110 : FI := ⟨18, [(.tmp 2)], b110, fun _ => none⟩
noncomputable def b111 : Code := match Go.Proofs.Tryz.f111.body with | some c => c | none => .skip
noncomputable def fi111 : FI := ⟨14, [(.tmp 2)], b111, fun _ => none⟩
noncomputable def b112 : Code := match Go.Proofs.Tryz.f112.body with | some c => c | none => .skip
noncomputable def fi112 : FI := ⟨26, [(.tmp 2)], b112, fun _ => none⟩
noncomputable def b113 : Code := match Go.Proofs.Tryz.f113.body with | some c => c | none => .skip
def pl113 : T Plan := (.n (.n .e none (.n (.n (.n .e (some ⟨[0, 1, 2, 3, 4, 5, 9, 10, 6, 11, 7, 12, 8, 13, 14, 15, 16], [(11, 13), (12, 13)], [0, 1, 3, 7, 7, 7, 39, 119, 247, 7, 7, 1543, 3591, 8191, 16383, 32767, 65535]⟩) .e) none .e) none .e)) none .e)
noncomputable def fi113 : FI := ⟨148, [], b113, pl113.get⟩
noncomputable def b114 : Code := match Go.Proofs.Tryz.f114.body with | some c => c | none => .skip
noncomputable def fi114 : FI := ⟨8, [(.tmp 2)], b114, fun _ => none⟩
noncomputable def b115 : Code := match Go.Proofs.Tryz.f115.body with | some c => c | none => .skip
def pl115 : T Plan := (.n (.n .e none (.n (.n (.n .e (some ⟨[0, 1, 2, 3, 4, 8, 9, 5, 10, 6, 11, 7, 12, 13, 14], [(10, 12), (11, 12)], [0, 1, 3, 7, 7, 23, 63, 127, 7, 7, 775, 1799, 4095, 8191, 16383]⟩) .e) none .e) none .e)) none .e)
noncomputable def fi115 : FI := ⟨134, [], b115, pl115.get⟩
noncomputable def b116 : Code := match Go.Proofs.Tryz.f116.body with | some c => c | none => .skip
noncomputable def fi116 : FI := ⟨41, [(.tmp 2)], b116, fun _ => none⟩
noncomputable def b117 : Code := match Go.Proofs.Tryz.f117.body with | some c => c | none => .skip
def pl117 : T Plan := (.n (.n .e (some ⟨[0, 4, 8, 1, 5, 9, 2, 6, 10, 3, 7, 11, 12, 13, 14, 15, 16, 17, 18, 19, 20], [(6, 9), (7, 9), (7, 10), (8, 9), (8, 10), (8, 11)], [0, 1, 3, 7, 0, 16, 48, 127, 0, 256, 768, 2047, 4095, 8191, 16383, 32767, 65535, 131071, 262143, 524287, 1048575]⟩) .e) none .e)
noncomputable def fi117 : FI := ⟨21, [(.tmp 2)], b117, pl117.get⟩
noncomputable def b118 : Code := match Go.Proofs.Tryz.f118.body with | some c => c | none => .skip
def pl118 : T Plan := (.n (.n .e (some ⟨[0, 1, 6, 2, 7, 3, 4, 5, 8, 9, 10, 11, 12], [(2, 8), (4, 8), (7, 8)], [0, 0, 2, 6, 14, 30, 0, 64, 254, 511, 1023, 2047, 4095]⟩) .e) none .e)
noncomputable def fi118 : FI := ⟨16, [], b118, pl118.get⟩
noncomputable def b119 : Code := match Go.Proofs.Tryz.f119.body with | some c => c | none => .skip
noncomputable def fi119 : FI := ⟨8, [(.cell 2 62)], b119, fun _ => none⟩
noncomputable def b120 : Code := match Go.Proofs.Tryz.f120.body with | some c => c | none => .skip
def pl120 : T Plan := (.n .e none (.n (.n (.n (.n .e (some ⟨[0, 5, 10, 16, 1, 6, 11, 17, 2, 7, 12, 18, 3, 8, 13, 19, 4, 9, 14, 20, 15, 21, 22, 23], [(14, 21), (16, 21), (16, 23), (17, 21), (17, 23), (19, 21), (20, 21)], [0, 1, 3, 7, 15, 0, 32, 96, 224, 480, 0, 1024, 3072, 7168, 15360, 31744, 0, 65536, 196608, 458752, 983040, 2096128, 4194303, 8388607]⟩) .e) none .e) (some ⟨[0, 1, 6, 11, 17, 2, 7, 12, 18, 3, 8, 13, 19, 4, 9, 14, 20, 5, 10, 15, 21, 16, 22, 23], [(15, 22), (17, 22), (17, 23), (18, 22), (18, 23), (20, 22), (21, 22)], [0, 0, 2, 6, 14, 30, 0, 64, 192, 448, 960, 0, 2048, 6144, 14336, 30720, 63488, 0, 131072, 393216, 917504, 1966080, 4192256, 8388607]⟩) (.n .e (some ⟨[0, 1, 2, 3, 9, 4, 10, 5, 11, 6, 12, 7, 13, 8, 14, 15], [(9, 14), (12, 14), (13, 14)], [0, 0, 0, 0, 8, 24, 56, 120, 248, 0, 512, 1536, 3584, 7680, 16376, 32767]⟩) .e)) (some ⟨[0, 1, 6, 2, 7, 3, 8, 4, 9, 5, 10, 11], [(9, 11), (10, 11)], [0, 0, 2, 6, 14, 30, 0, 64, 192, 448, 960, 2047]⟩) (.n .e none (.n .e (some ⟨[0, 1, 6, 2, 7, 3, 8, 4, 9, 5, 10, 11, 12, 13], [(9, 13), (10, 13), (12, 13)], [0, 0, 2, 6, 14, 30, 0, 64, 192, 448, 960, 2046, 4094, 8191]⟩) .e))))
noncomputable def fi120 : FI := ⟨144, [], b120, pl120.get⟩
noncomputable def b121 : Code := match Go.Proofs.Tryz.f121.body with | some c => c | none => .skip
def pl121 : T Plan := (.n .e (some ⟨[0, 5, 12, 1, 6, 2, 7, 3, 8, 4, 9, 10, 11, 13], [(2, 13), (9, 13), (10, 13), (12, 13)], [0, 1, 3, 7, 15, 0, 32, 96, 224, 480, 1023, 2047, 0, 8191]⟩) .e)
noncomputable def fi121 : FI := ⟨46, [], b121, pl121.get⟩
noncomputable def b122 : Code := match Go.Proofs.Tryz.f122.body with | some c => c | none => .skip
def pl122 : T Plan := (.n (.n .e none (.n (.n .e (some ⟨[0, 5, 15, 1, 6, 2, 7, 3, 8, 4, 9, 10, 11, 12, 13, 14, 16, 17], [(2, 12), (2, 16), (8, 12), (9, 12), (11, 12)], [0, 1, 3, 7, 15, 0, 32, 96, 224, 480, 992, 2047, 4095, 8191, 8191, 0, 49151, 131071]⟩) .e) none .e)) none (.n (.n .e (some ⟨[0, 5, 11, 22, 1, 6, 12, 2, 7, 13, 3, 8, 14, 4, 9, 15, 10, 16, 17, 18, 19, 20, 21, 23, 24, 25], [(3, 18), (3, 23), (11, 18), (12, 18), (13, 18), (16, 18), (17, 18)], [0, 1, 3, 7, 15, 0, 32, 96, 224, 480, 992, 0, 2048, 6144, 14336, 30720, 63488, 131071, 262143, 524287, 524287, 524287, 0, 5242879, 14680063, 33554431]⟩) (.n .e (some ⟨[0, 1, 7, 2, 8, 3, 9, 4, 10, 5, 11, 6, 12, 13], [(7, 12), (10, 12), (11, 12)], [0, 0, 2, 6, 14, 30, 62, 0, 128, 384, 896, 1920, 4094, 8191]⟩) .e)) none .e))
noncomputable def fi122 : FI := ⟨105, [], b122, pl122.get⟩
noncomputable def b123 : Code := match Go.Proofs.Tryz.f123.body with | some c => c | none => .skip
def pl123 : T Plan := (.n .e none (.n (.n .e (some ⟨[0, 1, 2, 3, 4, 9, 5, 10, 6, 11, 7, 12, 8, 13, 14, 15, 16], [(11, 17), (12, 17)], [0, 1, 3, 7, 15, 31, 63, 127, 255, 15, 527, 1551, 3599, 7695, 16383, 32767, 65535]⟩) .e) none .e))
noncomputable def fi123 : FI := ⟨50, [], b123, pl123.get⟩
noncomputable def b124 : Code := match Go.Proofs.Tryz.f124.body with | some c => c | none => .skip
def pl124 : T Plan := (.n .e none (.n .e none (.n (.n .e (some ⟨[0, 2, 1, 3, 4, 5, 6, 7], [(2, 5), (3, 5), (3, 7)], [0, 1, 0, 4, 3, 19, 63, 127]⟩) .e) none .e)))
noncomputable def fi124 : FI := ⟨54, [(.cell 4 33)], b124, pl124.get⟩
noncomputable def b125 : Code := match Go.Proofs.Tryz.f125.body with | some c => c | none => .skip
def pl125 : T Plan := (.n .e none (.n .e (some ⟨[0, 5, 10, 1, 6, 2, 7, 3, 8, 4, 9, 11, 12, 13, 14, 15, 16], [(9, 16), (10, 16)], [0, 1, 3, 7, 15, 0, 32, 96, 224, 480, 0, 2016, 4095, 8191, 16383, 32767, 65535]⟩) .e))
noncomputable def fi125 : FI := ⟨59, [], b125, pl125.get⟩
noncomputable def b126 : Code := match Go.Proofs.Tryz.f126.body with | some c => c | none => .skip
def pl126 : T Plan := (.n (.n (.n (.n .e (some ⟨[0, 1, 2, 3, 4, 5, 6], [(1, 2), (1, 4), (3, 4)], [0, 1, 0, 4, 15, 31, 63]⟩) .e) (some ⟨[0, 5, 12, 1, 6, 2, 7, 3, 8, 4, 9, 10, 11, 13], [(2, 13), (9, 13), (10, 13), (12, 13)], [0, 1, 3, 7, 15, 0, 32, 96, 224, 480, 1023, 2047, 0, 8191]⟩) .e) none .e) none (.n (.n (.n .e (some ⟨[0, 1, 2, 3, 4, 9, 10, 15, 5, 11, 16, 6, 12, 17, 7, 13, 18, 8, 14, 19, 20, 21, 22, 23, 24, 25, 26, 27, 28, 29, 30, 31, 32, 33, 34, 35, 36], [(5, 19), (5, 24), (5, 28), (5, 32), (15, 19), (15, 24), (16, 19), (17, 19), (17, 24)], [0, 0, 0, 0, 0, 16, 48, 112, 240, 0, 0, 1024, 3072, 7168, 15360, 0, 32768, 98304, 229376, 491520, 1047552, 1031665, 3128817, 7323121, 15711729, 32488947, 66043379, 133152243, 267369971, 535805943, 1072676855, 2146418679, 4293902327, 8589934591, 17179869183, 34359738367, 68719476735]⟩) .e) none .e) none .e))
noncomputable def fi126 : FI := ⟨85, [], b126, pl126.get⟩
noncomputable def b127 : Code := match Go.Proofs.Tryz.f127.body with | some c => c | none => .skip
noncomputable def fi127 : FI := ⟨10, [(.cell 4 71)], b127, fun _ => none⟩
noncomputable def b128 : Code := match Go.Proofs.Tryz.f128.body with | some c => c | none => .skip
noncomputable def fi128 : FI := ⟨21, [(.tmp 2)], b128, fun _ => none⟩
noncomputable def b129 : Code := match Go.Proofs.Tryz.f129.body with | some c => c | none => .skip
noncomputable def fi129 : FI := ⟨10, [(.tmp 2)], b129, fun _ => none⟩
noncomputable def b130 : Code := match Go.Proofs.Tryz.f130.body with | some c => c | none => .skip
noncomputable def fi130 : FI := ⟨4, [(.tmp 2)], b130, fun _ => none⟩
noncomputable def b131 : Code := match Go.Proofs.Tryz.f131.body with | some c => c | none => .skip
noncomputable def fi131 : FI := ⟨8, [(.tmp 2)], b131, fun _ => none⟩
noncomputable def b132 : Code := match Go.Proofs.Tryz.f132.body with | some c => c | none => .skip
noncomputable def fi132 : FI := ⟨9, [(.tmp 2)], b132, fun _ => none⟩
noncomputable def b133 : Code := match Go.Proofs.Tryz.f133.body with | some c => c | none => .skip
noncomputable def fi133 : FI := ⟨16, [(.tmp 2)], b133, fun _ => none⟩
noncomputable def b134 : Code := match Go.Proofs.Tryz.f134.body with | some c => c | none => .skip
def pl134 : T Plan := (.n (.n (.n (.n .e (some ⟨[0, 1, 2, 5, 6, 3, 7, 4, 8, 9, 10, 11, 12], [(7, 9), (8, 9), (10, 11)], [0, 0, 0, 6, 14, 0, 0, 96, 224, 510, 1022, 2047, 4095]⟩) .e) none .e) none .e) none (.n .e none (.n .e (some ⟨[0, 1, 2, 5, 6, 3, 7, 4, 8, 9, 10, 11, 12], [(7, 9), (8, 9), (10, 11)], [0, 0, 0, 6, 14, 0, 0, 96, 224, 510, 1022, 2047, 4095]⟩) .e)))
noncomputable def fi134 : FI := ⟨41, [(.tmp 6)], b134, pl134.get⟩
noncomputable def b135 : Code := match Go.Proofs.Tryz.f135.body with | some c => c | none => .skip
noncomputable def fi135 : FI := ⟨35, [(.cell 4 33)], b135, fun _ => none⟩
noncomputable def b136 : Code := match Go.Proofs.Tryz.f136.body with | some c => c | none => .skip
noncomputable def fi136 : FI := ⟨17, [(.tmp 2)], b136, fun _ => none⟩
noncomputable def b137 : Code := match Go.Proofs.Tryz.f137.body with | some c => c | none => .skip
noncomputable def fi137 : FI := ⟨17, [(.tmp 2)], b137, fun _ => none⟩
noncomputable def b138 : Code := match Go.Proofs.Tryz.f138.body with | some c => c | none => .skip
noncomputable def fi138 : FI := ⟨8, [(.cell 2 62)], b138, fun _ => none⟩
noncomputable def b139 : Code := match Go.Proofs.Tryz.f139.body with | some c => c | none => .skip
noncomputable def fi139 : FI := ⟨2, [(.cell 0 58)], b139, fun _ => none⟩
noncomputable def b140 : Code := match Go.Proofs.Tryz.f140.body with | some c => c | none => .skip
noncomputable def fi140 : FI := ⟨2, [(.cell 0 60)], b140, fun _ => none⟩
noncomputable def b141 : Code := match Go.Proofs.Tryz.f141.body with | some c => c | none => .skip
noncomputable def fi141 : FI := ⟨15, [(.tmp 2)], b141, fun _ => none⟩
noncomputable def b142 : Code := match Go.Proofs.Tryz.f142.body with | some c => c | none => .skip
noncomputable def fi142 : FI := ⟨18, [(.cell 4 62)], b142, fun _ => none⟩
noncomputable def b143 : Code := match Go.Proofs.Tryz.f143.body with | some c => c | none => .skip
noncomputable def fi143 : FI := ⟨22, [(.cell 4 58)], b143, fun _ => none⟩
noncomputable def b144 : Code := match Go.Proofs.Tryz.f144.body with | some c => c | none => .skip
noncomputable def fi144 : FI := ⟨29, [(.cell 4 60)], b144, fun _ => none⟩
noncomputable def b145 : Code := match Go.Proofs.Tryz.f145.body with | some c => c | none => .skip
noncomputable def fi145 : FI := ⟨25, [(.tmp 2)], b145, fun _ => none⟩
noncomputable def b146 : Code := match Go.Proofs.Tryz.f146.body with | some c => c | none => .skip
def pl146 : T Plan := (.n (.n .e none (.n .e (some ⟨[0, 1, 3, 6, 7, 2, 4, 5, 8, 9, 10, 11], [(0, 7), (3, 7), (3, 8), (5, 7)], [0, 0, 2, 0, 14, 31, 0, 0, 255, 511, 1023, 2047]⟩) .e)) none (.n .e (some ⟨[0, 1, 2, 3], [(0, 2)], [0, 0, 3, 7]⟩) .e))
noncomputable def fi146 : FI := ⟨34, [(.tmp 4), (.cell 5 36), (.tmp 6)], b146, pl146.get⟩
noncomputable def b147 : Code := match Go.Proofs.Tryz.f147.body with | some c => c | none => .skip
noncomputable def fi147 : FI := ⟨6, [(.cell 2 64)], b147, fun _ => none⟩
noncomputable def b148 : Code := match Go.Proofs.Tryz.f148.body with | some c => c | none => .skip
noncomputable def fi148 : FI := ⟨24, [(.cell 8 64)], b148, fun _ => none⟩
noncomputable def b149 : Code := match Go.Proofs.Tryz.f149.body with | some c => c | none => .skip
noncomputable def fi149 : FI := ⟨53, [(.cell 4 62), (.tmp 5)], b149, fun _ => none⟩
noncomputable def b150 : Code := match Go.Proofs.Tryz.f150.body with | some c => c | none => .skip
def pl150 : T Plan := (.n (.n .e (some ⟨[0, 3, 1, 2, 4, 5, 6, 7, 8, 9, 10, 11, 12, 13], [(1, 4), (3, 4)], [0, 1, 3, 0, 15, 31, 63, 63, 63, 63, 127, 1279, 3583, 8191]⟩) .e) none (.n (.n (.n .e (some ⟨[0, 3, 9, 1, 4, 2, 5, 6, 7, 8, 10, 11], [(2, 6), (2, 10), (4, 6), (5, 6)], [0, 1, 3, 0, 8, 31, 63, 127, 127, 0, 767, 2047]⟩) .e) none .e) none .e))
noncomputable def fi150 : FI := ⟨91, [(.cell 8 64)], b150, pl150.get⟩
noncomputable def b151 : Code := match Go.Proofs.Tryz.f151.body with | some c => c | none => .skip
def pl151 : T Plan := (.n (.n .e (some ⟨[0, 2, 5, 13, 1, 3, 6, 4, 7, 8, 9, 10, 11, 12, 14, 15, 16], [(3, 9), (3, 14), (4, 9), (7, 9), (8, 9)], [0, 1, 0, 4, 12, 0, 32, 96, 255, 511, 1023, 1023, 1023, 0, 10239, 28671, 65535]⟩) .e) none .e)
noncomputable def fi151 : FI := ⟨51, [(.cell 8 64)], b151, pl151.get⟩
noncomputable def b152 : Code := match Go.Proofs.Tryz.f152.body with | some c => c | none => .skip
noncomputable def fi152 : FI := ⟨49, [(.cell 4 62), (.tmp 5)], b152, fun _ => none⟩
noncomputable def b153 : Code := match Go.Proofs.Tryz.f153.body with | some c => c | none => .skip
noncomputable def fi153 : FI := ⟨68, [(.cell 8 64)], b153, fun _ => none⟩
noncomputable def b154 : Code := match Go.Proofs.Tryz.f154.body with | some c => c | none => .skip
def pl154 : T Plan := (.n (.n (.n (.n .e (some ⟨[0, 2, 7, 9, 1, 3, 8, 10, 4, 11, 5, 12, 6, 13, 14, 15, 16, 17], [(4, 15), (5, 15), (6, 15), (7, 15), (7, 17)], [0, 1, 0, 4, 12, 28, 63, 0, 128, 0, 512, 1536, 3584, 8064, 511, 16895, 65535, 131071]⟩) .e) none .e) none (.n (.n .e (some ⟨[0, 2, 1, 3, 4, 5, 6, 7], [(2, 5), (3, 5), (3, 7)], [0, 1, 0, 4, 3, 19, 63, 127]⟩) .e) (some ⟨[0, 2, 7, 9, 1, 3, 8, 10, 4, 11, 5, 12, 6, 13, 14, 15, 16, 17], [(4, 15), (5, 15), (6, 15), (7, 15), (7, 17)], [0, 1, 0, 4, 12, 28, 63, 0, 128, 0, 512, 1536, 3584, 8064, 511, 16895, 65535, 131071]⟩) .e)) none .e)
noncomputable def fi154 : FI := ⟨61, [(.cell 4 33)], b154, pl154.get⟩
noncomputable def b155 : Code := match Go.Proofs.Tryz.f155.body with | some c => c | none => .skip
noncomputable def fi155 : FI := ⟨25, [(.cell 4 58)], b155, fun _ => none⟩
noncomputable def b156 : Code := match Go.Proofs.Tryz.f156.body with | some c => c | none => .skip
noncomputable def fi156 : FI := ⟨32, [(.cell 4 60)], b156, fun _ => none⟩
noncomputable def b157 : Code := match Go.Proofs.Tryz.f157.body with | some c => c | none => .skip
noncomputable def fi157 : FI := ⟨26, [(.tmp 4)], b157, fun _ => none⟩
noncomputable def b158 : Code := match Go.Proofs.Tryz.f158.body with | some c => c | none => .skip
noncomputable def fi158 : FI := ⟨40, [(.cell 4 60), (.tmp 5)], b158, fun _ => none⟩
noncomputable def b159 : Code := match Go.Proofs.Tryz.f159.body with | some c => c | none => .skip
noncomputable def fi159 : FI := ⟨23, [(.tmp 4)], b159, fun _ => none⟩
noncomputable def b160 : Code := match Go.Proofs.Tryz.f160.body with | some c => c | none => .skip
def pl160 : T Plan := (.n (.n (.n .e none (.n .e (some ⟨[0, 1, 5, 6, 2, 7, 3, 8, 4, 9, 10], [(8, 11), (9, 11)], [0, 0, 3, 7, 15, 0, 0, 96, 224, 480, 1023]⟩) .e)) none .e) none .e)
noncomputable def fi160 : FI := ⟨68, [(.tmp 2)], b160, pl160.get⟩
noncomputable def b161 : Code := match Go.Proofs.Tryz.f161.body with | some c => c | none => .skip
def pl161 : T Plan := (.n .e none (.n (.n (.n .e (some ⟨[0, 2, 1, 3, 4, 5, 6, 7, 8, 9, 10, 12, 11, 13, 14, 15, 16, 17], [(2, 5), (4, 5), (8, 15), (12, 15), (14, 15)], [0, 1, 0, 7, 15, 31, 63, 127, 255, 255, 255, 1279, 255, 7423, 15615, 32767, 65535, 131071]⟩) .e) none .e) none .e))
noncomputable def fi161 : FI := ⟨93, [(.tmp 4)], b161, pl161.get⟩
noncomputable def b162 : Code := match Go.Proofs.Tryz.f162.body with | some c => c | none => .skip
noncomputable def fi162 : FI := ⟨56, [(.tmp 4)], b162, fun _ => none⟩
noncomputable def b163 : Code := match Go.Proofs.Tryz.f163.body with | some c => c | none => .skip
noncomputable def fi163 : FI := ⟨9, [(.tmp 4)], b163, fun _ => none⟩
noncomputable def b164 : Code := match Go.Proofs.Tryz.f164.body with | some c => c | none => .skip
noncomputable def fi164 : FI := ⟨6, [(.tmp 2)], b164, fun _ => none⟩
noncomputable def b165 : Code := match Go.Proofs.Tryz.f165.body with | some c => c | none => .skip
noncomputable def fi165 : FI := ⟨17, [(.tmp 2)], b165, fun _ => none⟩
noncomputable def b166 : Code := match Go.Proofs.Tryz.f166.body with | some c => c | none => .skip
def pl166 : T Plan := (.n .e none (.n (.n .e (some ⟨[0, 1, 2, 3, 4, 5, 6, 9, 10, 7, 11, 8, 12, 13, 14, 15, 16], [(11, 14), (13, 14)], [0, 0, 3, 7, 15, 15, 15, 111, 239, 15, 15, 1039, 3599, 7695, 16383, 32767, 65535]⟩) .e) none (.n .e (some ⟨[0, 1, 2, 3, 5, 6, 10, 11, 4, 7, 12, 8, 13, 9, 14, 15, 16, 17], [(12, 15), (13, 15)], [0, 0, 0, 0, 8, 0, 0, 64, 224, 480, 0, 0, 3072, 7168, 16355, 32739, 65535, 131071]⟩) .e)))
noncomputable def fi166 : FI := ⟨53, [], b166, pl166.get⟩
noncomputable def b167 : Code := match Go.Proofs.Tryz.f167.body with | some c => c | none => .skip
def pl167 : T Plan := (.n .e none (.n .e none (.n (.n .e (some ⟨[0, 1, 2, 3, 4, 6, 7, 8, 12, 13, 5, 9, 14, 10, 15, 11, 16, 17, 18, 19], [(14, 17), (15, 17)], [0, 0, 0, 0, 0, 24, 0, 0, 0, 384, 960, 1984, 0, 0, 12288, 28672, 65475, 131011, 262143, 524287]⟩) .e) none .e)))
noncomputable def fi167 : FI := ⟨60, [], b167, pl167.get⟩
noncomputable def b168 : Code := match Go.Proofs.Tryz.f168.body with | some c => c | none => .skip
def pl168 : T Plan := (.n .e none (.n .e none (.n (.n .e (some ⟨[0, 1, 2, 3, 4, 6, 7, 8, 12, 13, 5, 9, 14, 10, 15, 11, 16, 17, 18, 19], [(14, 17), (15, 17)], [0, 0, 0, 0, 0, 24, 0, 0, 0, 384, 960, 1984, 0, 0, 12288, 28672, 65475, 131011, 262143, 524287]⟩) .e) none .e)))
noncomputable def fi168 : FI := ⟨67, [], b168, pl168.get⟩
noncomputable def b169 : Code := match Go.Proofs.Tryz.f169.body with | some c => c | none => .skip
noncomputable def fi169 : FI := ⟨63, [(.tmp 8), (.tmp 9)], b169, fun _ => none⟩
noncomputable def b170 : Code := match Go.Proofs.Tryz.f170.body with | some c => c | none => .skip
def pl170 : T Plan := (.n (.n (.n .e (some ⟨[0, 1, 2, 3, 4, 5, 8, 9, 6, 10, 7, 11, 12, 13, 14, 15], [(10, 13), (11, 13)], [0, 0, 0, 0, 0, 0, 48, 112, 0, 0, 768, 1792, 4083, 8179, 16383, 32767]⟩) .e) none .e) none .e)
noncomputable def fi170 : FI := ⟨34, [], b170, pl170.get⟩
noncomputable def b171 : Code := match Go.Proofs.Tryz.f171.body with | some c => c | none => .skip
def pl171 : T Plan := (.n (.n (.n (.n .e none (.n .e (some ⟨[0, 1, 2, 3, 5, 6, 10, 11, 4, 7, 12, 8, 13, 9, 14, 15, 16, 17], [(12, 15), (13, 15)], [0, 0, 0, 0, 8, 0, 0, 64, 224, 480, 0, 0, 3072, 7168, 16355, 32739, 65535, 131071]⟩) .e)) none (.n .e (some ⟨[0, 1, 2, 3, 5, 6, 10, 11, 4, 7, 12, 8, 13, 9, 14, 15, 16, 17], [(12, 15), (13, 15)], [0, 0, 0, 0, 8, 0, 0, 64, 224, 480, 0, 0, 3072, 7168, 16355, 32739, 65535, 131071]⟩) .e)) none (.n (.n (.n .e (some ⟨[0, 1, 2, 3, 5, 6, 10, 11, 4, 7, 12, 8, 13, 9, 14, 15, 16, 17], [(12, 15), (13, 15)], [0, 0, 0, 0, 8, 0, 0, 64, 224, 480, 0, 0, 3072, 7168, 16355, 32739, 65535, 131071]⟩) .e) none .e) (some ⟨[0, 1, 2, 3, 4, 5, 6, 9, 10, 7, 11, 8, 12, 13, 14, 15, 16, 17], [(11, 14), (13, 14)], [0, 0, 3, 7, 15, 15, 15, 111, 239, 15, 15, 1039, 3599, 7695, 16383, 32767, 65535, 131071]⟩) .e)) none (.n (.n (.n (.n .e (some ⟨[0, 1, 2, 5, 6, 3, 7, 4, 8, 9, 10, 11, 12], [(7, 10), (9, 10)], [0, 0, 0, 6, 14, 0, 0, 64, 224, 480, 1023, 2047, 4095]⟩) .e) none .e) none .e) none (.n .e none (.n (.n .e (some ⟨[0, 1, 2, 5, 6, 3, 7, 4, 8, 9, 10, 11, 12], [(7, 10), (9, 10)], [0, 0, 0, 6, 14, 0, 0, 64, 224, 480, 1023, 2047, 4095]⟩) .e) none .e))))
noncomputable def fi171 : FI := ⟨141, [(.tmp 8)], b171, pl171.get⟩
noncomputable def b172 : Code := match Go.Proofs.Tryz.f172.body with | some c => c | none => .skip
def pl172 : T Plan := (.n (.n (.n .e (some ⟨[0, 1, 2, 3, 4, 5, 6, 9, 10, 7, 11, 8, 12, 13, 14, 15, 16], [(11, 13), (12, 13)], [0, 0, 3, 7, 15, 15, 15, 111, 239, 15, 15, 1551, 3599, 8191, 16383, 32767, 65535]⟩) .e) (some ⟨[0, 1, 2, 3, 4, 5, 8, 9, 6, 10, 7, 11, 12, 13, 14, 15], [(10, 13), (11, 13)], [0, 0, 0, 0, 0, 0, 48, 112, 0, 0, 768, 1792, 4083, 8179, 16383, 32767]⟩) (.n .e (some ⟨[0, 1, 2, 3, 4, 5, 6, 9, 10, 7, 11, 8, 12, 13, 14, 15], [(11, 13), (12, 13)], [0, 0, 3, 7, 15, 15, 15, 111, 239, 15, 15, 1551, 3599, 8191, 16383, 32767]⟩) .e)) none (.n (.n (.n .e (some ⟨[0, 1, 2, 3, 4, 5, 8, 9, 6, 10, 7, 11, 12, 13, 14, 15], [(10, 13), (11, 13)], [0, 0, 0, 0, 0, 0, 48, 112, 0, 0, 768, 1792, 4083, 8179, 16383, 32767]⟩) .e) none .e) none .e))
noncomputable def fi172 : FI := ⟨90, [(.tmp 10)], b172, pl172.get⟩
noncomputable def b173 : Code := match Go.Proofs.Tryz.f173.body with | some c => c | none => .skip
def pl173 : T Plan := (.n (.n (.n (.n (.n .e (some ⟨[0, 1, 2, 3, 4, 5, 6, 9, 10, 7, 11, 8, 12, 13, 14, 15, 16], [(11, 13), (12, 13)], [0, 0, 3, 7, 15, 15, 15, 111, 239, 15, 15, 1551, 3599, 8191, 16383, 32767, 65535]⟩) .e) none .e) (some ⟨[0, 1, 2, 3, 4, 5, 6, 9, 10, 7, 11, 8, 12, 13, 14, 15], [(11, 13), (12, 13)], [0, 0, 3, 7, 15, 15, 15, 111, 239, 15, 15, 1551, 3599, 8191, 16383, 32767]⟩) .e) (some ⟨[0, 1, 2, 3, 4, 5, 8, 9, 6, 10, 7, 11, 12, 13, 14, 15], [(10, 13), (11, 13)], [0, 0, 0, 0, 0, 0, 48, 112, 0, 0, 768, 1792, 4083, 8179, 16383, 32767]⟩) (.n .e (some ⟨[0, 1, 2, 3, 4, 5, 6, 9, 10, 7, 11, 8, 12, 13, 14, 15, 16], [(11, 13), (12, 13)], [0, 0, 3, 7, 15, 15, 15, 111, 239, 15, 15, 1551, 3599, 8191, 16383, 32767, 65535]⟩) (.n (.n .e (some ⟨[0, 1, 2, 3, 4, 5, 8, 9, 6, 10, 7, 11, 12, 13, 14, 15], [(10, 13), (11, 13)], [0, 0, 0, 0, 0, 0, 48, 112, 0, 0, 768, 1792, 4083, 8179, 16383, 32767]⟩) .e) (some ⟨[0, 1, 2, 3, 4, 5, 6, 9, 10, 7, 11, 8, 12, 13, 14, 15], [(11, 13), (12, 13)], [0, 0, 3, 7, 15, 15, 15, 111, 239, 15, 15, 1551, 3599, 8191, 16383, 32767]⟩) .e))) none (.n (.n (.n .e (some ⟨[0, 1, 2, 3, 4, 5, 8, 9, 6, 10, 7, 11, 12, 13, 14, 15], [(10, 13), (11, 13)], [0, 0, 0, 0, 0, 0, 48, 112, 0, 0, 768, 1792, 4083, 8179, 16383, 32767]⟩) .e) none .e) none (.n (.n (.n .e (some ⟨[0, 1, 2, 3, 4, 5, 8, 9, 6, 10, 7, 11, 12, 13, 14, 15], [(10, 13), (11, 13)], [0, 0, 0, 0, 0, 0, 48, 112, 0, 0, 768, 1792, 4083, 8179, 16383, 32767]⟩) .e) (some ⟨[0, 1, 2, 3, 4, 5, 8, 9, 6, 10, 7, 11, 12, 13, 14, 15], [(10, 13), (11, 13)], [0, 0, 0, 0, 0, 0, 48, 112, 0, 0, 768, 1792, 4083, 8179, 16383, 32767]⟩) .e) none .e)))
noncomputable def fi173 : FI := ⟨178, [(.tmp 10), (.tmp 11)], b173, pl173.get⟩
noncomputable def b174 : Code := match Go.Proofs.Tryz.f174.body with | some c => c | none => .skip
noncomputable def fi174 : FI := ⟨19, [(.tmp 2)], b174, fun _ => none⟩
noncomputable def b175 : Code := match Go.Proofs.Tryz.f175.body with | some c => c | none => .skip
noncomputable def fi175 : FI := ⟨25, [(.tmp 2)], b175, fun _ => none⟩
noncomputable def b176 : Code := match Go.Proofs.Tryz.f176.body with | some c => c | none => .skip
def pl176 : T Plan := (.n .e none (.n (.n .e (some ⟨[0, 1, 2, 3, 4, 5, 8, 9, 6, 10, 7, 11, 12, 13, 14], [(10, 13), (12, 13)], [0, 0, 3, 7, 15, 15, 63, 127, 15, 15, 527, 1807, 3855, 8191, 16383]⟩) .e) none (.n .e (some ⟨[0, 1, 2, 3, 5, 6, 10, 11, 4, 7, 12, 8, 13, 9, 14, 15, 16, 17], [(12, 15), (13, 15)], [0, 0, 0, 0, 8, 0, 0, 64, 224, 480, 0, 0, 3072, 7168, 16355, 32739, 65535, 131071]⟩) .e)))
noncomputable def fi176 : FI := ⟨49, [], b176, pl176.get⟩
noncomputable def b177 : Code := match Go.Proofs.Tryz.f177.body with | some c => c | none => .skip
def pl177 : T Plan := (.n .e none (.n .e none (.n (.n .e (some ⟨[0, 1, 2, 3, 4, 6, 7, 8, 12, 13, 5, 9, 14, 10, 15, 11, 16, 17, 18, 19], [(14, 17), (15, 17)], [0, 0, 0, 0, 0, 24, 0, 0, 0, 384, 960, 1984, 0, 0, 12288, 28672, 65475, 131011, 262143, 524287]⟩) .e) none .e)))
noncomputable def fi177 : FI := ⟨56, [], b177, pl177.get⟩
noncomputable def b178 : Code := match Go.Proofs.Tryz.f178.body with | some c => c | none => .skip
def pl178 : T Plan := (.n .e none (.n .e none (.n (.n .e (some ⟨[0, 1, 2, 3, 4, 6, 7, 8, 12, 13, 5, 9, 14, 10, 15, 11, 16, 17, 18, 19], [(14, 17), (15, 17)], [0, 0, 0, 0, 0, 24, 0, 0, 0, 384, 960, 1984, 0, 0, 12288, 28672, 65475, 131011, 262143, 524287]⟩) .e) none .e)))
noncomputable def fi178 : FI := ⟨65, [], b178, pl178.get⟩
noncomputable def b179 : Code := match Go.Proofs.Tryz.f179.body with | some c => c | none => .skip
noncomputable def fi179 : FI := ⟨57, [(.tmp 6), (.tmp 7)], b179, fun _ => none⟩
noncomputable def b180 : Code := match Go.Proofs.Tryz.f180.body with | some c => c | none => .skip
def pl180 : T Plan := (.n (.n (.n .e (some ⟨[0, 1, 2, 3, 4, 5, 8, 9, 6, 10, 7, 11, 12, 13, 14, 15], [(10, 13), (11, 13)], [0, 0, 0, 0, 0, 0, 48, 112, 0, 0, 768, 1792, 4083, 8179, 16383, 32767]⟩) .e) none .e) none .e)
noncomputable def fi180 : FI := ⟨32, [], b180, pl180.get⟩
noncomputable def b181 : Code := match Go.Proofs.Tryz.f181.body with | some c => c | none => .skip
def pl181 : T Plan := (.n (.n (.n (.n .e none (.n .e (some ⟨[0, 1, 2, 3, 5, 6, 10, 11, 4, 7, 12, 8, 13, 9, 14, 15, 16, 17], [(12, 15), (13, 15)], [0, 0, 0, 0, 8, 0, 0, 64, 224, 480, 0, 0, 3072, 7168, 16355, 32739, 65535, 131071]⟩) .e)) none (.n .e (some ⟨[0, 1, 2, 3, 5, 6, 10, 11, 4, 7, 12, 8, 13, 9, 14, 15, 16, 17], [(12, 15), (13, 15)], [0, 0, 0, 0, 8, 0, 0, 64, 224, 480, 0, 0, 3072, 7168, 16355, 32739, 65535, 131071]⟩) .e)) none (.n (.n (.n .e (some ⟨[0, 1, 2, 3, 5, 6, 10, 11, 4, 7, 12, 8, 13, 9, 14, 15, 16, 17], [(12, 15), (13, 15)], [0, 0, 0, 0, 8, 0, 0, 64, 224, 480, 0, 0, 3072, 7168, 16355, 32739, 65535, 131071]⟩) .e) none .e) (some ⟨[0, 1, 2, 3, 4, 5, 8, 9, 6, 10, 7, 11, 12, 13, 14, 15], [(10, 13), (12, 13)], [0, 0, 3, 7, 15, 15, 63, 127, 15, 15, 527, 1807, 3855, 8191, 16383, 32767]⟩) .e)) none (.n (.n (.n (.n .e (some ⟨[0, 1, 4, 5, 2, 6, 3, 7, 8, 9, 10], [(6, 9), (8, 9)], [0, 0, 3, 7, 0, 0, 32, 112, 240, 511, 1023]⟩) .e) none .e) none .e) none (.n .e none (.n (.n .e (some ⟨[0, 1, 4, 5, 2, 6, 3, 7, 8, 9, 10], [(6, 9), (8, 9)], [0, 0, 3, 7, 0, 0, 32, 112, 240, 511, 1023]⟩) .e) none .e))))
noncomputable def fi181 : FI := ⟨133, [(.tmp 6)], b181, pl181.get⟩
noncomputable def b182 : Code := match Go.Proofs.Tryz.f182.body with | some c => c | none => .skip
noncomputable def fi182 : FI := ⟨17, [(.tmp 4)], b182, fun _ => none⟩
noncomputable def b183 : Code := match Go.Proofs.Tryz.f183.body with | some c => c | none => .skip
def pl183 : T Plan := (.n (.n (.n .e (some ⟨[0, 1, 2, 3, 4, 5, 8, 9, 6, 10, 7, 11, 12, 13, 14], [(10, 12), (11, 12)], [0, 0, 3, 7, 15, 15, 63, 127, 15, 15, 783, 1807, 4095, 8191, 16383]⟩) .e) (some ⟨[0, 1, 2, 3, 4, 5, 8, 9, 6, 10, 7, 11, 12, 13, 14, 15], [(10, 13), (11, 13)], [0, 0, 0, 0, 0, 0, 48, 112, 0, 0, 768, 1792, 4083, 8179, 16383, 32767]⟩) (.n .e (some ⟨[0, 1, 2, 3, 4, 5, 8, 9, 6, 10, 7, 11, 12, 13], [(10, 12), (11, 12)], [0, 0, 3, 7, 15, 15, 63, 127, 15, 15, 783, 1807, 4095, 8191]⟩) .e)) none (.n (.n (.n .e (some ⟨[0, 1, 2, 3, 4, 5, 8, 9, 6, 10, 7, 11, 12, 13, 14, 15], [(10, 13), (11, 13)], [0, 0, 0, 0, 0, 0, 48, 112, 0, 0, 768, 1792, 4083, 8179, 16383, 32767]⟩) .e) none .e) none .e))
noncomputable def fi183 : FI := ⟨84, [(.tmp 8)], b183, pl183.get⟩
noncomputable def b184 : Code := match Go.Proofs.Tryz.f184.body with | some c => c | none => .skip
def pl184 : T Plan := (.n (.n (.n (.n (.n .e (some ⟨[0, 1, 2, 3, 4, 5, 8, 9, 6, 10, 7, 11, 12, 13, 14], [(10, 12), (11, 12)], [0, 0, 3, 7, 15, 15, 63, 127, 15, 15, 783, 1807, 4095, 8191, 16383]⟩) .e) none .e) (some ⟨[0, 1, 2, 3, 4, 5, 8, 9, 6, 10, 7, 11, 12, 13], [(10, 12), (11, 12)], [0, 0, 3, 7, 15, 15, 63, 127, 15, 15, 783, 1807, 4095, 8191]⟩) .e) (some ⟨[0, 1, 2, 3, 4, 5, 8, 9, 6, 10, 7, 11, 12, 13, 14, 15], [(10, 13), (11, 13)], [0, 0, 0, 0, 0, 0, 48, 112, 0, 0, 768, 1792, 4083, 8179, 16383, 32767]⟩) (.n .e (some ⟨[0, 1, 2, 3, 4, 5, 8, 9, 6, 10, 7, 11, 12, 13, 14], [(10, 12), (11, 12)], [0, 0, 3, 7, 15, 15, 63, 127, 15, 15, 783, 1807, 4095, 8191, 16383]⟩) (.n (.n .e (some ⟨[0, 1, 2, 3, 4, 5, 8, 9, 6, 10, 7, 11, 12, 13, 14, 15], [(10, 13), (11, 13)], [0, 0, 0, 0, 0, 0, 48, 112, 0, 0, 768, 1792, 4083, 8179, 16383, 32767]⟩) .e) (some ⟨[0, 1, 2, 3, 4, 5, 8, 9, 6, 10, 7, 11, 12, 13], [(10, 12), (11, 12)], [0, 0, 3, 7, 15, 15, 63, 127, 15, 15, 783, 1807, 4095, 8191]⟩) .e))) none (.n (.n (.n .e (some ⟨[0, 1, 2, 3, 4, 5, 8, 9, 6, 10, 7, 11, 12, 13, 14, 15], [(10, 13), (11, 13)], [0, 0, 0, 0, 0, 0, 48, 112, 0, 0, 768, 1792, 4083, 8179, 16383, 32767]⟩) .e) none .e) none (.n (.n (.n .e (some ⟨[0, 1, 2, 3, 4, 5, 8, 9, 6, 10, 7, 11, 12, 13, 14, 15], [(10, 13), (11, 13)], [0, 0, 0, 0, 0, 0, 48, 112, 0, 0, 768, 1792, 4083, 8179, 16383, 32767]⟩) .e) (some ⟨[0, 1, 2, 3, 4, 5, 8, 9, 6, 10, 7, 11, 12, 13, 14, 15], [(10, 13), (11, 13)], [0, 0, 0, 0, 0, 0, 48, 112, 0, 0, 768, 1792, 4083, 8179, 16383, 32767]⟩) .e) none .e)))
noncomputable def fi184 : FI := ⟨168, [(.tmp 8), (.tmp 9)], b184, pl184.get⟩
noncomputable def b185 : Code := match Go.Proofs.Tryz.f185.body with | some c => c | none => .skip
noncomputable def fi185 : FI := ⟨70, [(.tmp 4)], b185, fun _ => none⟩
noncomputable def b186 : Code := match Go.Proofs.Tryz.f186.body with | some c => c | none => .skip
noncomputable def fi186 : FI := ⟨6, [(.cell 2 58)], b186, fun _ => none⟩
noncomputable def b187 : Code := match Go.Proofs.Tryz.f187.body with | some c => c | none => .skip
noncomputable def fi187 : FI := ⟨5, [(.cell 2 60)], b187, fun _ => none⟩
noncomputable def b188 : Code := match Go.Proofs.Tryz.f188.body with | some c => c | none => .skip
def pl188 : T Plan := (.n (.n .e (some ⟨[0, 1, 6, 7, 8, 2, 9, 3, 10, 4, 5, 11, 12, 13, 14, 15], [(4, 11), (8, 11), (10, 11)], [0, 0, 2, 6, 14, 30, 0, 0, 0, 448, 960, 2046, 4095, 8191, 16383, 32767]⟩) .e) none .e)
noncomputable def fi188 : FI := ⟨36, [], b188, pl188.get⟩
noncomputable def b189 : Code := match Go.Proofs.Tryz.f189.body with | some c => c | none => .skip
def pl189 : T Plan := (.n (.n .e (some ⟨[0, 1, 6, 7, 8, 2, 9, 3, 10, 4, 5, 11, 12, 13, 14, 15], [(4, 11), (8, 11), (10, 11)], [0, 0, 2, 6, 14, 30, 0, 0, 0, 448, 960, 2046, 4095, 8191, 16383, 32767]⟩) .e) none (.n .e (some ⟨[0, 1, 5, 6, 7, 2, 3, 4, 8, 9, 10, 11, 12, 13, 14], [(4, 8), (7, 8)], [0, 0, 2, 6, 14, 0, 0, 0, 254, 510, 1022, 1022, 2047, 6143, 14335]⟩) .e))
noncomputable def fi189 : FI := ⟨37, [], b189, pl189.get⟩
noncomputable def b190 : Code := match Go.Proofs.Tryz.f190.body with | some c => c | none => .skip
noncomputable def fi190 : FI := ⟨12, [(.cell 4 62)], b190, fun _ => none⟩
noncomputable def b191 : Code := match Go.Proofs.Tryz.f191.body with | some c => c | none => .skip
def pl191 : T Plan := (.n (.n (.n .e (some ⟨[0, 3, 1, 4, 2, 5, 6, 7, 8, 9, 10, 11, 12, 13], [(4, 13), (7, 13)], [0, 1, 3, 0, 8, 24, 56, 120, 248, 504, 1023, 2047, 4095, 8191]⟩) .e) (some ⟨[0, 4, 1, 5, 2, 6, 3, 7, 8, 9, 10], [(4, 11), (8, 11)], [0, 1, 3, 7, 0, 16, 48, 112, 240, 496, 1023]⟩) .e) none (.n (.n (.n .e (some ⟨[0, 5, 10, 15, 1, 6, 11, 16, 2, 7, 12, 17, 3, 8, 13, 18, 4, 14, 9, 19, 20, 21, 22], [(9, 23), (11, 23), (16, 23), (17, 23)], [0, 1, 3, 7, 15, 0, 32, 96, 224, 511, 0, 1024, 3072, 7168, 15360, 0, 32768, 98304, 229376, 523264, 1023, 2097151, 4194303]⟩) .e) none .e) none .e))
noncomputable def fi191 : FI := ⟨63, [(.tmp 4), (.tmp 5), (.tmp 6)], b191, pl191.get⟩
noncomputable def b192 : Code := match Go.Proofs.Tryz.f192.body with | some c => c | none => .skip
noncomputable def fi192 : FI := ⟨23, [(.tmp 4)], b192, fun _ => none⟩
noncomputable def b193 : Code := match Go.Proofs.Tryz.f193.body with | some c => c | none => .skip
noncomputable def fi193 : FI := ⟨21, [(.cell 6 62), (.tmp 7), (.tmp 8)], b193, fun _ => none⟩
noncomputable def b194 : Code := match Go.Proofs.Tryz.f194.body with | some c => c | none => .skip
noncomputable def fi194 : FI := ⟨12, [(.cell 4 62), (.tmp 5)], b194, fun _ => none⟩
noncomputable def b195 : Code := match Go.Proofs.Tryz.f195.body with | some c => c | none => .skip
def pl195 : T Plan := (.n (.n (.n .e (some ⟨[0, 4, 1, 2, 3, 5, 6, 7, 8], [(1, 5), (3, 5), (3, 9)], [0, 1, 3, 7, 0, 16, 48, 63, 255]⟩) .e) none .e) none .e)
noncomputable def fi195 : FI := ⟨14, [(.tmp 2), (.tmp 3)], b195, pl195.get⟩
noncomputable def b196 : Code := match Go.Proofs.Tryz.f196.body with | some c => c | none => .skip
def pl196 : T Plan := (.n .e none (.n (.n .e (some ⟨[0, 2, 5, 7, 15, 1, 3, 6, 8, 4, 9, 10, 11, 12, 13, 14, 16, 17], [(4, 9), (4, 10), (4, 12), (4, 16), (5, 9), (6, 9), (7, 9), (7, 10), (8, 9), (8, 10)], [0, 1, 0, 4, 15, 0, 32, 0, 128, 511, 1023, 2047, 4095, 8191, 8191, 0, 49151, 131071]⟩) .e) none .e))
noncomputable def fi196 : FI := ⟨36, [(.cell 4 62)], b196, pl196.get⟩
noncomputable def b197 : Code := match Go.Proofs.Tryz.f197.body with | some c => c | none => .skip
noncomputable def fi197 : FI := ⟨2, [(.cell 0 33)], b197, fun _ => none⟩
noncomputable def b198 : Code := match Go.Proofs.Tryz.f198.body with | some c => c | none => .skip
noncomputable def fi198 : FI := ⟨6, [(.cell 2 58)], b198, fun _ => none⟩
noncomputable def b199 : Code := match Go.Proofs.Tryz.f199.body with | some c => c | none => .skip
noncomputable def fi199 : FI := ⟨5, [(.cell 2 60)], b199, fun _ => none⟩
noncomputable def b200 : Code := match Go.Proofs.Tryz.f200.body with | some c => c | none => .skip
noncomputable def fi200 : FI := ⟨92, [(.cell 2 62), (.tmp 3)], b200, fun _ => none⟩
noncomputable def b201 : Code := match Go.Proofs.Tryz.f201.body with | some c => c | none => .skip
noncomputable def fi201 : FI := ⟨17, [(.tmp 2)], b201, fun _ => none⟩
noncomputable def b202 : Code := match Go.Proofs.Tryz.f202.body with | some c => c | none => .skip
noncomputable def fi202 : FI := ⟨15, [(.tmp 2)], b202, fun _ => none⟩
noncomputable def b203 : Code := match Go.Proofs.Tryz.f203.body with | some c => c | none => .skip
noncomputable def fi203 : FI := ⟨13, [(.cell 4 36)], b203, fun _ => none⟩
noncomputable def b204 : Code := match Go.Proofs.Tryz.f204.body with | some c => c | none => .skip
noncomputable def fi204 : FI := ⟨50, [(.cell 4 58), (.tmp 5)], b204, fun _ => none⟩
noncomputable def b205 : Code := match Go.Proofs.Tryz.f205.body with | some c => c | none => .skip
noncomputable def fi205 : FI := ⟨35, [(.cell 4 60), (.tmp 5)], b205, fun _ => none⟩
noncomputable def b206 : Code := match Go.Proofs.Tryz.f206.body with | some c => c | none => .skip
def pl206 : T Plan := (.n .e none (.n (.n (.n .e (some ⟨[0, 2, 7, 9, 14, 1, 3, 8, 10, 4, 11, 5, 12, 6, 13, 15, 16, 17, 18], [(5, 19), (7, 19), (9, 19), (10, 19)], [0, 1, 0, 4, 12, 28, 63, 0, 128, 0, 512, 1536, 3584, 8064, 0, 127, 49151, 131071, 262143]⟩) .e) none .e) none .e))
noncomputable def fi206 : FI := ⟨58, [(.tmp 4), (.tmp 5), (.tmp 6), (.tmp 7)], b206, pl206.get⟩
noncomputable def b207 : Code := match Go.Proofs.Tryz.f207.body with | some c => c | none => .skip
noncomputable def fi207 : FI := ⟨70, [(.cell 6 62), (.tmp 7), (.tmp 8)], b207, fun _ => none⟩
noncomputable def b208 : Code := match Go.Proofs.Tryz.f208.body with | some c => c | none => .skip
noncomputable def fi208 : FI := ⟨52, [(.cell 4 58), (.tmp 5)], b208, fun _ => none⟩
noncomputable def b209 : Code := match Go.Proofs.Tryz.f209.body with | some c => c | none => .skip
def pl209 : T Plan := (.n (.n .e none (.n .e (some ⟨[1, 0, 2, 3, 4], [(0, 1), (0, 2)], [0, 0, 3, 7, 15]⟩) .e)) none .e)
noncomputable def fi209 : FI := ⟨44, [(.cell 4 60), (.tmp 5)], b209, pl209.get⟩
noncomputable def b210 : Code := match Go.Proofs.Tryz.f210.body with | some c => c | none => .skip
def pl210 : T Plan := (.n (.n (.n .e (some ⟨[0, 3, 4, 5, 6, 1, 2, 7, 8], [(0, 5), (0, 9), (3, 5), (3, 9)], [0, 0, 3, 0, 8, 24, 56, 7, 255]⟩) .e) none .e) none .e)
noncomputable def fi210 : FI := ⟨14, [(.tmp 2), (.tmp 3)], b210, pl210.get⟩
noncomputable def b211 : Code := match Go.Proofs.Tryz.f211.body with | some c => c | none => .skip
def pl211 : T Plan := (.n (.n (.n .e none (.n .e (some ⟨[0, 2, 4, 1, 3, 5, 6, 7, 8, 9], [(3, 10), (4, 10), (7, 10)], [0, 1, 0, 4, 0, 28, 60, 124, 255, 511]⟩) .e)) none .e) none .e)
noncomputable def fi211 : FI := ⟨95, [(.tmp 6)], b211, pl211.get⟩
noncomputable def b212 : Code := match Go.Proofs.Tryz.f212.body with | some c => c | none => .skip
noncomputable def fi212 : FI := ⟨19, [(.tmp 4)], b212, fun _ => none⟩
noncomputable def b213 : Code := match Go.Proofs.Tryz.f213.body with | some c => c | none => .skip
def pl213 : T Plan := (.n (.n (.n .e (some ⟨[0, 2, 1, 3, 4, 5, 6, 7, 8, 12, 13, 14, 9, 15, 10, 16, 11, 17, 18, 19, 20, 21], [(16, 19), (18, 19)], [0, 1, 0, 7, 15, 31, 31, 31, 31, 415, 991, 2015, 31, 31, 31, 24607, 57375, 127007, 258079, 524287, 1048575, 2097151]⟩) .e) none (.n .e (some ⟨[0, 1, 2, 3, 7, 8, 9, 4, 10, 5, 11, 6, 12, 13, 14, 15], [(11, 13), (12, 13)], [0, 0, 0, 0, 12, 30, 62, 0, 0, 0, 768, 1920, 3968, 8191, 16383, 32767]⟩) .e)) none (.n .e none (.n .e (some ⟨[0, 1, 2, 4, 5, 6, 8, 9, 10, 14, 15, 16, 3, 7, 11, 17, 12, 18, 13, 19, 20, 21, 22, 23], [(18, 21), (19, 21)], [0, 0, 0, 6, 0, 0, 0, 96, 0, 0, 0, 1536, 3840, 7936, 0, 0, 0, 98304, 245760, 507904, 1048335, 2096911, 4194303, 8388607]⟩) .e)))
noncomputable def fi213 : FI := ⟨82, [], b213, pl213.get⟩
noncomputable def b214 : Code := match Go.Proofs.Tryz.f214.body with | some c => c | none => .skip
noncomputable def fi214 : FI := ⟨7, [(.tmp 2)], b214, fun _ => none⟩
noncomputable def b215 : Code := match Go.Proofs.Tryz.f215.body with | some c => c | none => .skip
def pl215 : T Plan := (.n (.n (.n .e (some ⟨[0, 3, 1, 4, 2, 5, 6, 7, 8, 9], [(4, 9), (5, 9)], [0, 1, 3, 0, 8, 24, 56, 127, 255, 511]⟩) .e) (some ⟨[0, 3, 1, 4, 2, 5, 6, 7, 8, 9], [(4, 9), (5, 9)], [0, 1, 3, 0, 8, 24, 56, 127, 255, 511]⟩) .e) none (.n .e (some ⟨[0, 3, 1, 4, 2, 5, 6, 7, 8, 9], [(4, 9), (5, 9)], [0, 1, 3, 0, 8, 24, 56, 127, 255, 511]⟩) .e))
noncomputable def fi215 : FI := ⟨33, [(.tmp 2)], b215, pl215.get⟩
noncomputable def b216 : Code := match Go.Proofs.Tryz.f216.body with | some c => c | none => .skip
noncomputable def fi216 : FI := ⟨18, [(.tmp 8)], b216, fun _ => none⟩
noncomputable def b217 : Code := match Go.Proofs.Tryz.f217.body with | some c => c | none => .skip
noncomputable def fi217 : FI := ⟨41, [(.tmp 12)], b217, fun _ => none⟩
noncomputable def b218 : Code := match Go.Proofs.Tryz.f218.body with | some c => c | none => .skip
def pl218 : T Plan := (.n (.n (.n .e (some ⟨[0, 2, 1, 3, 4, 5, 6, 7, 11, 12, 13, 8, 14, 9, 15, 10, 16, 17, 18, 19], [(15, 18), (17, 18)], [0, 1, 0, 7, 15, 31, 31, 31, 223, 511, 1023, 31, 31, 31, 12319, 28703, 63519, 129055, 262143, 524287]⟩) .e) none (.n .e (some ⟨[0, 1, 2, 6, 7, 8, 3, 9, 4, 10, 5, 11, 12, 13], [(10, 12), (11, 12)], [0, 0, 0, 6, 15, 31, 0, 0, 0, 384, 960, 1984, 4095, 8191]⟩) .e)) none (.n .e none (.n .e (some ⟨[0, 1, 2, 4, 5, 6, 8, 9, 10, 14, 15, 16, 3, 7, 11, 17, 12, 18, 13, 19, 20, 21, 22, 23], [(18, 21), (19, 21)], [0, 0, 0, 6, 0, 0, 0, 96, 0, 0, 0, 1536, 3840, 7936, 0, 0, 0, 98304, 245760, 507904, 1048335, 2096911, 4194303, 8388607]⟩) .e)))
noncomputable def fi218 : FI := ⟨76, [], b218, pl218.get⟩
noncomputable def b219 : Code := match Go.Proofs.Tryz.f219.body with | some c => c | none => .skip
noncomputable def fi219 : FI := ⟨15, [(.tmp 6)], b219, fun _ => none⟩
noncomputable def b220 : Code := match Go.Proofs.Tryz.f220.body with | some c => c | none => .skip
noncomputable def fi220 : FI := ⟨36, [(.tmp 10)], b220, fun _ => none⟩
noncomputable def b221 : Code := match Go.Proofs.Tryz.f221.body with | some c => c | none => .skip
noncomputable def fi221 : FI := ⟨6, [(.tmp 2)], b221, fun _ => none⟩
noncomputable def b222 : Code := match Go.Proofs.Tryz.f222.body with | some c => c | none => .skip
noncomputable def fi222 : FI := ⟨9, [(.tmp 2)], b222, fun _ => none⟩
noncomputable def b223 : Code := match Go.Proofs.Tryz.f223.body with | some c => c | none => .skip
noncomputable def fi223 : FI := ⟨10, [(.tmp 2)], b223, fun _ => none⟩
noncomputable def b224 : Code := match Go.Proofs.Tryz.f224.body with | some c => c | none => .skip
noncomputable def fi224 : FI := ⟨12, [(.cell 4 62), (.tmp 5)], b224, fun _ => none⟩
noncomputable def b225 : Code := match Go.Proofs.Tryz.f225.body with | some c => c | none => .skip
noncomputable def fi225 : FI := ⟨8, [(.cell 2 268)], b225, fun _ => none⟩
noncomputable def b226 : Code := match Go.Proofs.Tryz.f226.body with | some c => c | none => .skip
noncomputable def fi226 : FI := ⟨8, [(.tmp 4)], b226, fun _ => none⟩
noncomputable def b227 : Code := match Go.Proofs.Tryz.f227.body with | some c => c | none => .skip
noncomputable def fi227 : FI := ⟨8, [(.tmp 4)], b227, fun _ => none⟩
noncomputable def b228 : Code := match Go.Proofs.Tryz.f228.body with | some c => c | none => .skip
noncomputable def fi228 : FI := ⟨50, [(.cell 4 62), (.tmp 5), (.tmp 6)], b228, fun _ => none⟩
noncomputable def b229 : Code := match Go.Proofs.Tryz.f229.body with | some c => c | none => .skip
noncomputable def fi229 : FI := ⟨15, [(.cell 3 58), (.tmp 4), (.tmp 5)], b229, fun _ => none⟩
noncomputable def b230 : Code := match Go.Proofs.Tryz.f230.body with | some c => c | none => .skip
noncomputable def fi230 : FI := ⟨33, [(.cell 6 58), (.tmp 7), (.tmp 8)], b230, fun _ => none⟩
noncomputable def b231 : Code := match Go.Proofs.Tryz.f231.body with | some c => c | none => .skip
noncomputable def fi231 : FI := ⟨15, [(.cell 3 60), (.tmp 4), (.tmp 5)], b231, fun _ => none⟩
noncomputable def b232 : Code := match Go.Proofs.Tryz.f232.body with | some c => c | none => .skip
def pl232 : T Plan := (.n (.n .e none (.n (.n (.n .e (some ⟨[0, 4, 1, 2, 3, 5, 6, 7, 8, 9], [(0, 2), (1, 2), (1, 4), (1, 5)], [0, 1, 3, 7, 0, 31, 63, 127, 255, 511]⟩) .e) none .e) (some ⟨[0, 2, 5, 8, 11, 13, 1, 3, 12, 14, 4, 15, 6, 7, 9, 10, 16, 17, 18, 19], [(2, 12), (3, 12), (3, 14), (6, 12), (6, 14), (6, 17), (7, 12), (7, 14), (7, 17), (8, 12), (8, 14), (8, 17), (9, 12), (9, 14), (9, 17)], [0, 1, 0, 4, 15, 0, 32, 127, 0, 352, 1023, 0, 2048, 0, 8192, 30720, 65535, 131071, 262143, 524287]⟩) .e)) none .e)
noncomputable def fi232 : FI := ⟨137, [(.cell 6 60), (.tmp 7), (.tmp 8)], b232, pl232.get⟩
noncomputable def b233 : Code := match Go.Proofs.Tryz.f233.body with | some c => c | none => .skip
noncomputable def fi233 : FI := ⟨38, [(.cell 6 62), (.tmp 7)], b233, fun _ => none⟩
noncomputable def b234 : Code := match Go.Proofs.Tryz.f234.body with | some c => c | none => .skip
noncomputable def fi234 : FI := ⟨10, [(.cell 2 58), (.tmp 3)], b234, fun _ => none⟩
noncomputable def b235 : Code := match Go.Proofs.Tryz.f235.body with | some c => c | none => .skip
noncomputable def fi235 : FI := ⟨50, [(.cell 4 58), (.tmp 5)], b235, fun _ => none⟩
noncomputable def b236 : Code := match Go.Proofs.Tryz.f236.body with | some c => c | none => .skip
noncomputable def fi236 : FI := ⟨10, [(.cell 2 60), (.tmp 3)], b236, fun _ => none⟩
noncomputable def b237 : Code := match Go.Proofs.Tryz.f237.body with | some c => c | none => .skip
def pl237 : T Plan := (.n (.n .e none (.n .e (some ⟨[1, 0, 2, 3, 4], [(0, 1), (0, 2)], [0, 0, 3, 7, 15]⟩) .e)) none .e)
noncomputable def fi237 : FI := ⟨43, [(.cell 4 60), (.tmp 5)], b237, pl237.get⟩
noncomputable def b238 : Code := match Go.Proofs.Tryz.f238.body with | some c => c | none => .skip
def pl238 : T Plan := (.n .e none (.n (.n (.n (.n .e (some ⟨[0, 1, 4, 2, 5, 3, 6], [(4, 7), (5, 7)], [0, 0, 3, 7, 0, 16, 63]⟩) .e) none .e) none .e) none (.n (.n .e (some ⟨[0, 1, 4, 2, 5, 3, 6], [(4, 7), (5, 7)], [0, 0, 3, 7, 0, 16, 63]⟩) .e) none .e)))
noncomputable def fi238 : FI := ⟨72, [(.cell 4 58)], b238, pl238.get⟩
noncomputable def b239 : Code := match Go.Proofs.Tryz.f239.body with | some c => c | none => .skip
noncomputable def fi239 : FI := ⟨6, [(.tmp 2)], b239, fun _ => none⟩
noncomputable def b240 : Code := match Go.Proofs.Tryz.f240.body with | some c => c | none => .skip
noncomputable def fi240 : FI := ⟨6, [(.tmp 2)], b240, fun _ => none⟩
noncomputable def b241 : Code := match Go.Proofs.Tryz.f241.body with | some c => c | none => .skip
noncomputable def fi241 : FI := ⟨37, [(.cell 4 60), (.tmp 5)], b241, fun _ => none⟩
noncomputable def b242 : Code := match Go.Proofs.Tryz.f242.body with | some c => c | none => .skip
noncomputable def fi242 : FI := ⟨9, [(.tmp 2)], b242, fun _ => none⟩
noncomputable def b243 : Code := match Go.Proofs.Tryz.f243.body with | some c => c | none => .skip
noncomputable def fi243 : FI := ⟨9, [(.tmp 2)], b243, fun _ => none⟩
noncomputable def b244 : Code := match Go.Proofs.Tryz.f244.body with | some c => c | none => .skip
noncomputable def fi244 : FI := ⟨33, [(.cell 4 58), (.tmp 5)], b244, fun _ => none⟩
noncomputable def b245 : Code := match Go.Proofs.Tryz.f245.body with | some c => c | none => .skip
def pl245 : T Plan := (.n (.n (.n .e none (.n .e (some ⟨[0, 3, 6, 9, 1, 4, 7, 10, 2, 5, 8, 11, 12, 13, 14, 15], [(4, 16), (5, 16), (6, 16), (7, 16)], [0, 1, 3, 0, 8, 24, 0, 64, 192, 0, 512, 1536, 7, 4159, 12799, 32767]⟩) (.n (.n .e (some ⟨[0, 2, 5, 7, 1, 3, 6, 8, 4, 9, 10, 11, 12, 13], [(4, 8), (5, 8), (6, 8), (6, 9), (7, 8), (7, 9)], [0, 1, 0, 4, 15, 0, 32, 0, 128, 511, 1023, 2047, 4095, 8191]⟩) .e) none .e))) none .e) none (.n .e none (.n .e none (.n (.n .e (some ⟨[0, 2, 5, 7, 1, 3, 6, 8, 4, 9, 10, 11, 12, 13], [(4, 11), (5, 11), (6, 11), (7, 11)], [0, 1, 0, 4, 15, 0, 32, 0, 128, 480, 1023, 2047, 4095, 8191]⟩) .e) none (.n .e (some ⟨[0, 2, 5, 7, 1, 3, 6, 8, 4, 9, 10, 11, 12, 13, 14], [(4, 10), (4, 12), (5, 10), (5, 12), (6, 10), (7, 10)], [0, 1, 0, 4, 15, 0, 32, 0, 128, 480, 992, 2047, 4095, 8191, 16383]⟩) .e)))))
noncomputable def fi245 : FI := ⟨225, [(.cell 6 58), (.tmp 7), (.tmp 8)], b245, pl245.get⟩
noncomputable def b246 : Code := match Go.Proofs.Tryz.f246.body with | some c => c | none => .skip
def pl246 : T Plan := (.n .e none (.n .e none (.n (.n .e none (.n .e (some ⟨[0, 2, 1, 3, 4, 5, 6, 7, 8, 9], [(0, 2), (1, 2), (1, 3)], [0, 1, 0, 7, 15, 31, 63, 127, 255, 511]⟩) .e)) none .e)))
noncomputable def fi246 : FI := ⟨216, [(.cell 6 60), (.tmp 7), (.tmp 8)], b246, pl246.get⟩
noncomputable def b247 : Code := match Go.Proofs.Tryz.f247.body with | some c => c | none => .skip
noncomputable def fi247 : FI := ⟨10, [(.cell 4 58)], b247, fun _ => none⟩
noncomputable def b248 : Code := match Go.Proofs.Tryz.f248.body with | some c => c | none => .skip
def pl248 : T Plan := (.n .e none (.n (.n (.n .e (some ⟨[0, 2, 5, 7, 1, 6, 3, 8, 4, 9, 10, 11], [(4, 12), (5, 12)], [0, 1, 0, 7, 15, 0, 32, 0, 224, 480, 31, 2047]⟩) .e) none .e) none .e))
noncomputable def fi248 : FI := ⟨83, [(.cell 6 60)], b248, pl248.get⟩
noncomputable def b249 : Code := match Go.Proofs.Tryz.f249.body with | some c => c | none => .skip
def pl249 : T Plan := (.n (.n .e (some ⟨[0, 1, 2, 5, 6, 3, 7, 4, 8, 9, 10], [(7, 9), (8, 9)], [0, 0, 0, 6, 14, 0, 0, 96, 224, 511, 1023]⟩) .e) none .e)
noncomputable def fi249 : FI := ⟨32, [(.tmp 10), (.tmp 11)], b249, pl249.get⟩
noncomputable def b250 : Code := match Go.Proofs.Tryz.f250.body with | some c => c | none => .skip
def pl250 : T Plan := (.n (.n .e (some ⟨[0, 1, 4, 5, 2, 6, 3, 7, 8], [(6, 8), (7, 8)], [0, 0, 3, 7, 0, 0, 48, 112, 255]⟩) .e) none .e)
noncomputable def fi250 : FI := ⟨28, [(.tmp 8), (.tmp 9)], b250, pl250.get⟩
noncomputable def b251 : Code := match Go.Proofs.Tryz.f251.body with | some c => c | none => .skip
noncomputable def fi251 : FI := ⟨9, [(.tmp 2)], b251, fun _ => none⟩
noncomputable def b252 : Code := match Go.Proofs.Tryz.f252.body with | some c => c | none => .skip
noncomputable def fi252 : FI := ⟨10, [(.cell 2 58), (.tmp 3)], b252, fun _ => none⟩
noncomputable def b253 : Code := match Go.Proofs.Tryz.f253.body with | some c => c | none => .skip
def pl253 : T Plan := (.n (.n .e none (.n .e (some ⟨[0, 3, 5, 8, 1, 6, 2, 7, 4, 9, 10], [(4, 11), (5, 11)], [0, 1, 3, 0, 15, 0, 32, 96, 0, 480, 1023]⟩) .e)) none .e)
noncomputable def fi253 : FI := ⟨51, [(.cell 4 58), (.tmp 5)], b253, pl253.get⟩
noncomputable def b254 : Code := match Go.Proofs.Tryz.f254.body with | some c => c | none => .skip
noncomputable def fi254 : FI := ⟨10, [(.cell 2 60), (.tmp 3)], b254, fun _ => none⟩
noncomputable def b255 : Code := match Go.Proofs.Tryz.f255.body with | some c => c | none => .skip
noncomputable def fi255 : FI := ⟨38, [(.cell 4 60), (.tmp 5)], b255, fun _ => none⟩
noncomputable def b256 : Code := match Go.Proofs.Tryz.f256.body with | some c => c | none => .skip
noncomputable def fi256 : FI := ⟨20, [(.tmp 4)], b256, fun _ => none⟩
noncomputable def b257 : Code := match Go.Proofs.Tryz.f257.body with | some c => c | none => .skip
noncomputable def fi257 : FI := ⟨17, [(.tmp 4)], b257, fun _ => none⟩
noncomputable def b258 : Code := match Go.Proofs.Tryz.f258.body with | some c => c | none => .skip
noncomputable def fi258 : FI := ⟨59, [(.tmp 2)], b258, fun _ => none⟩
noncomputable def b259 : Code := match Go.Proofs.Tryz.f259.body with | some c => c | none => .skip
noncomputable def fi259 : FI := ⟨8, [(.tmp 2)], b259, fun _ => none⟩
noncomputable def b260 : Code := match Go.Proofs.Tryz.f260.body with | some c => c | none => .skip
noncomputable def fi260 : FI := ⟨38, [(.cell 6 60)], b260, fun _ => none⟩
noncomputable def b261 : Code := match Go.Proofs.Tryz.f261.body with | some c => c | none => .skip
noncomputable def fi261 : FI := ⟨11, [(.tmp 4)], b261, fun _ => none⟩
noncomputable def b262 : Code := match Go.Proofs.Tryz.f262.body with | some c => c | none => .skip
noncomputable def fi262 : FI := ⟨14, [(.tmp 2)], b262, fun _ => none⟩
noncomputable def b263 : Code := match Go.Proofs.Tryz.f263.body with | some c => c | none => .skip
noncomputable def fi263 : FI := ⟨15, [(.cell 4 60)], b263, fun _ => none⟩
noncomputable def b264 : Code := match Go.Proofs.Tryz.f264.body with | some c => c | none => .skip
noncomputable def fi264 : FI := ⟨51, [(.cell 6 60)], b264, fun _ => none⟩
noncomputable def b265 : Code := match Go.Proofs.Tryz.f265.body with | some c => c | none => .skip
noncomputable def fi265 : FI := ⟨9, [(.tmp 2)], b265, fun _ => none⟩
noncomputable def b266 : Code := match Go.Proofs.Tryz.f266.body with | some c => c | none => .skip
noncomputable def fi266 : FI := ⟨49, [(.cell 6 60)], b266, fun _ => none⟩
noncomputable def b267 : Code := match Go.Proofs.Tryz.f267.body with | some c => c | none => .skip
noncomputable def fi267 : FI := ⟨66, [(.cell 6 60), (.tmp 7)], b267, fun _ => none⟩
noncomputable def b268 : Code := match Go.Proofs.Tryz.f268.body with | some c => c | none => .skip
noncomputable def fi268 : FI := ⟨12, [(.cell 4 58)], b268, fun _ => none⟩
noncomputable def b269 : Code := match Go.Proofs.Tryz.f269.body with | some c => c | none => .skip
noncomputable def fi269 : FI := ⟨2, [(.cell 0 60)], b269, fun _ => none⟩
noncomputable def b270 : Code := match Go.Proofs.Tryz.f270.body with | some c => c | none => .skip
noncomputable def fi270 : FI := ⟨2, [(.tmp 0)], b270, fun _ => none⟩
noncomputable def b271 : Code := match Go.Proofs.Tryz.f271.body with | some c => c | none => .skip
noncomputable def fi271 : FI := ⟨8, [(.tmp 2)], b271, fun _ => none⟩
noncomputable def b272 : Code := match Go.Proofs.Tryz.f272.body with | some c => c | none => .skip
noncomputable def fi272 : FI := ⟨25, [(.cell 4 58)], b272, fun _ => none⟩
noncomputable def b273 : Code := match Go.Proofs.Tryz.f273.body with | some c => c | none => .skip
noncomputable def fi273 : FI := ⟨11, [(.tmp 2)], b273, fun _ => none⟩
noncomputable def b274 : Code := match Go.Proofs.Tryz.f274.body with | some c => c | none => .skip
noncomputable def fi274 : FI := ⟨10, [(.tmp 4)], b274, fun _ => none⟩
noncomputable def b275 : Code := match Go.Proofs.Tryz.f275.body with | some c => c | none => .skip
noncomputable def fi275 : FI := ⟨98, [(.cell 6 58)], b275, fun _ => none⟩
noncomputable def b276 : Code := match Go.Proofs.Tryz.f276.body with | some c => c | none => .skip
noncomputable def fi276 : FI := ⟨27, [(.tmp 2)], b276, fun _ => none⟩
noncomputable def b277 : Code := match Go.Proofs.Tryz.f277.body with | some c => c | none => .skip
def pl277 : T Plan := (.n .e none (.n .e none (.n (.n .e (some ⟨[0, 2, 4, 8, 10, 1, 5, 9, 3, 11, 6, 7, 12, 13], [(5, 10), (5, 13), (7, 10), (7, 13)], [0, 1, 0, 7, 0, 16, 48, 127, 0, 256, 0, 1792, 4095, 8191]⟩) .e) none .e)))
noncomputable def fi277 : FI := ⟨87, [(.cell 6 60)], b277, pl277.get⟩
noncomputable def b278 : Code := match Go.Proofs.Tryz.f278.body with | some c => c | none => .skip
noncomputable def fi278 : FI := ⟨6, [(.cell 2 60)], b278, fun _ => none⟩
noncomputable def b279 : Code := match Go.Proofs.Tryz.f279.body with | some c => c | none => .skip
noncomputable def fi279 : FI := ⟨20, [(.tmp 4), (.tmp 5)], b279, fun _ => none⟩
noncomputable def b280 : Code := match Go.Proofs.Tryz.f280.body with | some c => c | none => .skip
noncomputable def fi280 : FI := ⟨4, [(.tmp 2)], b280, fun _ => none⟩
noncomputable def b281 : Code := match Go.Proofs.Tryz.f281.body with | some c => c | none => .skip
noncomputable def fi281 : FI := ⟨32, [(.cell 4 58)], b281, fun _ => none⟩
noncomputable def b282 : Code := match Go.Proofs.Tryz.f282.body with | some c => c | none => .skip
noncomputable def fi282 : FI := ⟨32, [(.cell 4 58)], b282, fun _ => none⟩
noncomputable def b283 : Code := match Go.Proofs.Tryz.f283.body with | some c => c | none => .skip
noncomputable def fi283 : FI := ⟨29, [(.cell 4 58)], b283, fun _ => none⟩
noncomputable def b284 : Code := match Go.Proofs.Tryz.f284.body with | some c => c | none => .skip
def pl284 : T Plan := (.n .e none (.n (.n .e (some ⟨[0, 2, 5, 7, 1, 3, 6, 8, 4, 9, 10, 11, 12], [(4, 11), (5, 11), (6, 11), (7, 11)], [0, 1, 0, 4, 15, 0, 32, 0, 128, 480, 1023, 2047, 4095]⟩) .e) none .e))
noncomputable def fi284 : FI := ⟨27, [(.cell 4 58), (.tmp 5)], b284, pl284.get⟩
noncomputable def b285 : Code := match Go.Proofs.Tryz.f285.body with | some c => c | none => .skip
noncomputable def fi285 : FI := ⟨31, [(.cell 4 58), (.tmp 5)], b285, fun _ => none⟩
noncomputable def b286 : Code := match Go.Proofs.Tryz.f286.body with | some c => c | none => .skip
noncomputable def fi286 : FI := ⟨4, [(.tmp 2)], b286, fun _ => none⟩
noncomputable def b287 : Code := match Go.Proofs.Tryz.f287.body with | some c => c | none => .skip
noncomputable def fi287 : FI := ⟨11, [(.cell 4 58)], b287, fun _ => none⟩
noncomputable def b288 : Code := match Go.Proofs.Tryz.f288.body with | some c => c | none => .skip
def pl288 : T Plan := (.n (.n .e (some ⟨[0, 2, 5, 7, 1, 3, 6, 8, 4, 9, 10, 11, 12], [(4, 10), (4, 12), (5, 10), (5, 12), (6, 10), (7, 10)], [0, 1, 0, 4, 15, 0, 32, 0, 128, 480, 992, 2047, 4095]⟩) .e) none .e)
noncomputable def fi288 : FI := ⟨17, [(.cell 4 58)], b288, pl288.get⟩
noncomputable def b289 : Code := match Go.Proofs.Tryz.f289.body with | some c => c | none => .skip
noncomputable def fi289 : FI := ⟨7, [(.tmp 2)], b289, fun _ => none⟩
noncomputable def b290 : Code := match Go.Proofs.Tryz.f290.body with | some c => c | none => .skip
noncomputable def fi290 : FI := ⟨12, [(.cell 4 58)], b290, fun _ => none⟩
noncomputable def b291 : Code := match Go.Proofs.Tryz.f291.body with | some c => c | none => .skip
noncomputable def fi291 : FI := ⟨37, [(.cell 4 58)], b291, fun _ => none⟩
noncomputable def b292 : Code := match Go.Proofs.Tryz.f292.body with | some c => c | none => .skip
noncomputable def fi292 : FI := ⟨16, [(.cell 4 58)], b292, fun _ => none⟩
noncomputable def b293 : Code := match Go.Proofs.Tryz.f293.body with | some c => c | none => .skip
noncomputable def fi293 : FI := ⟨12, [(.cell 4 58)], b293, fun _ => none⟩
noncomputable def b294 : Code := match Go.Proofs.Tryz.f294.body with | some c => c | none => .skip
noncomputable def fi294 : FI := ⟨26, [(.cell 4 58)], b294, fun _ => none⟩
noncomputable def b295 : Code := match Go.Proofs.Tryz.f295.body with | some c => c | none => .skip
noncomputable def fi295 : FI := ⟨26, [(.cell 4 58)], b295, fun _ => none⟩
noncomputable def b296 : Code := match Go.Proofs.Tryz.f296.body with | some c => c | none => .skip
noncomputable def fi296 : FI := ⟨16, [(.cell 4 58)], b296, fun _ => none⟩
noncomputable def b297 : Code := match Go.Proofs.Tryz.f297.body with | some c => c | none => .skip
noncomputable def fi297 : FI := ⟨16, [(.cell 4 58)], b297, fun _ => none⟩
noncomputable def b298 : Code := match Go.Proofs.Tryz.f298.body with | some c => c | none => .skip
noncomputable def fi298 : FI := ⟨26, [(.cell 4 58)], b298, fun _ => none⟩
noncomputable def b299 : Code := match Go.Proofs.Tryz.f299.body with | some c => c | none => .skip
def pl299 : T Plan := (.n .e none (.n .e (some ⟨[0, 3, 1, 4, 2, 5, 6, 7], [(2, 4), (3, 4), (3, 5)], [0, 1, 3, 0, 8, 31, 63, 127]⟩) .e))
noncomputable def fi299 : FI := ⟨18, [(.tmp 2), (.tmp 3)], b299, pl299.get⟩
noncomputable def b300 : Code := match Go.Proofs.Tryz.f300.body with | some c => c | none => .skip
noncomputable def fi300 : FI := ⟨26, [(.cell 4 58)], b300, fun _ => none⟩
noncomputable def b301 : Code := match Go.Proofs.Tryz.f301.body with | some c => c | none => .skip
noncomputable def fi301 : FI := ⟨25, [(.tmp 6), (.tmp 7)], b301, fun _ => none⟩
noncomputable def b302 : Code := match Go.Proofs.Tryz.f302.body with | some c => c | none => .skip
def pl302 : T Plan := (.n (.n .e (some ⟨[0, 3, 8, 13, 1, 4, 9, 14, 2, 5, 10, 15, 6, 11, 7, 12, 16, 17, 18], [], [0, 1, 3, 0, 8, 24, 56, 127, 0, 256, 768, 1792, 4095, 0, 8192, 24576, 65535, 131071, 262143]⟩) .e) none .e)
noncomputable def fi302 : FI := ⟨21, [(.tmp 2)], b302, pl302.get⟩
noncomputable def b303 : Code := match Go.Proofs.Tryz.f303.body with | some c => c | none => .skip
def pl303 : T Plan := (.n .e none (.n .e (some ⟨[0, 3, 1, 4, 2, 5, 6, 7], [(2, 4), (3, 4), (3, 5)], [0, 1, 3, 0, 8, 31, 63, 127]⟩) .e))
noncomputable def fi303 : FI := ⟨18, [(.tmp 2), (.tmp 3)], b303, pl303.get⟩
noncomputable def b304 : Code := match Go.Proofs.Tryz.f304.body with | some c => c | none => .skip
noncomputable def fi304 : FI := ⟨11, [(.cell 5 58), (.tmp 6)], b304, fun _ => none⟩
noncomputable def b305 : Code := match Go.Proofs.Tryz.f305.body with | some c => c | none => .skip
noncomputable def fi305 : FI := ⟨22, [(.tmp 6), (.tmp 7)], b305, fun _ => none⟩
noncomputable def b306 : Code := match Go.Proofs.Tryz.f306.body with | some c => c | none => .skip
noncomputable def fi306 : FI := ⟨25, [(.tmp 6), (.tmp 7)], b306, fun _ => none⟩
noncomputable def b307 : Code := match Go.Proofs.Tryz.f307.body with | some c => c | none => .skip
noncomputable def fi307 : FI := ⟨17, [(.tmp 4), (.tmp 5)], b307, fun _ => none⟩
noncomputable def b308 : Code := match Go.Proofs.Tryz.f308.body with | some c => c | none => .skip
noncomputable def fi308 : FI := ⟨14, [(.cell 2 58), (.tmp 3)], b308, fun _ => none⟩
noncomputable def b309 : Code := match Go.Proofs.Tryz.f309.body with | some c => c | none => .skip
noncomputable def fi309 : FI := ⟨26, [(.cell 5 58), (.tmp 6)], b309, fun _ => none⟩
noncomputable def b310 : Code := match Go.Proofs.Tryz.f310.body with | some c => c | none => .skip
noncomputable def fi310 : FI := ⟨26, [(.cell 4 58), (.tmp 5)], b310, fun _ => none⟩
noncomputable def b311 : Code := match Go.Proofs.Tryz.f311.body with | some c => c | none => .skip
noncomputable def fi311 : FI := ⟨6, [(.tmp 2)], b311, fun _ => none⟩
noncomputable def b312 : Code := match Go.Proofs.Tryz.f312.body with | some c => c | none => .skip
noncomputable def fi312 : FI := ⟨2, [(.cell 0 319)], b312, fun _ => none⟩
noncomputable def b313 : Code := match Go.Proofs.Tryz.f313.body with | some c => c | none => .skip
noncomputable def fi313 : FI := ⟨9, [(.tmp 4), (.tmp 5)], b313, fun _ => none⟩
noncomputable def b314 : Code := match Go.Proofs.Tryz.f314.body with | some c => c | none => .skip
noncomputable def fi314 : FI := ⟨9, [(.tmp 4), (.tmp 5)], b314, fun _ => none⟩
noncomputable def b315 : Code := match Go.Proofs.Tryz.f315.body with | some c => c | none => .skip
noncomputable def fi315 : FI := ⟨9, [(.tmp 4), (.tmp 5)], b315, fun _ => none⟩
noncomputable def b316 : Code := match Go.Proofs.Tryz.f316.body with | some c => c | none => .skip
noncomputable def fi316 : FI := ⟨11, [(.tmp 4), (.tmp 5)], b316, fun _ => none⟩
noncomputable def b317 : Code := match Go.Proofs.Tryz.f317.body with | some c => c | none => .skip
noncomputable def fi317 : FI := ⟨11, [(.tmp 4), (.tmp 5)], b317, fun _ => none⟩
noncomputable def b318 : Code := match Go.Proofs.Tryz.f318.body with | some c => c | none => .skip
noncomputable def fi318 : FI := ⟨14, [(.tmp 4), (.tmp 5)], b318, fun _ => none⟩
noncomputable def b319 : Code := match Go.Proofs.Tryz.f319.body with | some c => c | none => .skip
noncomputable def fi319 : FI := ⟨14, [(.tmp 4), (.tmp 5)], b319, fun _ => none⟩
noncomputable def b320 : Code := match Go.Proofs.Tryz.f320.body with | some c => c | none => .skip
noncomputable def fi320 : FI := ⟨9, [(.tmp 4), (.tmp 5)], b320, fun _ => none⟩
noncomputable def b321 : Code := match Go.Proofs.Tryz.f321.body with | some c => c | none => .skip
noncomputable def fi321 : FI := ⟨9, [(.tmp 4), (.tmp 5)], b321, fun _ => none⟩
noncomputable def b322 : Code := match Go.Proofs.Tryz.f322.body with | some c => c | none => .skip
noncomputable def fi322 : FI := ⟨9, [(.tmp 4), (.tmp 5)], b322, fun _ => none⟩
noncomputable def b323 : Code := match Go.Proofs.Tryz.f323.body with | some c => c | none => .skip
noncomputable def fi323 : FI := ⟨9, [(.tmp 4), (.tmp 5)], b323, fun _ => none⟩
noncomputable def b324 : Code := match Go.Proofs.Tryz.f324.body with | some c => c | none => .skip
noncomputable def fi324 : FI := ⟨9, [(.tmp 4), (.tmp 5)], b324, fun _ => none⟩
noncomputable def b325 : Code := match Go.Proofs.Tryz.f325.body with | some c => c | none => .skip
noncomputable def fi325 : FI := ⟨11, [(.tmp 4), (.tmp 5)], b325, fun _ => none⟩
noncomputable def b326 : Code := match Go.Proofs.Tryz.f326.body with | some c => c | none => .skip
noncomputable def fi326 : FI := ⟨10, [(.tmp 4), (.tmp 5)], b326, fun _ => none⟩
noncomputable def b327 : Code := match Go.Proofs.Tryz.f327.body with | some c => c | none => .skip
noncomputable def fi327 : FI := ⟨4, [(.tmp 2)], b327, fun _ => none⟩
noncomputable def b328 : Code := match Go.Proofs.Tryz.f328.body with | some c => c | none => .skip
noncomputable def fi328 : FI := ⟨10, [(.tmp 4), (.tmp 5)], b328, fun _ => none⟩
noncomputable def b329 : Code := match Go.Proofs.Tryz.f329.body with | some c => c | none => .skip
noncomputable def fi329 : FI := ⟨10, [(.tmp 4), (.tmp 5)], b329, fun _ => none⟩
noncomputable def b330 : Code := match Go.Proofs.Tryz.f330.body with | some c => c | none => .skip
noncomputable def fi330 : FI := ⟨10, [(.tmp 4), (.tmp 5)], b330, fun _ => none⟩
noncomputable def b331 : Code := match Go.Proofs.Tryz.f331.body with | some c => c | none => .skip
noncomputable def fi331 : FI := ⟨12, [(.tmp 4), (.tmp 5)], b331, fun _ => none⟩
noncomputable def b332 : Code := match Go.Proofs.Tryz.f332.body with | some c => c | none => .skip
noncomputable def fi332 : FI := ⟨12, [(.tmp 4), (.tmp 5)], b332, fun _ => none⟩
noncomputable def b348 : Code := match Go.Proofs.Tryz.f348.body with | some c => c | none => .skip
def pl348 : T Plan := (.n (.n (.n .e (some ⟨[0, 3, 7, 1, 8, 2, 9, 4, 10, 5, 6, 11, 12], [(5, 13), (6, 13), (10, 13)], [0, 1, 3, 0, 15, 31, 63, 0, 128, 384, 896, 127, 4095]⟩) .e) none .e) none (.n .e (some ⟨[0, 3, 7, 10, 1, 8, 11, 2, 9, 4, 12, 5, 13, 6, 14, 15, 16], [(7, 17), (8, 17), (13, 17), (14, 17)], [0, 1, 3, 0, 15, 31, 63, 0, 128, 384, 0, 1024, 3968, 8064, 16256, 127, 65535]⟩) .e))
noncomputable def fi348 : FI := ⟨39, [(.tmp 4), (.tmp 5)], b348, pl348.get⟩
noncomputable def b350 : Code := match Go.Proofs.Tryz.f350.body with | some c => c | none => .skip
noncomputable def fi350 : FI := ⟨57, [(.tmp 2)], b350, fun _ => none⟩
noncomputable def b351 : Code := match Go.Proofs.Tryz.f351.body with | some c => c | none => .skip
noncomputable def fi351 : FI := ⟨108, [(.tmp 2)], b351, fun _ => none⟩
noncomputable def b352 : Code := match Go.Proofs.Tryz.f352.body with | some c => c | none => .skip
noncomputable def fi352 : FI := ⟨45, [(.tmp 2)], b352, fun _ => none⟩
noncomputable def b353 : Code := match Go.Proofs.Tryz.f353.body with | some c => c | none => .skip
noncomputable def fi353 : FI := ⟨65, [(.tmp 2)], b353, fun _ => none⟩
noncomputable def b354 : Code := match Go.Proofs.Tryz.f354.body with | some c => c | none => .skip
noncomputable def fi354 : FI := ⟨47, [(.tmp 2)], b354, fun _ => none⟩
noncomputable def b355 : Code := match Go.Proofs.Tryz.f355.body with | some c => c | none => .skip
noncomputable def fi355 : FI := ⟨25, [(.tmp 2)], b355, fun _ => none⟩
noncomputable def b356 : Code := match Go.Proofs.Tryz.f356.body with | some c => c | none => .skip
noncomputable def fi356 : FI := ⟨50, [(.tmp 2)], b356, fun _ => none⟩
noncomputable def b357 : Code := match Go.Proofs.Tryz.f357.body with | some c => c | none => .skip
def pl357 : T Plan := (.n .e none (.n (.n .e none (.n .e (some ⟨[0, 2, 5, 1, 3, 4, 6, 7, 8, 9, 10], [(3, 11), (5, 11), (8, 11)], [0, 1, 0, 4, 12, 0, 60, 124, 252, 511, 1023]⟩) .e)) none .e))
noncomputable def fi357 : FI := ⟨98, [(.tmp 10)], b357, pl357.get⟩
noncomputable def b358 : Code := match Go.Proofs.Tryz.f358.body with | some c => c | none => .skip
noncomputable def fi358 : FI := ⟨37, [(.tmp 5)], b358, fun _ => none⟩
noncomputable def b359 : Code := match Go.Proofs.Tryz.f359.body with | some c => c | none => .skip
noncomputable def fi359 : FI := ⟨39, [(.tmp 4)], b359, fun _ => none⟩
noncomputable def b360 : Code := match Go.Proofs.Tryz.f360.body with | some c => c | none => .skip
noncomputable def fi360 : FI := ⟨18, [(.tmp 4)], b360, fun _ => none⟩
def tyT : T TI := (.n (.n (.n (.n (.n (.n (.n .e none (.n (.n .e (some ⟨(.array 20 318), 20, 160, [.nilFunc, .nilFunc, .nilFunc, .nilFunc, .nilFunc, .nilFunc, .nilFunc, .nilFunc, .nilFunc, .nilFunc, .nilFunc, .nilFunc, .nilFunc, .nilFunc, .nilFunc, .nilFunc, .nilFunc, .nilFunc, .nilFunc, .nilFunc], false⟩) .e) none .e)) (some ⟨(.int .u32), 1, 4, [(.int .u32 0)], false⟩) .e) none .e) none (.n (.n (.n (.n .e (some ⟨(.ptr 39), 1, 8, [.nilPtr], false⟩) .e) (some ⟨(.struct [0, 1, 2, 3]), 4, 32, [(.int .i64 0), (.int .i64 0), (.int .u32 0), (.int .i64 0)], false⟩) .e) (some ⟨(.struct [0, 1, 2, 3, 4, 5, 6, 7]), 8, 88, [.nilSl, .nilSl, (.int .u32 0), (.int .u32 0), (.int .i64 0), (.int .i64 0), (.int .i64 0), (.int .i64 0)], false⟩) .e) (some ⟨(.slice 83), 1, 24, [.nilSl], false⟩) (.n (.n (.n (.n .e (some ⟨.func, 1, 8, [.nilFunc], false⟩) .e) none .e) none (.n .e (some ⟨(.slice 30), 1, 24, [.nilSl], false⟩) .e)) none (.n (.n (.n .e (some ⟨(.array 32 5), 32, 32, [(.int .u8 0), (.int .u8 0), (.int .u8 0), (.int .u8 0), (.int .u8 0), (.int .u8 0), (.int .u8 0), (.int .u8 0), (.int .u8 0), (.int .u8 0), (.int .u8 0), (.int .u8 0), (.int .u8 0), (.int .u8 0), (.int .u8 0), (.int .u8 0), (.int .u8 0), (.int .u8 0), (.int .u8 0), (.int .u8 0), (.int .u8 0), (.int .u8 0), (.int .u8 0), (.int .u8 0), (.int .u8 0), (.int .u8 0), (.int .u8 0), (.int .u8 0), (.int .u8 0), (.int .u8 0), (.int .u8 0), (.int .u8 0)], false⟩) .e) none .e) none .e)))) (some ⟨(.int .i64), 1, 8, [(.int .i64 0)], false⟩) (.n (.n (.n (.n .e (some ⟨(.slice 71), 1, 24, [.nilSl], false⟩) .e) none (.n (.n (.n .e (some ⟨(.array 20 9), 20, 320, [(.str ⟨#[]⟩), (.str ⟨#[]⟩), (.str ⟨#[]⟩), (.str ⟨#[]⟩), (.str ⟨#[]⟩), (.str ⟨#[]⟩), (.str ⟨#[]⟩), (.str ⟨#[]⟩), (.str ⟨#[]⟩), (.str ⟨#[]⟩), (.str ⟨#[]⟩), (.str ⟨#[]⟩), (.str ⟨#[]⟩), (.str ⟨#[]⟩), (.str ⟨#[]⟩), (.str ⟨#[]⟩), (.str ⟨#[]⟩), (.str ⟨#[]⟩), (.str ⟨#[]⟩), (.str ⟨#[]⟩)], false⟩) .e) none .e) none .e)) none (.n (.n .e (some ⟨(.struct [0, 1, 2]), 3, 24, [(.int .i64 0), (.int .i64 0), (.int .i64 0)], false⟩) (.n .e (some ⟨.func, 1, 8, [.nilFunc], false⟩) .e)) (some ⟨(.struct [0, 1, 2, 3, 4, 5, 6, 7]), 8, 88, [(.int .i64 0), (.int .i64 0), .nilSl, .nilSl, (.bool false), (.int .u32 0), (.int .i64 0), (.int .i64 0)], false⟩) (.n .e none (.n .e (some ⟨(.slice 9), 1, 24, [.nilSl], false⟩) .e)))) none (.n .e (some ⟨(.slice 53), 1, 24, [.nilSl], false⟩) (.n (.n .e none (.n .e (some ⟨(.int .i64), 1, 8, [(.int .i64 0)], false⟩) .e)) none (.n .e (some ⟨(.struct [0, 9, 17, 18, 22, 23, 53]), 54, 712, [.nilSl, .nilSl, .nilSl, (.int .u32 0), (.int .u32 0), (.int .i64 0), (.int .i64 0), (.int .u64 0), (.int .u64 0), .nilSl, .nilSl, .nilSl, (.int .i64 0), .nilSl, .nilSl, (.int .i64 0), .nilSl, (.int .i64 0), (.int .i64 0), (.int .i64 0), (.int .i64 0), (.int .i64 0), .nilSl, .nilSl, .nilSl, .nilSl, .nilSl, (.bool false), (.int .i64 0), .nilSl, .nilSl, .nilSl, (.int .u32 0), (.int .u32 0), (.int .i64 0), (.int .i64 0), (.int .u64 0), (.int .u64 0), (.int .i64 0), .nilSl, .nilSl, .nilSl, (.int .u32 0), (.int .u32 0), (.int .i64 0), (.int .i64 0), (.int .u64 0), (.int .u64 0), (.bool false), (.int .u32 0), (.int .u32 0), (.int .u32 0), (.int .u32 0), (.bool false)], false⟩) .e))))) none (.n (.n (.n (.n .e (some ⟨(.struct [0, 1, 2, 3]), 4, 24, [(.int .u32 0), (.int .u32 0), (.int .i64 0), (.int .i64 0)], true⟩) .e) none (.n .e (some ⟨(.struct [0, 1, 2, 3]), 4, 32, [(.int .i64 0), (.int .i64 0), (.int .i64 0), (.int .i64 0)], false⟩) (.n (.n .e (some ⟨(.struct [0]), 9, 112, [.nilSl, .nilSl, .nilSl, (.int .u32 0), (.int .u32 0), (.int .i64 0), (.int .i64 0), (.int .u64 0), (.int .u64 0)], false⟩) .e) (some ⟨.func, 1, 8, [.nilFunc], false⟩) .e))) (some ⟨.str, 1, 16, [(.str ⟨#[]⟩)], false⟩) (.n (.n (.n (.n (.n .e (some ⟨(.struct [0, 1]), 2, 8, [(.int .u32 0), (.int .u32 0)], false⟩) .e) none .e) none .e) none .e) (some ⟨(.slice 31), 1, 24, [.nilSl], false⟩) (.n (.n (.n (.n .e (some ⟨(.slice 58), 1, 24, [.nilSl], false⟩) .e) none .e) none (.n .e (some ⟨.func, 1, 8, [.nilFunc], false⟩) .e)) none (.n .e (some ⟨(.ptr 123), 1, 8, [.nilPtr], false⟩) .e)))) (some ⟨(.int .u8), 1, 1, [(.int .u8 0)], false⟩) (.n (.n (.n .e (some ⟨(.slice 51), 1, 24, [.nilSl], false⟩) .e) (some ⟨(.int .i32), 1, 4, [(.int .i32 0)], false⟩) (.n (.n (.n (.n .e (some ⟨.func, 1, 8, [.nilFunc], false⟩) .e) (some ⟨(.array 3 3), 3, 24, [(.int .i64 0), (.int .i64 0), (.int .i64 0)], false⟩) .e) none (.n (.n .e (some ⟨(.array 64 340), 64, 64, [(.int .u8 0), (.int .u8 0), (.int .u8 0), (.int .u8 0), (.int .u8 0), (.int .u8 0), (.int .u8 0), (.int .u8 0), (.int .u8 0), (.int .u8 0), (.int .u8 0), (.int .u8 0), (.int .u8 0), (.int .u8 0), (.int .u8 0), (.int .u8 0), (.int .u8 0), (.int .u8 0), (.int .u8 0), (.int .u8 0), (.int .u8 0), (.int .u8 0), (.int .u8 0), (.int .u8 0), (.int .u8 0), (.int .u8 0), (.int .u8 0), (.int .u8 0), (.int .u8 0), (.int .u8 0), (.int .u8 0), (.int .u8 0), (.int .u8 0), (.int .u8 0), (.int .u8 0), (.int .u8 0), (.int .u8 0), (.int .u8 0), (.int .u8 0), (.int .u8 0), (.int .u8 0), (.int .u8 0), (.int .u8 0), (.int .u8 0), (.int .u8 0), (.int .u8 0), (.int .u8 0), (.int .u8 0), (.int .u8 0), (.int .u8 0), (.int .u8 0), (.int .u8 0), (.int .u8 0), (.int .u8 0), (.int .u8 0), (.int .u8 0), (.int .u8 0), (.int .u8 0), (.int .u8 0), (.int .u8 0), (.int .u8 0), (.int .u8 0), (.int .u8 0), (.int .u8 0)], false⟩) .e) none .e)) (some ⟨(.slice 3), 1, 24, [.nilSl], false⟩) .e)) none (.n (.n .e none (.n (.n .e (some ⟨(.struct [0, 1, 2, 3, 4, 5]), 6, 56, [(.str ⟨#[]⟩), (.int .i64 0), (.int .i64 0), (.int .i64 0), (.int .i64 0), (.int .i64 0)], false⟩) .e) none .e)) (some ⟨(.struct [0, 1, 2, 3, 4, 5, 6, 7]), 8, 160, [.nilSl, .nilSl, .nilSl, (.int .i64 0), .nilSl, .nilSl, (.int .i64 0), .nilSl], false⟩) .e)))) none (.n (.n (.n (.n (.n (.n (.n (.n .e (some ⟨(.int .u64), 1, 8, [(.int .u64 0)], false⟩) .e) none .e) (some ⟨(.struct [0, 1, 2, 3, 4, 5, 6, 15, 25, 26]), 30, 368, [.nilSl, .nilSl, .nilSl, .nilSl, (.bool false), (.int .i64 0), .nilSl, .nilSl, .nilSl, (.int .u32 0), (.int .u32 0), (.int .i64 0), (.int .i64 0), (.int .u64 0), (.int .u64 0), (.int .i64 0), .nilSl, .nilSl, .nilSl, (.int .u32 0), (.int .u32 0), (.int .i64 0), (.int .i64 0), (.int .u64 0), (.int .u64 0), (.bool false), (.int .u32 0), (.int .u32 0), (.int .u32 0), (.int .u32 0)], false⟩) .e) none .e) none (.n (.n .e none (.n .e (some ⟨(.struct [0, 1, 2]), 3, 24, [(.int .i64 0), (.int .i64 0), (.int .i64 0)], false⟩) .e)) none .e)) none (.n (.n (.n (.n (.n .e (some ⟨.func, 1, 8, [.nilFunc], false⟩) .e) none .e) none .e) none .e) (some ⟨(.slice 208), 1, 24, [.nilSl], false⟩) (.n (.n (.n (.n .e (some ⟨.func, 1, 8, [.nilFunc], false⟩) .e) none .e) none .e) (some ⟨(.struct [0, 1]), 10, 120, [(.int .i64 0), .nilSl, .nilSl, .nilSl, (.int .u32 0), (.int .u32 0), (.int .i64 0), (.int .i64 0), (.int .u64 0), (.int .u64 0)], false⟩) (.n (.n (.n .e (some ⟨(.int .u16), 1, 2, [(.int .u16 0)], false⟩) .e) none .e) none .e)))) (some ⟨.bool, 1, 1, [(.bool false)], false⟩) (.n (.n (.n (.n (.n (.n .e (some ⟨(.ptr 3), 1, 8, [.nilPtr], false⟩) .e) none .e) none .e) (some ⟨(.struct [0, 1, 2, 3, 7, 8]), 9, 112, [.nilSl, .nilSl, .nilSl, (.int .u32 0), (.int .u32 0), (.int .i64 0), (.int .i64 0), (.int .u64 0), (.int .u64 0)], false⟩) (.n (.n (.n .e (some ⟨.func, 1, 8, [.nilFunc], false⟩) .e) none .e) none .e)) none (.n (.n .e none (.n (.n .e (some ⟨(.int .u8), 1, 1, [(.int .u8 0)], false⟩) .e) (some ⟨(.array 6 211), 6, 48, [.nilFunc, .nilFunc, .nilFunc, .nilFunc, .nilFunc, .nilFunc], false⟩) .e)) (some ⟨(.slice 56), 1, 24, [.nilSl], false⟩) .e)) none (.n (.n (.n (.n (.n .e (some ⟨(.struct [0, 2]), 4, 16, [(.int .u32 0), (.int .u32 0), (.int .u32 0), (.int .u32 0)], false⟩) .e) none .e) none .e) (some ⟨(.int .i64), 1, 8, [(.int .i64 0)], false⟩) (.n .e (some ⟨(.struct [0, 1, 2]), 6, 32, [(.int .i64 0), (.int .i64 0), (.int .u32 0), (.int .u32 0), (.int .u32 0), (.int .u32 0)], true⟩) .e)) none (.n .e (some ⟨(.struct [0, 1]), 2, 8, [(.int .u32 0), (.int .u32 0)], false⟩) .e)))) (some ⟨(.int .i64), 1, 8, [(.int .i64 0)], false⟩) (.n (.n (.n (.n (.n .e none (.n .e (some ⟨.func, 1, 8, [.nilFunc], false⟩) .e)) (some ⟨(.int .u64), 1, 8, [(.int .u64 0)], false⟩) .e) none (.n (.n (.n (.n .e (some ⟨.func, 1, 8, [.nilFunc], false⟩) .e) none .e) none (.n .e (some ⟨(.map 3 4), 1, 8, [.nilMap], false⟩) .e)) none .e)) none (.n (.n (.n (.n (.n .e (some ⟨(.struct [0, 1]), 2, 8, [(.int .u32 0), (.int .u32 0)], false⟩) .e) none .e) none .e) none (.n (.n .e (some ⟨(.int .u64), 1, 8, [(.int .u64 0)], false⟩) .e) none .e)) (some ⟨(.slice 186), 1, 24, [.nilSl], false⟩) (.n (.n (.n (.n .e (some ⟨(.slice 60), 1, 24, [.nilSl], false⟩) .e) none .e) none .e) (some ⟨(.struct [0, 1]), 2, 8, [(.int .u32 0), (.int .u32 0)], true⟩) (.n (.n .e (some ⟨(.struct [0, 1]), 2, 2, [(.bool false), (.bool false)], false⟩) .e) none .e)))) none (.n (.n .e (some ⟨(.slice 49), 1, 24, [.nilSl], false⟩) (.n (.n .e none (.n .e (some ⟨(.struct [0]), 8, 160, [.nilSl, .nilSl, .nilSl, (.int .i64 0), .nilSl, .nilSl, (.int .i64 0), .nilSl], false⟩) .e)) (some ⟨(.slice 108), 1, 24, [.nilSl], false⟩) .e)) none (.n (.n .e none (.n (.n .e (some ⟨(.slice 173), 1, 24, [.nilSl], false⟩) .e) none .e)) (some ⟨(.slice 62), 1, 24, [.nilSl], false⟩) (.n .e (some ⟨(.struct [0, 2]), 4, 16, [(.int .u32 0), (.int .u32 0), (.int .u32 0), (.int .u32 0)], true⟩) (.n (.n (.n .e (some ⟨.func, 1, 8, [.nilFunc], false⟩) .e) none .e) none .e)))))))
noncomputable def fnT : T FI := (.n (.n (.n (.n (.n (.n (.n (.n (.n .e (some fi255) .e) (some fi127) .e) (some fi63) (.n (.n .e (some fi319) .e) (some fi191) .e)) (some fi31) (.n (.n (.n .e (some fi287) .e) (some fi159) .e) (some fi95) (.n (.n .e (some fi351) .e) (some fi223) .e))) (some fi15) (.n (.n (.n (.n .e (some fi271) .e) (some fi143) .e) (some fi79) (.n .e (some fi207) .e)) (some fi47) (.n (.n (.n .e (some fi303) .e) (some fi175) .e) (some fi111) (.n .e (some fi239) .e)))) (some fi7) (.n (.n (.n (.n (.n .e (some fi263) .e) (some fi135) .e) (some fi71) (.n (.n .e (some fi327) .e) (some fi199) .e)) (some fi39) (.n (.n (.n .e (some fi295) .e) (some fi167) .e) (some fi103) (.n (.n .e (some fi359) .e) (some fi231) .e))) (some fi23) (.n (.n (.n (.n .e (some fi279) .e) (some fi151) .e) (some fi87) (.n .e (some fi215) .e)) (some fi55) (.n (.n (.n .e (some fi311) .e) (some fi183) .e) (some fi119) (.n .e (some fi247) .e))))) (some fi3) (.n (.n (.n (.n (.n (.n .e (some fi259) .e) (some fi131) .e) (some fi67) (.n (.n .e (some fi323) .e) (some fi195) .e)) (some fi35) (.n (.n (.n .e (some fi291) .e) (some fi163) .e) (some fi99) (.n (.n .e (some fi355) .e) (some fi227) .e))) (some fi19) (.n (.n (.n (.n .e (some fi275) .e) (some fi147) .e) (some fi83) (.n .e (some fi211) .e)) (some fi51) (.n (.n (.n .e (some fi307) .e) (some fi179) .e) (some fi115) (.n .e (some fi243) .e)))) (some fi11) (.n (.n (.n (.n (.n .e (some fi267) .e) (some fi139) .e) (some fi75) (.n (.n .e (some fi331) .e) (some fi203) .e)) (some fi43) (.n (.n (.n .e (some fi299) .e) (some fi171) .e) (some fi107) (.n .e (some fi235) .e))) (some fi27) (.n (.n (.n (.n .e (some fi283) .e) (some fi155) .e) (some fi91) (.n .e (some fi219) .e)) (some fi59) (.n (.n (.n .e (some fi315) .e) (some fi187) .e) (some fi123) (.n .e (some fi251) .e)))))) none (.n (.n (.n (.n (.n (.n (.n .e (some fi257) .e) (some fi129) .e) (some fi65) (.n (.n .e (some fi321) .e) (some fi193) .e)) (some fi33) (.n (.n (.n .e (some fi289) .e) (some fi161) .e) (some fi97) (.n (.n .e (some fi353) .e) (some fi225) .e))) (some fi17) (.n (.n (.n (.n .e (some fi273) .e) (some fi145) .e) (some fi81) (.n .e (some fi209) .e)) (some fi49) (.n (.n (.n .e (some fi305) .e) (some fi177) .e) (some fi113) (.n .e (some fi241) .e)))) (some fi9) (.n (.n (.n (.n (.n .e (some fi265) .e) (some fi137) .e) (some fi73) (.n (.n .e (some fi329) .e) (some fi201) .e)) (some fi41) (.n (.n (.n .e (some fi297) .e) (some fi169) .e) (some fi105) (.n .e (some fi233) .e))) (some fi25) (.n (.n (.n (.n .e (some fi281) .e) (some fi153) .e) (some fi89) (.n .e (some fi217) .e)) (some fi57) (.n (.n (.n .e (some fi313) .e) (some fi185) .e) (some fi121) (.n .e (some fi249) .e))))) (some fi5) (.n (.n (.n (.n (.n (.n .e (some fi261) .e) (some fi133) .e) (some fi69) (.n (.n .e (some fi325) .e) (some fi197) .e)) (some fi37) (.n (.n (.n .e (some fi293) .e) (some fi165) .e) (some fi101) (.n (.n .e (some fi357) .e) (some fi229) .e))) (some fi21) (.n (.n (.n (.n .e (some fi277) .e) (some fi149) .e) (some fi85) (.n .e (some fi213) .e)) (some fi53) (.n (.n (.n .e (some fi309) .e) (some fi181) .e) (some fi117) (.n .e (some fi245) .e)))) (some fi13) (.n (.n (.n (.n (.n .e (some fi269) .e) (some fi141) .e) (some fi77) (.n .e (some fi205) .e)) (some fi45) (.n (.n (.n .e (some fi301) .e) (some fi173) .e) (some fi109) (.n .e (some fi237) .e))) (some fi29) (.n (.n (.n (.n .e (some fi285) .e) (some fi157) .e) (some fi93) (.n .e (some fi221) .e)) (some fi61) (.n (.n (.n .e (some fi317) .e) (some fi189) .e) (some fi125) (.n .e (some fi253) .e))))))) none (.n (.n (.n (.n (.n (.n (.n (.n .e (some fi256) .e) (some fi128) .e) (some fi64) (.n (.n .e (some fi320) .e) (some fi192) .e)) (some fi32) (.n (.n (.n .e (some fi288) .e) (some fi160) .e) (some fi96) (.n (.n .e (some fi352) .e) (some fi224) .e))) (some fi16) (.n (.n (.n (.n .e (some fi272) .e) (some fi144) .e) (some fi80) (.n .e (some fi208) .e)) (some fi48) (.n (.n (.n .e (some fi304) .e) (some fi176) .e) (some fi112) (.n .e (some fi240) .e)))) (some fi8) (.n (.n (.n (.n (.n .e (some fi264) .e) (some fi136) .e) (some fi72) (.n (.n .e (some fi328) .e) (some fi200) .e)) (some fi40) (.n (.n (.n .e (some fi296) .e) (some fi168) .e) (some fi104) (.n (.n .e (some fi360) .e) (some fi232) .e))) (some fi24) (.n (.n (.n (.n .e (some fi280) .e) (some fi152) .e) (some fi88) (.n .e (some fi216) .e)) (some fi56) (.n (.n (.n .e (some fi312) .e) (some fi184) .e) (some fi120) (.n .e (some fi248) .e))))) (some fi4) (.n (.n (.n (.n (.n (.n .e (some fi260) .e) (some fi132) .e) (some fi68) (.n (.n .e (some fi324) .e) (some fi196) .e)) (some fi36) (.n (.n (.n .e (some fi292) .e) (some fi164) .e) (some fi100) (.n (.n .e (some fi356) .e) (some fi228) .e))) (some fi20) (.n (.n (.n (.n .e (some fi276) .e) (some fi148) .e) (some fi84) (.n .e (some fi212) .e)) (some fi52) (.n (.n (.n .e (some fi308) .e) (some fi180) .e) (some fi116) (.n .e (some fi244) .e)))) (some fi12) (.n (.n (.n (.n (.n .e (some fi268) .e) (some fi140) .e) (some fi76) (.n (.n .e (some fi332) .e) (some fi204) .e)) (some fi44) (.n (.n (.n .e (some fi300) .e) (some fi172) .e) (some fi108) (.n .e (some fi236) .e))) (some fi28) (.n (.n (.n (.n .e (some fi284) .e) (some fi156) .e) (some fi92) (.n (.n .e (some fi348) .e) (some fi220) .e)) (some fi60) (.n (.n (.n .e (some fi316) .e) (some fi188) .e) (some fi124) (.n .e (some fi252) .e)))))) none (.n (.n (.n (.n (.n (.n (.n .e (some fi258) .e) (some fi130) .e) (some fi66) (.n (.n .e (some fi322) .e) (some fi194) .e)) (some fi34) (.n (.n (.n .e (some fi290) .e) (some fi162) .e) (some fi98) (.n (.n .e (some fi354) .e) (some fi226) .e))) (some fi18) (.n (.n (.n (.n .e (some fi274) .e) (some fi146) .e) (some fi82) (.n .e (some fi210) .e)) (some fi50) (.n (.n (.n .e (some fi306) .e) (some fi178) .e) (some fi114) (.n .e (some fi242) .e)))) (some fi10) (.n (.n (.n (.n (.n .e (some fi266) .e) (some fi138) .e) (some fi74) (.n (.n .e (some fi330) .e) (some fi202) .e)) (some fi42) (.n (.n (.n .e (some fi298) .e) (some fi170) .e) (some fi106) (.n .e (some fi234) .e))) (some fi26) (.n (.n (.n (.n .e (some fi282) .e) (some fi154) .e) (some fi90) (.n .e (some fi218) .e)) (some fi58) (.n (.n (.n .e (some fi314) .e) (some fi186) .e) (some fi122) (.n .e (some fi250) .e))))) (some fi6) (.n (.n (.n (.n (.n (.n .e (some fi262) .e) (some fi134) .e) (some fi70) (.n (.n .e (some fi326) .e) (some fi198) .e)) (some fi38) (.n (.n (.n .e (some fi294) .e) (some fi166) .e) (some fi102) (.n (.n .e (some fi358) .e) (some fi230) .e))) (some fi22) (.n (.n (.n (.n .e (some fi278) .e) (some fi150) .e) (some fi86) (.n .e (some fi214) .e)) (some fi54) (.n (.n (.n .e (some fi310) .e) (some fi182) .e) (some fi118) (.n .e (some fi246) .e)))) (some fi14) (.n (.n (.n (.n (.n .e (some fi270) .e) (some fi142) .e) (some fi78) (.n .e (some fi206) .e)) (some fi46) (.n (.n (.n .e (some fi302) .e) (some fi174) .e) (some fi110) (.n .e (some fi238) .e))) (some fi30) (.n (.n (.n (.n .e (some fi286) .e) (some fi158) .e) (some fi94) (.n (.n .e (some fi350) .e) (some fi222) .e)) (some fi62) (.n (.n (.n .e (some fi318) .e) (some fi190) .e) (some fi126) (.n .e (some fi254) .e))))))))
def tyL : List (Nat × TI) := [(2, ⟨(.int .i64), 1, 8, [(.int .i64 0)], false⟩), (3, ⟨(.int .i64), 1, 8, [(.int .i64 0)], false⟩), (4, ⟨.bool, 1, 1, [(.bool false)], false⟩), (5, ⟨(.int .u8), 1, 1, [(.int .u8 0)], false⟩), (9, ⟨.str, 1, 16, [(.str ⟨#[]⟩)], false⟩), (21, ⟨(.int .i32), 1, 4, [(.int .i32 0)], false⟩), (22, ⟨(.slice 49), 1, 24, [.nilSl], false⟩), (23, ⟨(.slice 83), 1, 24, [.nilSl], false⟩), (24, ⟨(.slice 208), 1, 24, [.nilSl], false⟩), (25, ⟨(.slice 31), 1, 24, [.nilSl], false⟩), (26, ⟨(.slice 186), 1, 24, [.nilSl], false⟩), (27, ⟨(.slice 53), 1, 24, [.nilSl], false⟩), (29, ⟨(.struct [0, 1, 2, 3, 4, 5, 6, 7]), 8, 160, [.nilSl, .nilSl, .nilSl, (.int .i64 0), .nilSl, .nilSl, (.int .i64 0), .nilSl], false⟩), (30, ⟨(.slice 62), 1, 24, [.nilSl], false⟩), (31, ⟨(.int .u32), 1, 4, [(.int .u32 0)], false⟩), (33, ⟨(.struct [0, 1, 2, 3]), 4, 24, [(.int .u32 0), (.int .u32 0), (.int .i64 0), (.int .i64 0)], true⟩), (34, ⟨(.int .u64), 1, 8, [(.int .u64 0)], false⟩), (36, ⟨(.struct [0, 1, 2, 3, 7, 8]), 9, 112, [.nilSl, .nilSl, .nilSl, (.int .u32 0), (.int .u32 0), (.int .i64 0), (.int .i64 0), (.int .u64 0), (.int .u64 0)], false⟩), (37, ⟨(.slice 51), 1, 24, [.nilSl], false⟩), (39, ⟨(.struct [0, 1, 2, 3, 4, 5, 6, 7]), 8, 88, [.nilSl, .nilSl, (.int .u32 0), (.int .u32 0), (.int .i64 0), (.int .i64 0), (.int .i64 0), (.int .i64 0)], false⟩), (44, ⟨(.int .i64), 1, 8, [(.int .i64 0)], false⟩), (49, ⟨(.struct [0, 1, 2, 3]), 4, 32, [(.int .i64 0), (.int .i64 0), (.int .i64 0), (.int .i64 0)], false⟩), (51, ⟨(.struct [0, 1, 2, 3, 4, 5, 6, 7]), 8, 88, [(.int .i64 0), (.int .i64 0), .nilSl, .nilSl, (.bool false), (.int .u32 0), (.int .i64 0), (.int .i64 0)], false⟩), (52, ⟨(.slice 56), 1, 24, [.nilSl], false⟩), (53, ⟨(.slice 3), 1, 24, [.nilSl], false⟩), (54, ⟨(.slice 108), 1, 24, [.nilSl], false⟩), (56, ⟨(.struct [0, 1]), 10, 120, [(.int .i64 0), .nilSl, .nilSl, .nilSl, (.int .u32 0), (.int .u32 0), (.int .i64 0), (.int .i64 0), (.int .u64 0), (.int .u64 0)], false⟩), (58, ⟨(.struct [0, 1]), 2, 8, [(.int .u32 0), (.int .u32 0)], true⟩), (60, ⟨(.struct [0, 1]), 2, 8, [(.int .u32 0), (.int .u32 0)], false⟩), (62, ⟨(.struct [0, 2]), 4, 16, [(.int .u32 0), (.int .u32 0), (.int .u32 0), (.int .u32 0)], true⟩), (64, ⟨(.struct [0, 1, 2, 3, 4, 5, 6, 15, 25, 26]), 30, 368, [.nilSl, .nilSl, .nilSl, .nilSl, (.bool false), (.int .i64 0), .nilSl, .nilSl, .nilSl, (.int .u32 0), (.int .u32 0), (.int .i64 0), (.int .i64 0), (.int .u64 0), (.int .u64 0), (.int .i64 0), .nilSl, .nilSl, .nilSl, (.int .u32 0), (.int .u32 0), (.int .i64 0), (.int .i64 0), (.int .u64 0), (.int .u64 0), (.bool false), (.int .u32 0), (.int .u32 0), (.int .u32 0), (.int .u32 0)], false⟩), (67, ⟨(.slice 71), 1, 24, [.nilSl], false⟩), (71, ⟨(.struct [0, 1, 2, 3]), 4, 32, [(.int .i64 0), (.int .i64 0), (.int .u32 0), (.int .i64 0)], false⟩), (83, ⟨(.struct [0, 1, 2]), 3, 24, [(.int .i64 0), (.int .i64 0), (.int .i64 0)], false⟩), (108, ⟨(.struct [0, 1, 2]), 6, 32, [(.int .i64 0), (.int .i64 0), (.int .u32 0), (.int .u32 0), (.int .u32 0), (.int .u32 0)], true⟩), (113, ⟨.func, 1, 8, [.nilFunc], false⟩), (121, ⟨(.ptr 123), 1, 8, [.nilPtr], false⟩), (123, ⟨(.struct [0, 9, 17, 18, 22, 23, 53]), 54, 712, [.nilSl, .nilSl, .nilSl, (.int .u32 0), (.int .u32 0), (.int .i64 0), (.int .i64 0), (.int .u64 0), (.int .u64 0), .nilSl, .nilSl, .nilSl, (.int .i64 0), .nilSl, .nilSl, (.int .i64 0), .nilSl, (.int .i64 0), (.int .i64 0), (.int .i64 0), (.int .i64 0), (.int .i64 0), .nilSl, .nilSl, .nilSl, .nilSl, .nilSl, (.bool false), (.int .i64 0), .nilSl, .nilSl, .nilSl, (.int .u32 0), (.int .u32 0), (.int .i64 0), (.int .i64 0), (.int .u64 0), (.int .u64 0), (.int .i64 0), .nilSl, .nilSl, .nilSl, (.int .u32 0), (.int .u32 0), (.int .i64 0), (.int .i64 0), (.int .u64 0), (.int .u64 0), (.bool false), (.int .u32 0), (.int .u32 0), (.int .u32 0), (.int .u32 0), (.bool false)], false⟩), (135, ⟨(.ptr 39), 1, 8, [.nilPtr], false⟩), (149, ⟨(.array 3 3), 3, 24, [(.int .i64 0), (.int .i64 0), (.int .i64 0)], false⟩), (170, ⟨(.int .u64), 1, 8, [(.int .u64 0)], false⟩), (173, ⟨(.struct [0, 1, 2, 3, 4, 5]), 6, 56, [(.str ⟨#[]⟩), (.int .i64 0), (.int .i64 0), (.int .i64 0), (.int .i64 0), (.int .i64 0)], false⟩), (174, ⟨(.slice 173), 1, 24, [.nilSl], false⟩), (177, ⟨(.struct [0]), 9, 112, [.nilSl, .nilSl, .nilSl, (.int .u32 0), (.int .u32 0), (.int .i64 0), (.int .i64 0), (.int .u64 0), (.int .u64 0)], false⟩), (186, ⟨(.struct [0, 1]), 2, 2, [(.bool false), (.bool false)], false⟩), (194, ⟨.func, 1, 8, [.nilFunc], false⟩), (208, ⟨(.struct [0, 1, 2]), 3, 24, [(.int .i64 0), (.int .i64 0), (.int .i64 0)], false⟩), (210, ⟨(.map 3 4), 1, 8, [.nilMap], false⟩), (211, ⟨.func, 1, 8, [.nilFunc], false⟩), (212, ⟨(.array 6 211), 6, 48, [.nilFunc, .nilFunc, .nilFunc, .nilFunc, .nilFunc, .nilFunc], false⟩), (214, ⟨(.struct [0]), 8, 160, [.nilSl, .nilSl, .nilSl, (.int .i64 0), .nilSl, .nilSl, (.int .i64 0), .nilSl], false⟩), (215, ⟨(.slice 30), 1, 24, [.nilSl], false⟩), (217, ⟨.func, 1, 8, [.nilFunc], false⟩), (219, ⟨(.int .i64), 1, 8, [(.int .i64 0)], false⟩), (243, ⟨(.slice 9), 1, 24, [.nilSl], false⟩), (256, ⟨(.int .u64), 1, 8, [(.int .u64 0)], false⟩), (260, ⟨(.ptr 3), 1, 8, [.nilPtr], false⟩), (264, ⟨.func, 1, 8, [.nilFunc], false⟩), (265, ⟨(.struct [0, 1]), 2, 8, [(.int .u32 0), (.int .u32 0)], false⟩), (266, ⟨(.struct [0, 1]), 2, 8, [(.int .u32 0), (.int .u32 0)], false⟩), (268, ⟨(.struct [0, 2]), 4, 16, [(.int .u32 0), (.int .u32 0), (.int .u32 0), (.int .u32 0)], false⟩), (274, ⟨.func, 1, 8, [.nilFunc], false⟩), (277, ⟨.func, 1, 8, [.nilFunc], false⟩), (279, ⟨.func, 1, 8, [.nilFunc], false⟩), (280, ⟨.func, 1, 8, [.nilFunc], false⟩), (281, ⟨(.slice 58), 1, 24, [.nilSl], false⟩), (282, ⟨(.slice 60), 1, 24, [.nilSl], false⟩), (291, ⟨(.array 20 9), 20, 320, [(.str ⟨#[]⟩), (.str ⟨#[]⟩), (.str ⟨#[]⟩), (.str ⟨#[]⟩), (.str ⟨#[]⟩), (.str ⟨#[]⟩), (.str ⟨#[]⟩), (.str ⟨#[]⟩), (.str ⟨#[]⟩), (.str ⟨#[]⟩), (.str ⟨#[]⟩), (.str ⟨#[]⟩), (.str ⟨#[]⟩), (.str ⟨#[]⟩), (.str ⟨#[]⟩), (.str ⟨#[]⟩), (.str ⟨#[]⟩), (.str ⟨#[]⟩), (.str ⟨#[]⟩), (.str ⟨#[]⟩)], false⟩), (292, ⟨.func, 1, 8, [.nilFunc], false⟩), (311, ⟨(.array 32 5), 32, 32, [(.int .u8 0), (.int .u8 0), (.int .u8 0), (.int .u8 0), (.int .u8 0), (.int .u8 0), (.int .u8 0), (.int .u8 0), (.int .u8 0), (.int .u8 0), (.int .u8 0), (.int .u8 0), (.int .u8 0), (.int .u8 0), (.int .u8 0), (.int .u8 0), (.int .u8 0), (.int .u8 0), (.int .u8 0), (.int .u8 0), (.int .u8 0), (.int .u8 0), (.int .u8 0), (.int .u8 0), (.int .u8 0), (.int .u8 0), (.int .u8 0), (.int .u8 0), (.int .u8 0), (.int .u8 0), (.int .u8 0), (.int .u8 0)], false⟩), (312, ⟨(.int .u16), 1, 2, [(.int .u16 0)], false⟩), (318, ⟨.func, 1, 8, [.nilFunc], false⟩), (319, ⟨(.array 20 318), 20, 160, [.nilFunc, .nilFunc, .nilFunc, .nilFunc, .nilFunc, .nilFunc, .nilFunc, .nilFunc, .nilFunc, .nilFunc, .nilFunc, .nilFunc, .nilFunc, .nilFunc, .nilFunc, .nilFunc, .nilFunc, .nilFunc, .nilFunc, .nilFunc], false⟩), (340, ⟨(.int .u8), 1, 1, [(.int .u8 0)], false⟩), (341, ⟨(.array 64 340), 64, 64, [(.int .u8 0), (.int .u8 0), (.int .u8 0), (.int .u8 0), (.int .u8 0), (.int .u8 0), (.int .u8 0), (.int .u8 0), (.int .u8 0), (.int .u8 0), (.int .u8 0), (.int .u8 0), (.int .u8 0), (.int .u8 0), (.int .u8 0), (.int .u8 0), (.int .u8 0), (.int .u8 0), (.int .u8 0), (.int .u8 0), (.int .u8 0), (.int .u8 0), (.int .u8 0), (.int .u8 0), (.int .u8 0), (.int .u8 0), (.int .u8 0), (.int .u8 0), (.int .u8 0), (.int .u8 0), (.int .u8 0), (.int .u8 0), (.int .u8 0), (.int .u8 0), (.int .u8 0), (.int .u8 0), (.int .u8 0), (.int .u8 0), (.int .u8 0), (.int .u8 0), (.int .u8 0), (.int .u8 0), (.int .u8 0), (.int .u8 0), (.int .u8 0), (.int .u8 0), (.int .u8 0), (.int .u8 0), (.int .u8 0), (.int .u8 0), (.int .u8 0), (.int .u8 0), (.int .u8 0), (.int .u8 0), (.int .u8 0), (.int .u8 0), (.int .u8 0), (.int .u8 0), (.int .u8 0), (.int .u8 0), (.int .u8 0), (.int .u8 0), (.int .u8 0), (.int .u8 0)], false⟩)]
noncomputable def fnL : List (Nat × FI) := [(3, fi3), (4, fi4), (5, fi5), (6, fi6), (7, fi7), (8, fi8), (9, fi9), (10, fi10), (11, fi11), (12, fi12), (13, fi13), (14, fi14), (15, fi15), (16, fi16), (17, fi17), (18, fi18), (19, fi19), (20, fi20), (21, fi21), (22, fi22), (23, fi23), (24, fi24), (25, fi25), (26, fi26), (27, fi27), (28, fi28), (29, fi29), (30, fi30), (31, fi31), (32, fi32), (33, fi33), (34, fi34), (35, fi35), (36, fi36), (37, fi37), (38, fi38), (39, fi39), (40, fi40), (41, fi41), (42, fi42), (43, fi43), (44, fi44), (45, fi45), (46, fi46), (47, fi47), (48, fi48), (49, fi49), (50, fi50), (51, fi51), (52, fi52), (53, fi53), (54, fi54), (55, fi55), (56, fi56), (57, fi57), (58, fi58), (59, fi59), (60, fi60), (61, fi61), (62, fi62), (63, fi63), (64, fi64), (65, fi65), (66, fi66), (67, fi67), (68, fi68), (69, fi69), (70, fi70), (71, fi71), (72, fi72), (73, fi73), (74, fi74), (75, fi75), (76, fi76), (77, fi77), (78, fi78), (79, fi79), (80, fi80), (81, fi81), (82, fi82), (83, fi83), (84, fi84), (85, fi85), (86, fi86), (87, fi87), (88, fi88), (89, fi89), (90, fi90), (91, fi91), (92, fi92), (93, fi93), (94, fi94), (95, fi95), (96, fi96), (97, fi97), (98, fi98), (99, fi99), (100, fi100), (101, fi101), (102, fi102), (103, fi103), (104, fi104), (105, fi105), (106, fi106), (107, fi107), (108, fi108), (109, fi109), (110, fi110), (111, fi111), (112, fi112), (113, fi113), (114, fi114), (115, fi115), (116, fi116), (117, fi117), (118, fi118), (119, fi119), (120, fi120), (121, fi121), (122, fi122), (123, fi123), (124, fi124), (125, fi125), (126, fi126), (127, fi127), (128, fi128), (129, fi129), (130, fi130), (131, fi131), (132, fi132), (133, fi133), (134, fi134), (135, fi135), (136, fi136), (137, fi137), (138, fi138), (139, fi139), (140, fi140), (141, fi141), (142, fi142), (143, fi143), (144, fi144), (145, fi145), (146, fi146), (147, fi147), (148, fi148), (149, fi149), (150, fi150), (151, fi151), (152, fi152), (153, fi153), (154, fi154), (155, fi155), (156, fi156), (157, fi157), (158, fi158), (159, fi159), (160, fi160), (161, fi161), (162, fi162), (163, fi163), (164, fi164), (165, fi165), (166, fi166), (167, fi167), (168, fi168), (169, fi169), (170, fi170), (171, fi171), (172, fi172), (173, fi173), (174, fi174), (175, fi175), (176, fi176), (177, fi177), (178, fi178), (179, fi179), (180, fi180), (181, fi181), (182, fi182), (183, fi183), (184, fi184), (185, fi185), (186, fi186), (187, fi187), (188, fi188), (189, fi189), (190, fi190), (191, fi191), (192, fi192), (193, fi193), (194, fi194), (195, fi195), (196, fi196), (197, fi197), (198, fi198), (199, fi199), (200, fi200), (201, fi201), (202, fi202), (203, fi203), (204, fi204), (205, fi205), (206, fi206), (207, fi207), (208, fi208), (209, fi209), (210, fi210), (211, fi211), (212, fi212), (213, fi213), (214, fi214), (215, fi215), (216, fi216), (217, fi217), (218, fi218), (219, fi219), (220, fi220), (221, fi221), (222, fi222), (223, fi223), (224, fi224), (225, fi225), (226, fi226), (227, fi227), (228, fi228), (229, fi229), (230, fi230), (231, fi231), (232, fi232), (233, fi233), (234, fi234), (235, fi235), (236, fi236), (237, fi237), (238, fi238), (239, fi239), (240, fi240), (241, fi241), (242, fi242), (243, fi243), (244, fi244), (245, fi245), (246, fi246), (247, fi247), (248, fi248), (249, fi249), (250, fi250), (251, fi251), (252, fi252), (253, fi253), (254, fi254), (255, fi255), (256, fi256), (257, fi257), (258, fi258), (259, fi259), (260, fi260), (261, fi261), (262, fi262), (263, fi263), (264, fi264), (265, fi265), (266, fi266), (267, fi267), (268, fi268), (269, fi269), (270, fi270), (271, fi271), (272, fi272), (273, fi273), (274, fi274), (275, fi275), (276, fi276), (277, fi277), (278, fi278), (279, fi279), (280, fi280), (281, fi281), (282, fi282), (283, fi283), (284, fi284), (285, fi285), (286, fi286), (287, fi287), (288, fi288), (289, fi289), (290, fi290), (291, fi291), (292, fi292), (293, fi293), (294, fi294), (295, fi295), (296, fi296), (297, fi297), (298, fi298), (299, fi299), (300, fi300), (301, fi301), (302, fi302), (303, fi303), (304, fi304), (305, fi305), (306, fi306), (307, fi307), (308, fi308), (309, fi309), (310, fi310), (311, fi311), (312, fi312), (313, fi313), (314, fi314), (315, fi315), (316, fi316), (317, fi317), (318, fi318), (319, fi319), (320, fi320), (321, fi321), (322, fi322), (323, fi323), (324, fi324), (325, fi325), (326, fi326), (327, fi327), (328, fi328), (329, fi329), (330, fi330), (331, fi331), (332, fi332), (348, fi348), (350, fi350), (351, fi351), (352, fi352), (353, fi353), (354, fi354), (355, fi355), (356, fi356), (357, fi357), (358, fi358), (359, fi359), (360, fi360)]
end Go.Rf
