/-
  The tables of the translation: types, functions, plans. Printed by wip/tools/mktab.py. No statement of the program is claimed here.
-/
import Derived.Test.YtbkjelhkjncfkaaGreatDoorProg
import Derived.Test.YtbkjelhkjncfkaaGreatDoorRfV
import Derived.KernelRfl
namespace Go.Rf
set_option maxRecDepth 100000
noncomputable def b4 : Code := match Go.Proofs.Tryz.f4.body with | some c => c | none => .skip
def pl4 : T Plan := (.n .e none (.n .e (some ⟨[0, 1, 2, 3, 4, 5, 6, 7, 8, 10, 11, 9, 12, 13, 14, 15, 16, 17, 18, 19, 20, 21, 22], [(1, 11), (5, 11), (9, 11), (9, 12), (10, 11), (10, 12)], [0, 1, 3, 7, 15, 31, 63, 127, 255, 511, 511, 511, 4095, 8191, 16383, 32767, 65535, 131071, 262143, 524287, 1048575, 2097151, 4194303]⟩) .e))
noncomputable def fi4 : FI := ⟨26, [(.tmp 0)], b4, pl4.get⟩
noncomputable def b6 : Code := match Go.Proofs.Tryz.f6.body with | some c => c | none => .skip
def pl6 : T Plan := (.n .e none (.n (.n (.n .e none (.n .e (some ⟨[0, 2, 4, 5, 10, 1, 3, 6, 7, 8, 9], [(2, 8), (5, 8), (5, 11), (6, 8), (6, 11), (7, 8), (9, 11)], [0, 1, 0, 4, 0, 0, 32, 112, 255, 511, 0]⟩) .e)) none .e) none .e))
noncomputable def fi6 : FI := ⟨115, [(.tmp 6)], b6, pl6.get⟩
noncomputable def b7 : Code := match Go.Proofs.Tryz.f7.body with | some c => c | none => .skip
noncomputable def fi7 : FI := ⟨12, [(.tmp 2)], b7, fun _ => none⟩
noncomputable def b8 : Code := match Go.Proofs.Tryz.f8.body with | some c => c | none => .skip
noncomputable def fi8 : FI := ⟨49, [(.cell 2 26)], b8, fun _ => none⟩
noncomputable def b9 : Code := match Go.Proofs.Tryz.f9.body with | some c => c | none => .skip
noncomputable def fi9 : FI := ⟨12, [(.cell 0 37)], b9, fun _ => none⟩
noncomputable def b10 : Code := match Go.Proofs.Tryz.f10.body with | some c => c | none => .skip
noncomputable def fi10 : FI := ⟨14, [(.cell 0 37)], b10, fun _ => none⟩
noncomputable def b11 : Code := match Go.Proofs.Tryz.f11.body with | some c => c | none => .skip
noncomputable def fi11 : FI := ⟨6, [], b11, fun _ => none⟩
noncomputable def b12 : Code := match Go.Proofs.Tryz.f12.body with | some c => c | none => .skip
noncomputable def fi12 : FI := ⟨6, [], b12, fun _ => none⟩
noncomputable def b13 : Code := match Go.Proofs.Tryz.f13.body with | some c => c | none => .skip
noncomputable def fi13 : FI := ⟨11, [(.tmp 6)], b13, fun _ => none⟩
noncomputable def b14 : Code := match Go.Proofs.Tryz.f14.body with | some c => c | none => .skip
noncomputable def fi14 : FI := ⟨7, [(.tmp 2)], b14, fun _ => none⟩
noncomputable def b16 : Code := match Go.Proofs.Tryz.f16.body with | some c => c | none => .skip
noncomputable def fi16 : FI := ⟨27, [(.cell 2 56), (.cell 3 24)], b16, fun _ => none⟩
noncomputable def b17 : Code := match Go.Proofs.Tryz.f17.body with | some c => c | none => .skip
def pl17 : T Plan := (.n .e none (.n (.n (.n .e (some ⟨[0, 2, 3, 1, 4, 5, 6, 7, 8], [(3, 4), (3, 6), (5, 6)], [0, 1, 0, 0, 12, 28, 63, 127, 255]⟩) .e) none .e) none .e))
noncomputable def fi17 : FI := ⟨40, [(.cell 4 61), (.tmp 5)], b17, pl17.get⟩
noncomputable def b18 : Code := match Go.Proofs.Tryz.f18.body with | some c => c | none => .skip
noncomputable def fi18 : FI := ⟨42, [(.tmp 4), (.tmp 5)], b18, fun _ => none⟩
noncomputable def b19 : Code := match Go.Proofs.Tryz.f19.body with | some c => c | none => .skip
noncomputable def fi19 : FI := ⟨10, [(.tmp 4)], b19, fun _ => none⟩
noncomputable def b20 : Code := match Go.Proofs.Tryz.f20.body with | some c => c | none => .skip
noncomputable def fi20 : FI := ⟨21, [(.tmp 6)], b20, fun _ => none⟩
noncomputable def b21 : Code := match Go.Proofs.Tryz.f21.body with | some c => c | none => .skip
def pl21 : T Plan := (.n (.n (.n (.n .e (some ⟨[0, 2, 5, 1, 3, 4, 6], [(1, 4), (2, 4), (2, 6), (3, 4), (3, 6)], [0, 1, 0, 4, 15, 0, 63]⟩) .e) none .e) none .e) none (.n (.n (.n .e (some ⟨[0, 2, 3, 1, 4, 5, 6, 7, 8, 9, 10], [(1, 5), (3, 5), (3, 10), (4, 5)], [0, 1, 0, 0, 8, 28, 60, 124, 124, 255, 767]⟩) .e) none .e) none .e))
noncomputable def fi21 : FI := ⟨49, [(.cell 2 56), (.tmp 3)], b21, pl21.get⟩
noncomputable def b22 : Code := match Go.Proofs.Tryz.f22.body with | some c => c | none => .skip
noncomputable def fi22 : FI := ⟨6, [(.tmp 4)], b22, fun _ => none⟩
noncomputable def b23 : Code := match Go.Proofs.Tryz.f23.body with | some c => c | none => .skip
def pl23 : T Plan := (.n (.n (.n (.n .e (some ⟨[0, 3, 4, 6, 1, 5, 2, 7, 8, 9, 10, 11, 12, 13, 14], [(1, 9), (5, 9), (6, 9), (6, 11), (8, 9), (10, 11)], [0, 1, 3, 0, 0, 16, 0, 112, 240, 504, 1016, 2047, 4095, 8191, 16383]⟩) .e) none .e) none .e) none (.n (.n (.n .e (some ⟨[0, 3, 4, 6, 1, 5, 2, 7, 8, 9, 10, 11, 12, 13, 14], [(1, 9), (5, 9), (6, 9), (6, 11), (8, 9), (10, 11)], [0, 1, 3, 0, 0, 16, 0, 112, 240, 504, 1016, 2047, 4095, 8191, 16383]⟩) .e) none .e) none (.n .e (some ⟨[0, 3, 5, 9, 11, 1, 4, 10, 2, 6, 12, 7, 13, 8, 14, 15, 16, 17, 18, 19, 20, 21], [(6, 15), (6, 18), (7, 15), (8, 15), (8, 18), (13, 15), (13, 18), (14, 15), (17, 18)], [0, 1, 3, 0, 8, 0, 56, 120, 248, 0, 512, 0, 3584, 7680, 15872, 32256, 65528, 131064, 262143, 524287, 1048575, 2097151]⟩) .e)))
noncomputable def fi23 : FI := ⟨70, [(.cell 2 56)], b23, pl23.get⟩
noncomputable def b24 : Code := match Go.Proofs.Tryz.f24.body with | some c => c | none => .skip
noncomputable def fi24 : FI := ⟨24, [(.tmp 4), (.tmp 5)], b24, fun _ => none⟩
noncomputable def b25 : Code := match Go.Proofs.Tryz.f25.body with | some c => c | none => .skip
noncomputable def fi25 : FI := ⟨52, [(.tmp 4)], b25, fun _ => none⟩
noncomputable def b26 : Code := match Go.Proofs.Tryz.f26.body with | some c => c | none => .skip
def pl26 : T Plan := (.n (.n .e none (.n .e (some ⟨[0, 1, 2, 3, 4, 6, 7, 5, 8, 9, 10], [(1, 8), (7, 8), (7, 11)], [0, 1, 3, 7, 15, 31, 15, 15, 207, 511, 1023]⟩) .e)) none .e)
noncomputable def fi26 : FI := ⟨79, [(.tmp 4)], b26, pl26.get⟩
noncomputable def b27 : Code := match Go.Proofs.Tryz.f27.body with | some c => c | none => .skip
noncomputable def fi27 : FI := ⟨28, [(.tmp 4)], b27, fun _ => none⟩
noncomputable def b28 : Code := match Go.Proofs.Tryz.f28.body with | some c => c | none => .skip
def pl28 : T Plan := (.n (.n .e none (.n .e (some ⟨[0, 1, 3, 6, 8, 9, 14, 2, 7, 4, 5, 10, 11, 12, 13, 15, 16], [(0, 11), (6, 11), (6, 15), (7, 11), (8, 11), (10, 11)], [0, 0, 2, 0, 14, 30, 0, 64, 0, 0, 1023, 2047, 4095, 4095, 0, 24575, 65535]⟩) .e)) none .e)
noncomputable def fi28 : FI := ⟨62, [], b28, pl28.get⟩
noncomputable def b30 : Code := match Go.Proofs.Tryz.f30.body with | some c => c | none => .skip
noncomputable def fi30 : FI := ⟨12, [(.tmp 4)], b30, fun _ => none⟩
noncomputable def b31 : Code := match Go.Proofs.Tryz.f31.body with | some c => c | none => .skip
noncomputable def fi31 : FI := ⟨4, [(.tmp 2)], b31, fun _ => none⟩
noncomputable def b33 : Code := match Go.Proofs.Tryz.f33.body with | some c => c | none => .skip
noncomputable def fi33 : FI := ⟨36, [(.tmp 6)], b33, fun _ => none⟩
noncomputable def b34 : Code := match Go.Proofs.Tryz.f34.body with | some c => c | none => .skip
noncomputable def fi34 : FI := ⟨22, [(.cell 2 98), (.tmp 3)], b34, fun _ => none⟩
noncomputable def b35 : Code := match Go.Proofs.Tryz.f35.body with | some c => c | none => .skip
def pl35 : T Plan := (.n .e none (.n (.n (.n .e (some ⟨[0, 2, 3, 5, 6, 10, 1, 4, 7, 11, 8, 12, 9, 13, 14, 15, 16, 17], [(6, 15), (7, 15), (7, 17), (8, 15), (9, 15), (9, 17), (12, 15), (13, 15), (13, 17)], [0, 1, 0, 0, 8, 0, 0, 64, 192, 448, 0, 1024, 3072, 7168, 967, 17351, 65535, 131071]⟩) .e) (some ⟨[0, 2, 4, 6, 9, 1, 3, 5, 7, 8, 10], [(4, 10), (5, 10), (6, 10), (7, 10), (8, 10)], [0, 1, 0, 4, 0, 16, 0, 64, 255, 0, 1023]⟩) .e) none .e))
noncomputable def fi35 : FI := ⟨44, [(.cell 2 54)], b35, pl35.get⟩
noncomputable def b36 : Code := match Go.Proofs.Tryz.f36.body with | some c => c | none => .skip
def pl36 : T Plan := (.n .e none (.n .e none (.n (.n .e (some ⟨[0, 2, 3, 5, 1, 4, 6, 7, 8, 9, 10, 11], [(4, 9), (4, 11), (5, 9), (8, 9)], [0, 1, 0, 0, 8, 0, 32, 120, 248, 504, 1023, 2047]⟩) .e) (some ⟨[0, 4, 9, 1, 5, 2, 6, 3, 7, 8, 10], [(2, 10), (3, 10), (4, 10), (7, 10), (8, 10)], [0, 1, 3, 7, 0, 16, 48, 112, 255, 0, 1023]⟩) .e)))
noncomputable def fi36 : FI := ⟨80, [(.cell 6 104), (.tmp 7)], b36, pl36.get⟩
noncomputable def b37 : Code := match Go.Proofs.Tryz.f37.body with | some c => c | none => .skip
noncomputable def fi37 : FI := ⟨24, [], b37, fun _ => none⟩
noncomputable def b38 : Code := match Go.Proofs.Tryz.f38.body with | some c => c | none => .skip
def pl38 : T Plan := (.n (.n (.n (.n (.n .e (some ⟨[0, 2, 3, 4, 5, 1, 6, 7, 9, 8, 10, 11, 12, 13], [(2, 10), (3, 10), (3, 12), (5, 10)], [0, 1, 0, 0, 0, 0, 32, 96, 224, 15, 623, 1663, 3711, 8191]⟩) .e) none .e) none .e) none (.n .e (some ⟨[0, 2, 1, 3, 4, 5, 6, 7], [(1, 3), (2, 3), (2, 5), (4, 5)], [0, 1, 0, 4, 12, 31, 63, 127]⟩) .e)) none (.n .e none (.n .e none (.n .e (some ⟨[0, 1, 3, 6, 8, 9, 16, 17, 2, 7, 4, 5, 10, 11, 12, 13, 14, 15, 18, 19, 20, 21], [(0, 12), (6, 12), (6, 18), (7, 12), (7, 18), (8, 12), (9, 12), (11, 12)], [0, 0, 2, 0, 14, 30, 0, 64, 0, 0, 1023, 2047, 4095, 4095, 4095, 4095, 0, 0, 204799, 475135, 1015807, 2097151]⟩) .e))))
noncomputable def fi38 : FI := ⟨90, [(.cell 6 56), (.tmp 7)], b38, pl38.get⟩
noncomputable def b39 : Code := match Go.Proofs.Tryz.f39.body with | some c => c | none => .skip
noncomputable def fi39 : FI := ⟨9, [(.cell 2 114)], b39, fun _ => none⟩
noncomputable def b40 : Code := match Go.Proofs.Tryz.f40.body with | some c => c | none => .skip
noncomputable def fi40 : FI := ⟨40, [(.cell 6 126)], b40, fun _ => none⟩
noncomputable def b41 : Code := match Go.Proofs.Tryz.f41.body with | some c => c | none => .skip
def pl41 : T Plan := (.n (.n .e none (.n .e (some ⟨[0, 2, 3, 1, 4, 5, 6, 7], [(3, 4), (3, 7)], [0, 1, 0, 0, 12, 31, 63, 127]⟩) .e)) none .e)
noncomputable def fi41 : FI := ⟨37, [(.cell 6 126)], b41, pl41.get⟩
noncomputable def b42 : Code := match Go.Proofs.Tryz.f42.body with | some c => c | none => .skip
def pl42 : T Plan := (.n (.n .e (some ⟨[0, 4, 9, 13, 17, 22, 28, 1, 5, 18, 2, 6, 19, 3, 7, 20, 8, 21, 10, 11, 12, 14, 15, 16, 23, 24, 25, 26, 27, 29, 30, 31], [(6, 24), (6, 29), (13, 24), (16, 24), (17, 24), (20, 24), (23, 24)], [0, 1, 3, 7, 0, 16, 48, 112, 240, 0, 1008, 2032, 4080, 0, 16368, 32752, 65520, 0, 131072, 393216, 917504, 1966080, 0, 8388607, 16777215, 33554431, 33554431, 33554431, 0, 335544319, 939524095, 2147483647]⟩) .e) none .e)
noncomputable def fi42 : FI := ⟨61, [(.tmp 6)], b42, pl42.get⟩
noncomputable def b43 : Code := match Go.Proofs.Tryz.f43.body with | some c => c | none => .skip
def pl43 : T Plan := (.n (.n (.n (.n (.n .e (some ⟨[0, 1, 2, 5, 6, 3, 7, 4, 8], [], [0, 0, 0, 6, 15, 0, 0, 96, 255]⟩) .e) none .e) none (.n .e (some ⟨[0, 1, 2, 5, 6, 3, 7, 4, 8], [], [0, 0, 0, 6, 15, 0, 0, 96, 255]⟩) .e)) none .e) none .e)
noncomputable def fi43 : FI := ⟨95, [(.tmp 6)], b43, pl43.get⟩
noncomputable def b44 : Code := match Go.Proofs.Tryz.f44.body with | some c => c | none => .skip
noncomputable def fi44 : FI := ⟨32, [(.tmp 4)], b44, fun _ => none⟩
noncomputable def b45 : Code := match Go.Proofs.Tryz.f45.body with | some c => c | none => .skip
def pl45 : T Plan := (.n (.n (.n .e (some ⟨[0, 1, 3, 7, 8, 14, 2, 4, 5, 6, 9, 10, 11, 12, 13, 15, 16, 17], [(0, 10), (3, 10), (5, 10), (5, 15), (6, 10), (9, 10)], [0, 0, 2, 0, 14, 30, 62, 0, 0, 511, 1023, 2047, 2047, 2047, 0, 20479, 57343, 131071]⟩) .e) none .e) none .e)
noncomputable def fi45 : FI := ⟨78, [(.cell 10 144), (.tmp 11)], b45, pl45.get⟩
noncomputable def b46 : Code := match Go.Proofs.Tryz.f46.body with | some c => c | none => .skip
noncomputable def fi46 : FI := ⟨7, [(.tmp 2)], b46, fun _ => none⟩
noncomputable def b49 : Code := match Go.Proofs.Tryz.f49.body with | some c => c | none => .skip
noncomputable def fi49 : FI := ⟨4, [(.tmp 2)], b49, fun _ => none⟩
noncomputable def b50 : Code := match Go.Proofs.Tryz.f50.body with | some c => c | none => .skip
noncomputable def fi50 : FI := ⟨43, [(.cell 8 114), (.tmp 9), (.tmp 10)], b50, fun _ => none⟩
noncomputable def b52 : Code := match Go.Proofs.Tryz.f52.body with | some c => c | none => .skip
noncomputable def fi52 : FI := ⟨5, [(.tmp 2)], b52, fun _ => none⟩
noncomputable def b53 : Code := match Go.Proofs.Tryz.f53.body with | some c => c | none => .skip
noncomputable def fi53 : FI := ⟨14, [], b53, fun _ => none⟩
noncomputable def b54 : Code := match Go.Proofs.Tryz.f54.body with | some c => c | none => .skip
noncomputable def fi54 : FI := ⟨14, [], b54, fun _ => none⟩
noncomputable def b57 : Code := match Go.Proofs.Tryz.f57.body with | some c => c | none => .skip
noncomputable def fi57 : FI := ⟨15, [(.tmp 2)], b57, fun _ => none⟩
noncomputable def b61 : Code := match Go.Proofs.Tryz.f61.body with | some c => c | none => .skip
noncomputable def fi61 : FI := ⟨18, [(.tmp 2)], b61, fun _ => none⟩
noncomputable def b62 : Code := match Go.Proofs.Tryz.f62.body with | some c => c | none => .skip
def pl62 : T Plan := (.n (.n .e (some ⟨[0, 4, 9, 1, 5, 2, 6, 3, 7, 8, 10], [(2, 10), (3, 10), (4, 10), (7, 10), (8, 10)], [0, 1, 3, 7, 0, 16, 48, 112, 255, 0, 1023]⟩) (.n .e none (.n (.n (.n .e (some ⟨[0, 1, 2, 3], [(0, 2), (1, 2), (1, 4)], [0, 0, 1, 7]⟩) .e) none .e) none .e))) none (.n .e none (.n .e none (.n .e (some ⟨[0, 2, 3, 5, 8, 1, 4, 6, 7, 9, 10, 11], [(5, 11), (6, 11), (8, 11)], [0, 1, 0, 0, 8, 0, 56, 120, 0, 504, 1023, 2047]⟩) .e))))
noncomputable def fi62 : FI := ⟨166, [(.cell 2 98), (.tmp 3)], b62, pl62.get⟩
noncomputable def b63 : Code := match Go.Proofs.Tryz.f63.body with | some c => c | none => .skip
noncomputable def fi63 : FI := ⟨28, [(.tmp 6)], b63, fun _ => none⟩
noncomputable def b64 : Code := match Go.Proofs.Tryz.f64.body with | some c => c | none => .skip
def pl64 : T Plan := (.n (.n (.n .e (some ⟨[0, 2, 7, 9, 1, 3, 8, 10, 4, 11, 5, 12, 6, 13, 14, 15], [(4, 16), (6, 16), (12, 16), (13, 16)], [0, 1, 0, 4, 15, 31, 63, 0, 128, 0, 512, 1920, 3968, 8064, 127, 32767]⟩) .e) none .e) none (.n .e (some ⟨[0, 2, 1, 3], [(2, 4)], [0, 1, 0, 7]⟩) .e))
noncomputable def fi64 : FI := ⟨24, [(.tmp 4), (.tmp 5)], b64, pl64.get⟩
noncomputable def b65 : Code := match Go.Proofs.Tryz.f65.body with | some c => c | none => .skip
def pl65 : T Plan := (.n (.n .e (some ⟨[0, 2, 1, 3, 4, 5, 6], [(2, 4), (2, 6), (3, 4)], [0, 1, 0, 4, 12, 31, 63]⟩) .e) none .e)
noncomputable def fi65 : FI := ⟨9, [(.cell 2 116)], b65, pl65.get⟩
noncomputable def b66 : Code := match Go.Proofs.Tryz.f66.body with | some c => c | none => .skip
def pl66 : T Plan := (.n .e none (.n (.n .e (some ⟨[0, 2, 9, 1, 3, 10, 4, 5, 6, 7, 8, 11, 12, 13, 14, 15], [(3, 10), (4, 10), (5, 10), (5, 11), (8, 10), (9, 10)], [0, 1, 0, 4, 15, 31, 63, 127, 255, 0, 512, 2047, 4095, 8191, 16383, 32767]⟩) .e) none .e))
noncomputable def fi66 : FI := ⟨25, [(.cell 2 114), (.tmp 3)], b66, pl66.get⟩
noncomputable def b67 : Code := match Go.Proofs.Tryz.f67.body with | some c => c | none => .skip
def pl67 : T Plan := (.n (.n .e none (.n .e (some ⟨[0, 2, 4, 1, 3, 5, 6, 7, 8, 9, 10, 11], [(3, 6), (3, 9), (4, 6), (4, 9), (5, 6), (8, 9)], [0, 1, 0, 4, 0, 16, 48, 124, 252, 511, 1023, 2047]⟩) .e)) none .e)
noncomputable def fi67 : FI := ⟨46, [(.cell 2 104)], b67, pl67.get⟩
noncomputable def b69 : Code := match Go.Proofs.Tryz.f69.body with | some c => c | none => .skip
def pl69 : T Plan := (.n .e none (.n (.n (.n .e (some ⟨[0, 1, 2, 3, 4, 5, 6, 7], [(0, 4), (1, 4), (1, 7)], [0, 0, 1, 5, 13, 31, 63, 127]⟩) .e) none (.n .e (some ⟨[0, 1, 6, 2, 3, 4, 5, 7, 8, 9, 10, 11, 12, 13], [(0, 7), (0, 9), (0, 13), (1, 7), (1, 9), (2, 7), (6, 7), (6, 9), (8, 9)], [0, 0, 2, 6, 14, 30, 0, 64, 192, 510, 1023, 2047, 4095, 8191]⟩) (.n .e (some ⟨[0, 4, 8, 1, 5, 9, 2, 6, 10, 3, 7, 11, 12, 13, 14, 15], [(0, 12), (1, 12), (1, 13), (2, 12), (2, 13), (2, 16), (9, 12), (10, 12), (10, 13), (11, 12), (11, 13), (11, 16)], [0, 1, 3, 7, 0, 16, 48, 112, 0, 256, 768, 1792, 15, 4351, 16383, 32767]⟩) .e))) none (.n (.n (.n .e (some ⟨[0, 1, 6, 2, 7, 3, 4, 5, 8, 9, 10, 11, 12], [(0, 8), (0, 12), (1, 8), (2, 8), (4, 8), (7, 8)], [0, 0, 2, 6, 14, 30, 0, 64, 254, 511, 1023, 2047, 4095]⟩) .e) none .e) (some ⟨[0, 1, 3, 6, 2, 4, 5, 7], [(0, 4), (0, 7), (1, 4), (3, 4), (3, 7), (6, 7)], [0, 0, 2, 0, 15, 31, 0, 127]⟩) .e)))
noncomputable def fi69 : FI := ⟨147, [(.cell 10 104), (.cell 11 54), (.tmp 12), (.tmp 13)], b69, pl69.get⟩
noncomputable def b70 : Code := match Go.Proofs.Tryz.f70.body with | some c => c | none => .skip
def pl70 : T Plan := (.n (.n .e (some ⟨[0, 4, 8, 1, 5, 9, 2, 6, 10, 3, 7, 11, 12, 13, 14, 15, 16, 17, 18, 19, 20], [(6, 9), (7, 9), (7, 10), (8, 9), (8, 10), (8, 11)], [0, 1, 3, 7, 0, 16, 48, 127, 0, 256, 768, 2047, 4095, 8191, 16383, 32767, 65535, 131071, 262143, 524287, 1048575]⟩) .e) none .e)
noncomputable def fi70 : FI := ⟨21, [(.tmp 2)], b70, pl70.get⟩
noncomputable def b71 : Code := match Go.Proofs.Tryz.f71.body with | some c => c | none => .skip
noncomputable def fi71 : FI := ⟨52, [(.tmp 6)], b71, fun _ => none⟩
noncomputable def b72 : Code := match Go.Proofs.Tryz.f72.body with | some c => c | none => .skip
noncomputable def fi72 : FI := ⟨39, [(.tmp 4), (.tmp 5)], b72, fun _ => none⟩
noncomputable def b73 : Code := match Go.Proofs.Tryz.f73.body with | some c => c | none => .skip
def pl73 : T Plan := (.n .e none (.n .e (some ⟨[0, 4, 9, 1, 2, 3, 5, 6, 7, 8, 10, 11], [(1, 6), (2, 6), (2, 10), (5, 6)], [0, 1, 3, 7, 0, 31, 63, 127, 127, 0, 767, 2047]⟩) (.n .e (some ⟨[0, 4, 5, 1, 2, 3, 6], [(1, 6), (2, 6), (5, 6)], [0, 1, 3, 7, 0, 0, 63]⟩) .e)))
noncomputable def fi73 : FI := ⟨38, [(.cell 6 126)], b73, pl73.get⟩
noncomputable def b74 : Code := match Go.Proofs.Tryz.f74.body with | some c => c | none => .skip
def pl74 : T Plan := (.n .e none (.n .e (some ⟨[0, 5, 10, 15, 1, 11, 2, 12, 3, 13, 4, 14, 6, 16, 7, 17, 8, 9, 18, 19], [(10, 20), (11, 20), (15, 20), (16, 20)], [0, 1, 3, 7, 15, 0, 63, 127, 255, 511, 0, 1024, 3072, 7168, 15360, 0, 64512, 130048, 262143, 524287]⟩) .e))
noncomputable def fi74 : FI := ⟨35, [(.tmp 4)], b74, pl74.get⟩
noncomputable def b77 : Code := match Go.Proofs.Tryz.f77.body with | some c => c | none => .skip
def pl77 : T Plan := (.n (.n .e none (.n .e none (.n .e (some ⟨[0, 2, 3, 5, 8, 1, 4, 9, 6, 7, 10, 11, 12], [(5, 10), (5, 12), (6, 10), (7, 10), (9, 10)], [0, 1, 0, 0, 8, 0, 56, 120, 0, 256, 1016, 2047, 4095]⟩) .e))) none .e)
noncomputable def fi77 : FI := ⟨75, [(.cell 8 114), (.tmp 9), (.tmp 10)], b77, pl77.get⟩
noncomputable def b78 : Code := match Go.Proofs.Tryz.f78.body with | some c => c | none => .skip
def pl78 : T Plan := (.n (.n .e none (.n (.n .e (some ⟨[0, 1, 2, 3, 4, 5, 6, 7, 8, 9, 10], [(0, 2), (0, 3), (1, 2)], [0, 0, 2, 7, 15, 31, 31, 31, 63, 383, 1023]⟩) .e) (some ⟨[0, 1, 2, 3, 6, 8, 4, 7, 5, 9, 10, 11, 12, 13], [(6, 14), (7, 14), (11, 14)], [0, 1, 3, 7, 15, 31, 7, 71, 7, 455, 967, 1991, 4095, 8191]⟩) .e)) none .e)
noncomputable def fi78 : FI := ⟨103, [(.cell 6 144), (.tmp 7)], b78, pl78.get⟩
noncomputable def b80 : Code := match Go.Proofs.Tryz.f80.body with | some c => c | none => .skip
noncomputable def fi80 : FI := ⟨19, [], b80, fun _ => none⟩
noncomputable def b81 : Code := match Go.Proofs.Tryz.f81.body with | some c => c | none => .skip
noncomputable def fi81 : FI := ⟨70, [(.tmp 4)], b81, fun _ => none⟩
noncomputable def b82 : Code := match Go.Proofs.Tryz.f82.body with | some c => c | none => .skip
noncomputable def fi82 : FI := ⟨13, [(.tmp 4)], b82, fun _ => none⟩
noncomputable def b83 : Code := match Go.Proofs.Tryz.f83.body with | some c => c | none => .skip
def pl83 : T Plan := (.n (.n .e none (.n (.n (.n .e (some ⟨[0, 1, 2, 3, 4, 5, 9, 10, 6, 11, 7, 12, 8, 13, 14, 15, 16], [(11, 13), (12, 13)], [0, 1, 3, 7, 7, 7, 39, 119, 247, 7, 7, 1543, 3591, 8191, 16383, 32767, 65535]⟩) .e) none .e) none .e)) none .e)
noncomputable def fi83 : FI := ⟨148, [], b83, pl83.get⟩
noncomputable def b84 : Code := match Go.Proofs.Tryz.f84.body with | some c => c | none => .skip
noncomputable def fi84 : FI := ⟨8, [(.tmp 2)], b84, fun _ => none⟩
noncomputable def b87 : Code := match Go.Proofs.Tryz.f87.body with | some c => c | none => .skip
noncomputable def fi87 : FI := ⟨25, [(.tmp 2)], b87, fun _ => none⟩
noncomputable def b92 : Code := match Go.Proofs.Tryz.f92.body with | some c => c | none => .skip
noncomputable def fi92 : FI := ⟨22, [(.tmp 2)], b92, fun _ => none⟩
noncomputable def b93 : Code := match Go.Proofs.Tryz.f93.body with | some c => c | none => .skip
noncomputable def fi93 : FI := ⟨13, [(.cell 4 27)], b93, fun _ => none⟩
noncomputable def b94 : Code := match Go.Proofs.Tryz.f94.body with | some c => c | none => .skip
def pl94 : T Plan := (.n (.n .e none (.n (.n .e (some ⟨[0, 1, 2, 3, 4, 5], [(2, 6)], [0, 0, 2, 1, 15, 31]⟩) .e) none .e)) none .e)
noncomputable def fi94 : FI := ⟨34, [(.tmp 4), (.tmp 5), (.tmp 6)], b94, pl94.get⟩
noncomputable def b95 : Code := match Go.Proofs.Tryz.f95.body with | some c => c | none => .skip
noncomputable def fi95 : FI := ⟨18, [(.tmp 4)], b95, fun _ => none⟩
noncomputable def b96 : Code := match Go.Proofs.Tryz.f96.body with | some c => c | none => .skip
noncomputable def fi96 : FI := ⟨26, [(.tmp 4), (.tmp 5)], b96, fun _ => none⟩
noncomputable def b97 : Code := match Go.Proofs.Tryz.f97.body with | some c => c | none => .skip
def pl97 : T Plan := (.n (.n .e none (.n (.n .e (some ⟨[0, 1, 2, 3, 5, 4, 6, 7, 8, 9, 10, 11, 12, 14, 16, 18, 21, 23, 13, 15, 17, 22, 19, 24, 20, 25, 26, 27, 28, 29], [(1, 27), (5, 27), (7, 27), (11, 27), (18, 27), (19, 27), (20, 27), (21, 27), (24, 27), (26, 27)], [0, 1, 3, 7, 15, 7, 63, 127, 255, 511, 1023, 2047, 2047, 6143, 2047, 18431, 2047, 67583, 2047, 460799, 985087, 2047, 2099199, 2047, 14682111, 31459327, 65013759, 134217727, 268435455, 536870911]⟩) .e) none .e)) none .e)
noncomputable def fi97 : FI := ⟨87, [(.tmp 6)], b97, pl97.get⟩
noncomputable def b98 : Code := match Go.Proofs.Tryz.f98.body with | some c => c | none => .skip
def pl98 : T Plan := (.n (.n (.n (.n .e (some ⟨[0, 1, 3, 7, 9, 13, 15, 2, 8, 14, 16, 4, 10, 17, 5, 11, 18, 6, 12, 19, 20, 21, 22, 23, 25, 29, 24, 30, 26, 31, 27, 28, 32, 33, 34, 35, 37, 41, 36, 42, 38, 43, 39, 40, 44, 45, 46, 47, 48, 49, 50, 52, 55, 51, 53, 54, 56, 57, 58, 59], [(0, 20), (7, 20), (8, 20), (9, 20), (10, 20), (17, 20), (18, 20), (19, 20), (26, 60), (27, 60), (30, 60), (38, 60), (39, 60), (42, 60), (53, 60), (55, 60)], [0, 0, 2, 0, 14, 30, 62, 0, 128, 0, 896, 1920, 3968, 0, 8192, 0, 32768, 122880, 253952, 516096, 1048575, 2097151, 4194303, 8388607, 16777215, 8388607, 67108863, 134217727, 268435455, 8388607, 545259519, 1619001343, 4294967295, 8589934591, 17179869183, 34359738367, 68719476735, 34359738367, 274877906943, 549755813887, 1099511627775, 34359738367, 2233382993919, 6631429505023, 17592186044415, 35184372088831, 70368744177663, 140737488355327, 281474976710655, 562949953421311, 1125899906842623, 2251799813685247, 1125899906842623, 9007199254740991, 18014398509481983, 1125899906842623, 72057594037927935, 144115188075855871, 288230376151711743, 576460752303423487]⟩) .e) none .e) none .e) none .e)
noncomputable def fi98 : FI := ⟨112, [(.tmp 4)], b98, pl98.get⟩
noncomputable def b99 : Code := match Go.Proofs.Tryz.f99.body with | some c => c | none => .skip
noncomputable def fi99 : FI := ⟨19, [(.tmp 2)], b99, fun _ => none⟩
noncomputable def b100 : Code := match Go.Proofs.Tryz.f100.body with | some c => c | none => .skip
noncomputable def fi100 : FI := ⟨2, [(.cell 0 112)], b100, fun _ => none⟩
noncomputable def b101 : Code := match Go.Proofs.Tryz.f101.body with | some c => c | none => .skip
noncomputable def fi101 : FI := ⟨29, [(.tmp 4), (.tmp 5), (.tmp 6)], b101, fun _ => none⟩
noncomputable def b102 : Code := match Go.Proofs.Tryz.f102.body with | some c => c | none => .skip
noncomputable def fi102 : FI := ⟨11, [(.cell 4 114), (.tmp 5)], b102, fun _ => none⟩
noncomputable def b104 : Code := match Go.Proofs.Tryz.f104.body with | some c => c | none => .skip
noncomputable def fi104 : FI := ⟨45, [(.tmp 4)], b104, fun _ => none⟩
noncomputable def b105 : Code := match Go.Proofs.Tryz.f105.body with | some c => c | none => .skip
def pl105 : T Plan := (.n (.n (.n (.n .e (some ⟨[0, 2, 4, 1, 3, 5, 6, 7, 8, 9, 10, 11], [(3, 7), (3, 9), (4, 7), (6, 7), (8, 9)], [0, 1, 0, 4, 0, 28, 60, 124, 252, 511, 1023, 2047]⟩) .e) none .e) none (.n .e (some ⟨[0, 2, 4, 1, 3, 5, 6, 7, 8, 9, 10, 11], [(3, 7), (3, 9), (4, 7), (6, 7), (8, 9)], [0, 1, 0, 4, 0, 28, 60, 124, 252, 511, 1023, 2047]⟩) .e)) none (.n .e none (.n .e (some ⟨[0, 2, 4, 1, 3, 5, 6, 7, 8, 9, 10, 11], [(3, 7), (3, 9), (4, 7), (6, 7), (8, 9)], [0, 1, 0, 4, 0, 28, 60, 124, 252, 511, 1023, 2047]⟩) .e)))
noncomputable def fi105 : FI := ⟨50, [(.cell 2 54)], b105, pl105.get⟩
noncomputable def b106 : Code := match Go.Proofs.Tryz.f106.body with | some c => c | none => .skip
def pl106 : T Plan := (.n (.n (.n .e (some ⟨[0, 2, 5, 7, 1, 3, 6, 8, 4, 9, 10, 11], [(4, 8), (5, 8), (6, 8), (6, 9), (7, 8), (7, 9)], [0, 1, 0, 4, 15, 0, 32, 0, 128, 511, 1023, 2047]⟩) .e) none .e) none .e)
noncomputable def fi106 : FI := ⟨22, [(.cell 4 142)], b106, pl106.get⟩
noncomputable def b108 : Code := match Go.Proofs.Tryz.f108.body with | some c => c | none => .skip
noncomputable def fi108 : FI := ⟨44, [(.tmp 2)], b108, fun _ => none⟩
noncomputable def b109 : Code := match Go.Proofs.Tryz.f109.body with | some c => c | none => .skip
def pl109 : T Plan := (.n (.n (.n (.n .e none (.n .e (some ⟨[0, 1, 4, 7, 2, 5, 8, 3, 6, 9], [(0, 9), (6, 9)], [0, 0, 2, 6, 0, 16, 48, 0, 128, 511]⟩) .e)) (some ⟨[0, 4, 5, 10, 1, 2, 3, 6, 7, 8, 9, 11, 12], [(0, 7), (2, 7), (3, 7), (3, 11), (6, 7)], [0, 1, 3, 7, 0, 0, 63, 127, 255, 255, 0, 1535, 4095]⟩) .e) (some ⟨[0, 4, 9, 13, 17, 26, 1, 5, 14, 18, 2, 6, 15, 19, 3, 7, 16, 20, 8, 10, 11, 12, 21, 22, 23, 24, 25, 27, 28, 29], [(0, 22), (1, 22), (3, 22), (4, 22), (5, 22), (5, 27), (14, 22), (16, 22), (17, 22), (18, 22), (21, 22)], [0, 1, 3, 7, 0, 16, 48, 112, 240, 0, 1008, 2032, 4080, 0, 8192, 24576, 57344, 0, 131072, 393216, 917504, 2097151, 4194303, 8388607, 8388607, 8388607, 0, 83886079, 234881023, 536870911]⟩) (.n .e none (.n .e (some ⟨[0, 1, 6, 11, 2, 7, 12, 3, 4, 5, 8, 9, 10, 13], [(1, 13), (5, 13), (6, 13), (9, 13), (12, 13)], [0, 0, 2, 6, 14, 30, 0, 64, 254, 510, 1022, 0, 2048, 8191]⟩) .e))) none (.n .e none (.n .e none (.n (.n .e (some ⟨[0, 4, 9, 1, 5, 2, 6, 3, 7, 8, 10], [(2, 10), (7, 10), (8, 10)], [0, 1, 3, 7, 0, 16, 48, 112, 255, 0, 1023]⟩) .e) (some ⟨[0, 5, 9, 1, 6, 2, 3, 4, 7, 8, 10], [(0, 10), (2, 10), (4, 10), (7, 10), (9, 10)], [0, 1, 3, 7, 15, 0, 32, 127, 255, 0, 1023]⟩) .e))))
noncomputable def fi109 : FI := ⟨164, [], b109, pl109.get⟩
noncomputable def b110 : Code := match Go.Proofs.Tryz.f110.body with | some c => c | none => .skip
noncomputable def fi110 : FI := ⟨8, [(.tmp 2)], b110, fun _ => none⟩
noncomputable def b111 : Code := match Go.Proofs.Tryz.f111.body with | some c => c | none => .skip
def pl111 : T Plan := (.n .e none (.n (.n (.n (.n .e (some ⟨[0, 2, 4, 5, 8, 13, 1, 3, 9, 10, 11, 12, 14, 15, 16, 6, 7, 17, 18, 19, 20], [(6, 15), (6, 20), (7, 15), (7, 20), (11, 15), (11, 20), (14, 15), (14, 20)], [0, 1, 0, 4, 0, 0, 48, 124, 0, 256, 768, 1792, 3840, 0, 16128, 32512, 65280, 131068, 262143, 524287, 1048575]⟩) .e) none .e) none .e) none .e))
noncomputable def fi111 : FI := ⟨139, [(.cell 8 126)], b111, pl111.get⟩
noncomputable def b113 : Code := match Go.Proofs.Tryz.f113.body with | some c => c | none => .skip
noncomputable def fi113 : FI := ⟨17, [(.tmp 6)], b113, fun _ => none⟩
noncomputable def b114 : Code := match Go.Proofs.Tryz.f114.body with | some c => c | none => .skip
noncomputable def fi114 : FI := ⟨30, [(.tmp 4)], b114, fun _ => none⟩
noncomputable def b115 : Code := match Go.Proofs.Tryz.f115.body with | some c => c | none => .skip
noncomputable def fi115 : FI := ⟨11, [], b115, fun _ => none⟩
noncomputable def b116 : Code := match Go.Proofs.Tryz.f116.body with | some c => c | none => .skip
noncomputable def fi116 : FI := ⟨14, [], b116, fun _ => none⟩
noncomputable def b118 : Code := match Go.Proofs.Tryz.f118.body with | some c => c | none => .skip
noncomputable def fi118 : FI := ⟨11, [], b118, fun _ => none⟩
noncomputable def b119 : Code := match Go.Proofs.Tryz.f119.body with | some c => c | none => .skip
def pl119 : T Plan := (.n (.n (.n .e none (.n .e (some ⟨[0, 1, 4, 5, 2, 6, 3, 7, 8, 9], [(6, 10), (8, 10)], [0, 0, 3, 7, 0, 0, 32, 112, 240, 511]⟩) .e)) none .e) none (.n .e none (.n .e (some ⟨[0, 1, 4, 5, 2, 6, 3, 7, 8, 9], [(6, 10), (8, 10)], [0, 0, 3, 7, 0, 0, 32, 112, 240, 511]⟩) .e)))
noncomputable def fi119 : FI := ⟨61, [(.tmp 2)], b119, pl119.get⟩
noncomputable def b120 : Code := match Go.Proofs.Tryz.f120.body with | some c => c | none => .skip
def pl120 : T Plan := (.n (.n (.n (.n .e (some ⟨[0, 1, 2, 5, 3, 4, 6, 7], [(5, 6)], [0, 0, 2, 6, 14, 1, 63, 127]⟩) .e) (some ⟨[0, 4, 1, 2, 3, 5, 6], [(4, 5)], [0, 1, 3, 7, 0, 31, 63]⟩) .e) none .e) none .e)
noncomputable def fi120 : FI := ⟨62, [(.tmp 4), (.cell 5 114), (.tmp 6)], b120, pl120.get⟩
noncomputable def b121 : Code := match Go.Proofs.Tryz.f121.body with | some c => c | none => .skip
def pl121 : T Plan := (.n (.n .e none (.n (.n .e none (.n .e (some ⟨[0, 1, 5, 2, 6, 3, 7, 4, 8, 9, 10, 11, 12, 13, 14], [(7, 10), (9, 10)], [0, 0, 2, 6, 14, 0, 32, 96, 224, 480, 1022, 2047, 4095, 8191, 16383]⟩) .e)) none .e)) none .e)
noncomputable def fi121 : FI := ⟨105, [], b121, pl121.get⟩
noncomputable def b122 : Code := match Go.Proofs.Tryz.f122.body with | some c => c | none => .skip
noncomputable def fi122 : FI := ⟨16, [], b122, fun _ => none⟩
noncomputable def b123 : Code := match Go.Proofs.Tryz.f123.body with | some c => c | none => .skip
def pl123 : T Plan := (.n .e (some ⟨[0, 1, 6, 7, 2, 8, 3, 9, 4, 10, 5, 11, 12, 13, 14, 15, 16, 17, 18], [(9, 11), (10, 11), (10, 14), (13, 14)], [0, 0, 2, 6, 14, 30, 0, 0, 128, 384, 896, 1920, 4032, 8128, 16382, 32767, 65535, 131071, 262143]⟩) .e)
noncomputable def fi123 : FI := ⟨22, [], b123, pl123.get⟩
noncomputable def b124 : Code := match Go.Proofs.Tryz.f124.body with | some c => c | none => .skip
noncomputable def fi124 : FI := ⟨14, [(.tmp 2)], b124, fun _ => none⟩
noncomputable def b125 : Code := match Go.Proofs.Tryz.f125.body with | some c => c | none => .skip
noncomputable def fi125 : FI := ⟨26, [(.tmp 2)], b125, fun _ => none⟩
noncomputable def b126 : Code := match Go.Proofs.Tryz.f126.body with | some c => c | none => .skip
def pl126 : T Plan := (.n .e none (.n (.n .e (some ⟨[0, 1, 2, 3, 4, 5, 6, 9, 10, 7, 11, 8, 12, 13, 14, 15, 16], [(11, 14), (13, 14)], [0, 0, 3, 7, 15, 15, 15, 111, 239, 15, 15, 1039, 3599, 7695, 16383, 32767, 65535]⟩) .e) none (.n .e (some ⟨[0, 1, 2, 3, 5, 6, 10, 11, 4, 7, 12, 8, 13, 9, 14, 15, 16, 17], [(12, 15), (13, 15)], [0, 0, 0, 0, 8, 0, 0, 64, 224, 480, 0, 0, 3072, 7168, 16355, 32739, 65535, 131071]⟩) .e)))
noncomputable def fi126 : FI := ⟨53, [], b126, pl126.get⟩
noncomputable def b134 : Code := match Go.Proofs.Tryz.f134.body with | some c => c | none => .skip
noncomputable def fi134 : FI := ⟨19, [(.tmp 2)], b134, fun _ => none⟩
noncomputable def b137 : Code := match Go.Proofs.Tryz.f137.body with | some c => c | none => .skip
noncomputable def fi137 : FI := ⟨3, [], b137, fun _ => none⟩
noncomputable def b138 : Code := match Go.Proofs.Tryz.f138.body with | some c => c | none => .skip
def pl138 : T Plan := (.n (.n (.n .e (some ⟨[0, 1, 2, 3, 4, 5, 8, 9, 6, 10, 7, 11, 12, 13, 14, 15], [(10, 13), (11, 13)], [0, 0, 0, 0, 0, 0, 48, 112, 0, 0, 768, 1792, 4083, 8179, 16383, 32767]⟩) .e) none .e) none .e)
noncomputable def fi138 : FI := ⟨28, [], b138, pl138.get⟩
noncomputable def b139 : Code := match Go.Proofs.Tryz.f139.body with | some c => c | none => .skip
def pl139 : T Plan := (.n (.n (.n (.n .e (some ⟨[0, 1, 2, 3], [(0, 2), (1, 2), (1, 3)], [0, 0, 1, 7]⟩) .e) none .e) none .e) none (.n .e none (.n .e (some ⟨[0, 1, 3, 2, 4, 5, 6, 7], [(0, 7), (3, 7), (6, 7)], [0, 0, 2, 0, 14, 30, 62, 127]⟩) .e)))
noncomputable def fi139 : FI := ⟨37, [(.cell 4 27), (.cell 5 258)], b139, pl139.get⟩
noncomputable def b140 : Code := match Go.Proofs.Tryz.f140.body with | some c => c | none => .skip
noncomputable def fi140 : FI := ⟨41, [(.tmp 2)], b140, fun _ => none⟩
noncomputable def b141 : Code := match Go.Proofs.Tryz.f141.body with | some c => c | none => .skip
noncomputable def fi141 : FI := ⟨34, [(.tmp 4)], b141, fun _ => none⟩
noncomputable def b142 : Code := match Go.Proofs.Tryz.f142.body with | some c => c | none => .skip
def pl142 : T Plan := (.n (.n (.n .e (some ⟨[0, 3, 7, 1, 8, 2, 9, 4, 10, 5, 6, 11, 12], [(5, 13), (6, 13), (10, 13)], [0, 1, 3, 0, 15, 31, 63, 0, 128, 384, 896, 127, 4095]⟩) .e) none .e) none (.n .e (some ⟨[0, 3, 7, 10, 1, 8, 11, 2, 9, 4, 12, 5, 13, 6, 14, 15, 16], [(7, 17), (8, 17), (13, 17), (14, 17)], [0, 1, 3, 0, 15, 31, 63, 0, 128, 384, 0, 1024, 3968, 8064, 16256, 127, 65535]⟩) .e))
noncomputable def fi142 : FI := ⟨39, [(.tmp 4), (.tmp 5)], b142, pl142.get⟩
noncomputable def b143 : Code := match Go.Proofs.Tryz.f143.body with | some c => c | none => .skip
noncomputable def fi143 : FI := ⟨33, [(.tmp 10)], b143, fun _ => none⟩
noncomputable def b144 : Code := match Go.Proofs.Tryz.f144.body with | some c => c | none => .skip
noncomputable def fi144 : FI := ⟨9, [(.tmp 4)], b144, fun _ => none⟩
noncomputable def b145 : Code := match Go.Proofs.Tryz.f145.body with | some c => c | none => .skip
noncomputable def fi145 : FI := ⟨21, [(.tmp 3)], b145, fun _ => none⟩
noncomputable def b146 : Code := match Go.Proofs.Tryz.f146.body with | some c => c | none => .skip
noncomputable def fi146 : FI := ⟨17, [(.tmp 2)], b146, fun _ => none⟩
noncomputable def b149 : Code := match Go.Proofs.Tryz.f149.body with | some c => c | none => .skip
noncomputable def fi149 : FI := ⟨8, [(.cell 2 142)], b149, fun _ => none⟩
noncomputable def b150 : Code := match Go.Proofs.Tryz.f150.body with | some c => c | none => .skip
def pl150 : T Plan := (.n .e none (.n .e none (.n .e (some ⟨[0, 1, 2, 3, 5, 8, 10, 13, 15, 4, 6, 9, 11, 14, 16, 12, 17, 7, 18, 19, 20], [(9, 17), (10, 17), (11, 17), (11, 19), (12, 17), (12, 19), (13, 17), (13, 19), (14, 17), (14, 19)], [0, 0, 0, 0, 8, 0, 32, 120, 0, 256, 0, 1024, 3840, 0, 8192, 0, 32768, 122880, 262143, 524287, 1048575]⟩) .e)))
noncomputable def fi150 : FI := ⟨71, [(.cell 6 114), (.tmp 7)], b150, pl150.get⟩
noncomputable def b151 : Code := match Go.Proofs.Tryz.f151.body with | some c => c | none => .skip
def pl151 : T Plan := (.n .e none (.n .e none (.n .e (some ⟨[0, 1, 4, 5, 2, 6, 3, 7, 8], [(6, 9), (7, 9)], [0, 0, 3, 7, 0, 0, 48, 112, 255]⟩) .e)))
noncomputable def fi151 : FI := ⟨26, [(.tmp 4)], b151, pl151.get⟩
noncomputable def b152 : Code := match Go.Proofs.Tryz.f152.body with | some c => c | none => .skip
noncomputable def fi152 : FI := ⟨8, [(.tmp 2)], b152, fun _ => none⟩
noncomputable def b155 : Code := match Go.Proofs.Tryz.f155.body with | some c => c | none => .skip
noncomputable def fi155 : FI := ⟨15, [(.tmp 2)], b155, fun _ => none⟩
noncomputable def b156 : Code := match Go.Proofs.Tryz.f156.body with | some c => c | none => .skip
noncomputable def fi156 : FI := ⟨4, [(.cell 0 142)], b156, fun _ => none⟩
noncomputable def b157 : Code := match Go.Proofs.Tryz.f157.body with | some c => c | none => .skip
noncomputable def fi157 : FI := ⟨18, [(.cell 4 142)], b157, fun _ => none⟩
noncomputable def b158 : Code := match Go.Proofs.Tryz.f158.body with | some c => c | none => .skip
noncomputable def fi158 : FI := ⟨22, [(.cell 4 138)], b158, fun _ => none⟩
noncomputable def b159 : Code := match Go.Proofs.Tryz.f159.body with | some c => c | none => .skip
noncomputable def fi159 : FI := ⟨29, [(.cell 4 140)], b159, fun _ => none⟩
noncomputable def b161 : Code := match Go.Proofs.Tryz.f161.body with | some c => c | none => .skip
noncomputable def fi161 : FI := ⟨9, [(.tmp 4)], b161, fun _ => none⟩
noncomputable def b162 : Code := match Go.Proofs.Tryz.f162.body with | some c => c | none => .skip
noncomputable def fi162 : FI := ⟨39, [(.tmp 4)], b162, fun _ => none⟩
noncomputable def b163 : Code := match Go.Proofs.Tryz.f163.body with | some c => c | none => .skip
def pl163 : T Plan := (.n (.n (.n (.n .e (some ⟨[0, 5, 10, 1, 6, 2, 3, 4, 7, 8, 9], [(4, 11), (7, 11), (10, 11)], [0, 1, 3, 7, 15, 0, 32, 127, 255, 511, 0]⟩) .e) none (.n .e (some ⟨[0, 1, 6, 8, 2, 3, 4, 5, 7, 9], [(3, 9), (7, 9)], [0, 0, 2, 6, 14, 30, 0, 126, 0, 511]⟩) .e)) none (.n (.n .e (some ⟨[0, 1, 2, 3, 4, 5, 6], [(1, 2), (1, 4), (3, 4)], [0, 1, 0, 4, 15, 31, 63]⟩) .e) none .e)) none .e)
noncomputable def fi163 : FI := ⟨61, [], b163, pl163.get⟩
noncomputable def b165 : Code := match Go.Proofs.Tryz.f165.body with | some c => c | none => .skip
def pl165 : T Plan := (.n (.n .e (some ⟨[0, 1, 6, 8, 2, 3, 4, 5, 7, 9], [(0, 9), (1, 9), (3, 9), (7, 9)], [0, 0, 2, 6, 14, 30, 0, 126, 0, 511]⟩) .e) none .e)
noncomputable def fi165 : FI := ⟨15, [], b165, pl165.get⟩
noncomputable def b166 : Code := match Go.Proofs.Tryz.f166.body with | some c => c | none => .skip
def pl166 : T Plan := (.n (.n (.n .e (some ⟨[0, 4, 8, 13, 1, 5, 2, 6, 3, 7, 9, 10, 11, 12, 14, 15], [(2, 10), (3, 10), (3, 14), (8, 10), (9, 10)], [0, 1, 3, 7, 0, 16, 48, 112, 0, 511, 1023, 2047, 2047, 0, 12287, 32767]⟩) .e) none .e) none (.n (.n .e (some ⟨[0, 1, 2, 3, 4, 5, 6], [(0, 5), (4, 5)], [0, 0, 2, 6, 14, 31, 63]⟩) .e) none .e))
noncomputable def fi166 : FI := ⟨48, [], b166, pl166.get⟩
noncomputable def b170 : Code := match Go.Proofs.Tryz.f170.body with | some c => c | none => .skip
noncomputable def fi170 : FI := ⟨44, [(.tmp 8)], b170, fun _ => none⟩
noncomputable def b171 : Code := match Go.Proofs.Tryz.f171.body with | some c => c | none => .skip
def pl171 : T Plan := (.n (.n .e none (.n (.n (.n .e (some ⟨[0, 1, 2, 3, 4, 5, 9, 10, 6, 11, 7, 12, 8, 13, 14, 15, 16], [(11, 13), (12, 13)], [0, 1, 3, 7, 7, 7, 39, 119, 247, 7, 7, 1543, 3591, 8191, 16383, 32767, 65535]⟩) .e) none .e) none .e)) none .e)
noncomputable def fi171 : FI := ⟨148, [], b171, pl171.get⟩
noncomputable def b172 : Code := match Go.Proofs.Tryz.f172.body with | some c => c | none => .skip
def pl172 : T Plan := (.n (.n .e none (.n (.n (.n .e (some ⟨[0, 1, 2, 3, 4, 8, 9, 5, 10, 6, 11, 7, 12, 13, 14], [(10, 12), (11, 12)], [0, 1, 3, 7, 7, 23, 63, 127, 7, 7, 775, 1799, 4095, 8191, 16383]⟩) .e) none .e) none .e)) none .e)
noncomputable def fi172 : FI := ⟨134, [], b172, pl172.get⟩
noncomputable def b173 : Code := match Go.Proofs.Tryz.f173.body with | some c => c | none => .skip
def pl173 : T Plan := (.n (.n .e (some ⟨[0, 1, 6, 2, 7, 3, 4, 5, 8, 9, 10, 11, 12], [(2, 8), (4, 8), (7, 8)], [0, 0, 2, 6, 14, 30, 0, 64, 254, 511, 1023, 2047, 4095]⟩) .e) none .e)
noncomputable def fi173 : FI := ⟨16, [], b173, pl173.get⟩
noncomputable def b174 : Code := match Go.Proofs.Tryz.f174.body with | some c => c | none => .skip
def pl174 : T Plan := (.n .e none (.n (.n (.n (.n .e (some ⟨[0, 5, 10, 16, 1, 6, 11, 17, 2, 7, 12, 18, 3, 8, 13, 19, 4, 9, 14, 20, 15, 21, 22, 23], [(14, 21), (16, 21), (16, 23), (17, 21), (17, 23), (19, 21), (20, 21)], [0, 1, 3, 7, 15, 0, 32, 96, 224, 480, 0, 1024, 3072, 7168, 15360, 31744, 0, 65536, 196608, 458752, 983040, 2096128, 4194303, 8388607]⟩) .e) none .e) (some ⟨[0, 1, 6, 11, 17, 2, 7, 12, 18, 3, 8, 13, 19, 4, 9, 14, 20, 5, 10, 15, 21, 16, 22, 23], [(15, 22), (17, 22), (17, 23), (18, 22), (18, 23), (20, 22), (21, 22)], [0, 0, 2, 6, 14, 30, 0, 64, 192, 448, 960, 0, 2048, 6144, 14336, 30720, 63488, 0, 131072, 393216, 917504, 1966080, 4192256, 8388607]⟩) (.n .e (some ⟨[0, 1, 2, 3, 9, 4, 10, 5, 11, 6, 12, 7, 13, 8, 14, 15], [(9, 14), (12, 14), (13, 14)], [0, 0, 0, 0, 8, 24, 56, 120, 248, 0, 512, 1536, 3584, 7680, 16376, 32767]⟩) .e)) (some ⟨[0, 1, 6, 2, 7, 3, 8, 4, 9, 5, 10, 11], [(9, 11), (10, 11)], [0, 0, 2, 6, 14, 30, 0, 64, 192, 448, 960, 2047]⟩) (.n .e none (.n .e (some ⟨[0, 1, 6, 2, 7, 3, 8, 4, 9, 5, 10, 11, 12, 13], [(9, 13), (10, 13), (12, 13)], [0, 0, 2, 6, 14, 30, 0, 64, 192, 448, 960, 2046, 4094, 8191]⟩) .e))))
noncomputable def fi174 : FI := ⟨144, [], b174, pl174.get⟩
noncomputable def b175 : Code := match Go.Proofs.Tryz.f175.body with | some c => c | none => .skip
def pl175 : T Plan := (.n .e (some ⟨[0, 5, 12, 1, 6, 2, 7, 3, 8, 4, 9, 10, 11, 13], [(2, 13), (9, 13), (10, 13), (12, 13)], [0, 1, 3, 7, 15, 0, 32, 96, 224, 480, 1023, 2047, 0, 8191]⟩) .e)
noncomputable def fi175 : FI := ⟨46, [], b175, pl175.get⟩
noncomputable def b176 : Code := match Go.Proofs.Tryz.f176.body with | some c => c | none => .skip
def pl176 : T Plan := (.n (.n .e none (.n (.n .e (some ⟨[0, 5, 15, 1, 6, 2, 7, 3, 8, 4, 9, 10, 11, 12, 13, 14, 16, 17], [(2, 12), (2, 16), (8, 12), (9, 12), (11, 12)], [0, 1, 3, 7, 15, 0, 32, 96, 224, 480, 992, 2047, 4095, 8191, 8191, 0, 49151, 131071]⟩) .e) none .e)) none (.n (.n .e (some ⟨[0, 5, 11, 22, 1, 6, 12, 2, 7, 13, 3, 8, 14, 4, 9, 15, 10, 16, 17, 18, 19, 20, 21, 23, 24, 25], [(3, 18), (3, 23), (11, 18), (12, 18), (13, 18), (16, 18), (17, 18)], [0, 1, 3, 7, 15, 0, 32, 96, 224, 480, 992, 0, 2048, 6144, 14336, 30720, 63488, 131071, 262143, 524287, 524287, 524287, 0, 5242879, 14680063, 33554431]⟩) (.n .e (some ⟨[0, 1, 7, 2, 8, 3, 9, 4, 10, 5, 11, 6, 12, 13], [(7, 12), (10, 12), (11, 12)], [0, 0, 2, 6, 14, 30, 62, 0, 128, 384, 896, 1920, 4094, 8191]⟩) .e)) none .e))
noncomputable def fi176 : FI := ⟨105, [], b176, pl176.get⟩
noncomputable def b181 : Code := match Go.Proofs.Tryz.f181.body with | some c => c | none => .skip
noncomputable def fi181 : FI := ⟨9, [(.tmp 4)], b181, fun _ => none⟩
noncomputable def b182 : Code := match Go.Proofs.Tryz.f182.body with | some c => c | none => .skip
noncomputable def fi182 : FI := ⟨6, [(.tmp 2)], b182, fun _ => none⟩
noncomputable def b188 : Code := match Go.Proofs.Tryz.f188.body with | some c => c | none => .skip
noncomputable def fi188 : FI := ⟨42, [], b188, fun _ => none⟩
noncomputable def b189 : Code := match Go.Proofs.Tryz.f189.body with | some c => c | none => .skip
noncomputable def fi189 : FI := ⟨70, [(.tmp 4)], b189, fun _ => none⟩
noncomputable def b190 : Code := match Go.Proofs.Tryz.f190.body with | some c => c | none => .skip
noncomputable def fi190 : FI := ⟨21, [(.tmp 2), (.tmp 3), (.tmp 4)], b190, fun _ => none⟩
noncomputable def b191 : Code := match Go.Proofs.Tryz.f191.body with | some c => c | none => .skip
noncomputable def fi191 : FI := ⟨19, [(.tmp 4)], b191, fun _ => none⟩
noncomputable def b192 : Code := match Go.Proofs.Tryz.f192.body with | some c => c | none => .skip
noncomputable def fi192 : FI := ⟨92, [(.cell 2 142), (.tmp 3)], b192, fun _ => none⟩
noncomputable def b194 : Code := match Go.Proofs.Tryz.f194.body with | some c => c | none => .skip
noncomputable def fi194 : FI := ⟨6, [(.cell 2 138)], b194, fun _ => none⟩
noncomputable def b195 : Code := match Go.Proofs.Tryz.f195.body with | some c => c | none => .skip
noncomputable def fi195 : FI := ⟨5, [(.cell 2 140)], b195, fun _ => none⟩
noncomputable def b196 : Code := match Go.Proofs.Tryz.f196.body with | some c => c | none => .skip
def pl196 : T Plan := (.n (.n (.n (.n .e (some ⟨[0, 1, 2, 3, 6, 7, 4, 8, 5, 9, 10, 11, 12, 13], [(8, 10), (9, 10), (11, 12)], [0, 0, 0, 0, 12, 28, 0, 0, 192, 448, 1022, 2046, 4095, 8191]⟩) .e) none .e) none .e) none .e)
noncomputable def fi196 : FI := ⟨35, [(.tmp 6), (.tmp 7)], b196, pl196.get⟩
noncomputable def b197 : Code := match Go.Proofs.Tryz.f197.body with | some c => c | none => .skip
noncomputable def fi197 : FI := ⟨35, [(.cell 4 112)], b197, fun _ => none⟩
noncomputable def b198 : Code := match Go.Proofs.Tryz.f198.body with | some c => c | none => .skip
noncomputable def fi198 : FI := ⟨2, [(.cell 0 138)], b198, fun _ => none⟩
noncomputable def b199 : Code := match Go.Proofs.Tryz.f199.body with | some c => c | none => .skip
noncomputable def fi199 : FI := ⟨2, [(.cell 0 140)], b199, fun _ => none⟩
noncomputable def b200 : Code := match Go.Proofs.Tryz.f200.body with | some c => c | none => .skip
noncomputable def fi200 : FI := ⟨17, [(.tmp 2)], b200, fun _ => none⟩
noncomputable def b201 : Code := match Go.Proofs.Tryz.f201.body with | some c => c | none => .skip
noncomputable def fi201 : FI := ⟨15, [(.tmp 2)], b201, fun _ => none⟩
noncomputable def b203 : Code := match Go.Proofs.Tryz.f203.body with | some c => c | none => .skip
noncomputable def fi203 : FI := ⟨19, [(.tmp 4)], b203, fun _ => none⟩
noncomputable def b205 : Code := match Go.Proofs.Tryz.f205.body with | some c => c | none => .skip
noncomputable def fi205 : FI := ⟨50, [(.tmp 2)], b205, fun _ => none⟩
noncomputable def b207 : Code := match Go.Proofs.Tryz.f207.body with | some c => c | none => .skip
def pl207 : T Plan := (.n .e none (.n (.n .e (some ⟨[0, 1, 2, 3, 4, 5, 6, 9, 10, 7, 11, 8, 12, 13, 14, 15, 16], [(11, 14), (13, 14)], [0, 0, 3, 7, 15, 15, 15, 111, 239, 15, 15, 1039, 3599, 7695, 16383, 32767, 65535]⟩) .e) none (.n .e (some ⟨[0, 1, 2, 3, 5, 6, 10, 11, 4, 7, 12, 8, 13, 9, 14, 15, 16, 17], [(12, 15), (13, 15)], [0, 0, 0, 0, 8, 0, 0, 64, 224, 480, 0, 0, 3072, 7168, 16355, 32739, 65535, 131071]⟩) .e)))
noncomputable def fi207 : FI := ⟨53, [], b207, pl207.get⟩
noncomputable def b215 : Code := match Go.Proofs.Tryz.f215.body with | some c => c | none => .skip
def pl215 : T Plan := (.n .e none (.n (.n .e (some ⟨[0, 1, 2, 3, 4, 5, 8, 9, 6, 10, 7, 11, 12, 13, 14], [(10, 13), (12, 13)], [0, 0, 3, 7, 15, 15, 63, 127, 15, 15, 527, 1807, 3855, 8191, 16383]⟩) .e) none (.n .e (some ⟨[0, 1, 2, 3, 5, 6, 10, 11, 4, 7, 12, 8, 13, 9, 14, 15, 16, 17], [(12, 15), (13, 15)], [0, 0, 0, 0, 8, 0, 0, 64, 224, 480, 0, 0, 3072, 7168, 16355, 32739, 65535, 131071]⟩) .e)))
noncomputable def fi215 : FI := ⟨49, [], b215, pl215.get⟩
noncomputable def b224 : Code := match Go.Proofs.Tryz.f224.body with | some c => c | none => .skip
def pl224 : T Plan := (.n (.n .e (some ⟨[0, 1, 6, 7, 8, 2, 9, 3, 10, 4, 5, 11, 12, 13, 14, 15], [(4, 11), (8, 11), (10, 11)], [0, 0, 2, 6, 14, 30, 0, 0, 0, 448, 960, 2046, 4095, 8191, 16383, 32767]⟩) .e) none .e)
noncomputable def fi224 : FI := ⟨36, [], b224, pl224.get⟩
noncomputable def b225 : Code := match Go.Proofs.Tryz.f225.body with | some c => c | none => .skip
def pl225 : T Plan := (.n (.n .e (some ⟨[0, 1, 6, 7, 8, 2, 9, 3, 10, 4, 5, 11, 12, 13, 14, 15], [(4, 11), (8, 11), (10, 11)], [0, 0, 2, 6, 14, 30, 0, 0, 0, 448, 960, 2046, 4095, 8191, 16383, 32767]⟩) .e) none (.n .e (some ⟨[0, 1, 5, 6, 7, 2, 3, 4, 8, 9, 10, 11, 12, 13, 14], [(4, 8), (7, 8)], [0, 0, 2, 6, 14, 0, 0, 0, 254, 510, 1022, 1022, 2047, 6143, 14335]⟩) .e))
noncomputable def fi225 : FI := ⟨37, [], b225, pl225.get⟩
noncomputable def b226 : Code := match Go.Proofs.Tryz.f226.body with | some c => c | none => .skip
noncomputable def fi226 : FI := ⟨12, [(.cell 4 142)], b226, fun _ => none⟩
noncomputable def b228 : Code := match Go.Proofs.Tryz.f228.body with | some c => c | none => .skip
noncomputable def fi228 : FI := ⟨23, [(.tmp 4)], b228, fun _ => none⟩
noncomputable def b229 : Code := match Go.Proofs.Tryz.f229.body with | some c => c | none => .skip
noncomputable def fi229 : FI := ⟨21, [(.cell 6 142), (.tmp 7), (.tmp 8)], b229, fun _ => none⟩
noncomputable def b232 : Code := match Go.Proofs.Tryz.f232.body with | some c => c | none => .skip
noncomputable def fi232 : FI := ⟨19, [(.tmp 4)], b232, fun _ => none⟩
noncomputable def b234 : Code := match Go.Proofs.Tryz.f234.body with | some c => c | none => .skip
noncomputable def fi234 : FI := ⟨9, [(.tmp 2)], b234, fun _ => none⟩
noncomputable def b236 : Code := match Go.Proofs.Tryz.f236.body with | some c => c | none => .skip
noncomputable def fi236 : FI := ⟨8, [(.cell 2 359)], b236, fun _ => none⟩
noncomputable def b237 : Code := match Go.Proofs.Tryz.f237.body with | some c => c | none => .skip
noncomputable def fi237 : FI := ⟨6, [(.tmp 2)], b237, fun _ => none⟩
noncomputable def b238 : Code := match Go.Proofs.Tryz.f238.body with | some c => c | none => .skip
noncomputable def fi238 : FI := ⟨6, [(.tmp 2)], b238, fun _ => none⟩
noncomputable def b239 : Code := match Go.Proofs.Tryz.f239.body with | some c => c | none => .skip
noncomputable def fi239 : FI := ⟨37, [(.cell 4 140), (.tmp 5)], b239, fun _ => none⟩
noncomputable def b240 : Code := match Go.Proofs.Tryz.f240.body with | some c => c | none => .skip
noncomputable def fi240 : FI := ⟨9, [(.tmp 2)], b240, fun _ => none⟩
noncomputable def b247 : Code := match Go.Proofs.Tryz.f247.body with | some c => c | none => .skip
noncomputable def fi247 : FI := ⟨38, [(.cell 6 142), (.tmp 7)], b247, fun _ => none⟩
noncomputable def b248 : Code := match Go.Proofs.Tryz.f248.body with | some c => c | none => .skip
def pl248 : T Plan := (.n .e none (.n .e none (.n (.n .e (some ⟨[0, 2, 3, 5, 8, 1, 4, 6, 7, 9, 10, 11], [(4, 9), (5, 9), (5, 11), (6, 9), (8, 9)], [0, 1, 0, 0, 8, 0, 56, 120, 0, 504, 1023, 2047]⟩) .e) none .e)))
noncomputable def fi248 : FI := ⟨46, [(.cell 8 114), (.tmp 9)], b248, pl248.get⟩
noncomputable def b249 : Code := match Go.Proofs.Tryz.f249.body with | some c => c | none => .skip
noncomputable def fi249 : FI := ⟨12, [(.cell 4 142), (.tmp 5)], b249, fun _ => none⟩
noncomputable def b250 : Code := match Go.Proofs.Tryz.f250.body with | some c => c | none => .skip
noncomputable def fi250 : FI := ⟨8, [(.tmp 4)], b250, fun _ => none⟩
noncomputable def b251 : Code := match Go.Proofs.Tryz.f251.body with | some c => c | none => .skip
noncomputable def fi251 : FI := ⟨8, [(.tmp 4)], b251, fun _ => none⟩
noncomputable def b252 : Code := match Go.Proofs.Tryz.f252.body with | some c => c | none => .skip
noncomputable def fi252 : FI := ⟨50, [(.cell 4 142), (.tmp 5), (.tmp 6)], b252, fun _ => none⟩
noncomputable def b253 : Code := match Go.Proofs.Tryz.f253.body with | some c => c | none => .skip
noncomputable def fi253 : FI := ⟨15, [(.cell 3 138), (.tmp 4), (.tmp 5)], b253, fun _ => none⟩
noncomputable def b254 : Code := match Go.Proofs.Tryz.f254.body with | some c => c | none => .skip
noncomputable def fi254 : FI := ⟨33, [(.cell 6 138), (.tmp 7), (.tmp 8)], b254, fun _ => none⟩
noncomputable def b255 : Code := match Go.Proofs.Tryz.f255.body with | some c => c | none => .skip
noncomputable def fi255 : FI := ⟨15, [(.cell 3 140), (.tmp 4), (.tmp 5)], b255, fun _ => none⟩
noncomputable def b256 : Code := match Go.Proofs.Tryz.f256.body with | some c => c | none => .skip
def pl256 : T Plan := (.n (.n .e none (.n (.n (.n .e (some ⟨[0, 4, 1, 2, 3, 5, 6, 7, 8, 9], [(0, 2), (1, 2), (1, 4), (1, 5)], [0, 1, 3, 7, 0, 31, 63, 127, 255, 511]⟩) .e) none .e) (some ⟨[0, 2, 5, 8, 11, 13, 1, 3, 12, 14, 4, 15, 6, 7, 9, 10, 16, 17, 18, 19], [(2, 12), (3, 12), (3, 14), (6, 12), (6, 14), (6, 17), (7, 12), (7, 14), (7, 17), (8, 12), (8, 14), (8, 17), (9, 12), (9, 14), (9, 17)], [0, 1, 0, 4, 15, 0, 32, 127, 0, 352, 1023, 0, 2048, 0, 8192, 30720, 65535, 131071, 262143, 524287]⟩) .e)) none .e)
noncomputable def fi256 : FI := ⟨137, [(.cell 6 140), (.tmp 7), (.tmp 8)], b256, pl256.get⟩
noncomputable def b257 : Code := match Go.Proofs.Tryz.f257.body with | some c => c | none => .skip
noncomputable def fi257 : FI := ⟨38, [(.cell 6 142), (.tmp 7)], b257, fun _ => none⟩
noncomputable def b262 : Code := match Go.Proofs.Tryz.f262.body with | some c => c | none => .skip
noncomputable def fi262 : FI := ⟨9, [(.tmp 2)], b262, fun _ => none⟩
noncomputable def b263 : Code := match Go.Proofs.Tryz.f263.body with | some c => c | none => .skip
noncomputable def fi263 : FI := ⟨8, [(.tmp 2)], b263, fun _ => none⟩
noncomputable def b266 : Code := match Go.Proofs.Tryz.f266.body with | some c => c | none => .skip
noncomputable def fi266 : FI := ⟨21, [(.tmp 6)], b266, fun _ => none⟩
noncomputable def b267 : Code := match Go.Proofs.Tryz.f267.body with | some c => c | none => .skip
noncomputable def fi267 : FI := ⟨10, [(.cell 2 138), (.tmp 3)], b267, fun _ => none⟩
noncomputable def b268 : Code := match Go.Proofs.Tryz.f268.body with | some c => c | none => .skip
def pl268 : T Plan := (.n (.n .e none (.n .e (some ⟨[0, 3, 5, 8, 1, 6, 2, 7, 4, 9, 10], [(4, 11), (5, 11)], [0, 1, 3, 0, 15, 0, 32, 96, 0, 480, 1023]⟩) .e)) none .e)
noncomputable def fi268 : FI := ⟨51, [(.cell 4 138), (.tmp 5)], b268, pl268.get⟩
noncomputable def b269 : Code := match Go.Proofs.Tryz.f269.body with | some c => c | none => .skip
noncomputable def fi269 : FI := ⟨10, [(.cell 2 140), (.tmp 3)], b269, fun _ => none⟩
noncomputable def b270 : Code := match Go.Proofs.Tryz.f270.body with | some c => c | none => .skip
noncomputable def fi270 : FI := ⟨38, [(.cell 4 140), (.tmp 5)], b270, fun _ => none⟩
noncomputable def b271 : Code := match Go.Proofs.Tryz.f271.body with | some c => c | none => .skip
noncomputable def fi271 : FI := ⟨20, [(.tmp 4)], b271, fun _ => none⟩
noncomputable def b272 : Code := match Go.Proofs.Tryz.f272.body with | some c => c | none => .skip
noncomputable def fi272 : FI := ⟨17, [(.tmp 4)], b272, fun _ => none⟩
noncomputable def b273 : Code := match Go.Proofs.Tryz.f273.body with | some c => c | none => .skip
noncomputable def fi273 : FI := ⟨59, [(.tmp 2)], b273, fun _ => none⟩
noncomputable def b275 : Code := match Go.Proofs.Tryz.f275.body with | some c => c | none => .skip
noncomputable def fi275 : FI := ⟨38, [(.cell 6 140)], b275, fun _ => none⟩
noncomputable def b276 : Code := match Go.Proofs.Tryz.f276.body with | some c => c | none => .skip
noncomputable def fi276 : FI := ⟨11, [(.tmp 4)], b276, fun _ => none⟩
noncomputable def b277 : Code := match Go.Proofs.Tryz.f277.body with | some c => c | none => .skip
noncomputable def fi277 : FI := ⟨15, [(.cell 4 140)], b277, fun _ => none⟩
noncomputable def b279 : Code := match Go.Proofs.Tryz.f279.body with | some c => c | none => .skip
noncomputable def fi279 : FI := ⟨9, [(.tmp 2)], b279, fun _ => none⟩
noncomputable def b281 : Code := match Go.Proofs.Tryz.f281.body with | some c => c | none => .skip
noncomputable def fi281 : FI := ⟨66, [(.cell 6 140), (.tmp 7)], b281, fun _ => none⟩
noncomputable def b284 : Code := match Go.Proofs.Tryz.f284.body with | some c => c | none => .skip
noncomputable def fi284 : FI := ⟨20, [(.tmp 4), (.tmp 5)], b284, fun _ => none⟩
noncomputable def b285 : Code := match Go.Proofs.Tryz.f285.body with | some c => c | none => .skip
noncomputable def fi285 : FI := ⟨4, [(.tmp 2)], b285, fun _ => none⟩
noncomputable def b286 : Code := match Go.Proofs.Tryz.f286.body with | some c => c | none => .skip
noncomputable def fi286 : FI := ⟨32, [(.cell 4 138)], b286, fun _ => none⟩
noncomputable def b289 : Code := match Go.Proofs.Tryz.f289.body with | some c => c | none => .skip
def pl289 : T Plan := (.n .e none (.n (.n .e (some ⟨[0, 2, 5, 7, 1, 3, 6, 8, 4, 9, 10, 11, 12], [(4, 11), (5, 11), (6, 11), (7, 11)], [0, 1, 0, 4, 15, 0, 32, 0, 128, 480, 1023, 2047, 4095]⟩) .e) none .e))
noncomputable def fi289 : FI := ⟨27, [(.cell 4 138), (.tmp 5)], b289, pl289.get⟩
noncomputable def b306 : Code := match Go.Proofs.Tryz.f306.body with | some c => c | none => .skip
noncomputable def fi306 : FI := ⟨25, [(.tmp 6), (.tmp 7)], b306, fun _ => none⟩
noncomputable def b308 : Code := match Go.Proofs.Tryz.f308.body with | some c => c | none => .skip
noncomputable def fi308 : FI := ⟨11, [(.cell 5 138), (.tmp 6)], b308, fun _ => none⟩
noncomputable def b309 : Code := match Go.Proofs.Tryz.f309.body with | some c => c | none => .skip
noncomputable def fi309 : FI := ⟨22, [(.tmp 6), (.tmp 7)], b309, fun _ => none⟩
noncomputable def b312 : Code := match Go.Proofs.Tryz.f312.body with | some c => c | none => .skip
noncomputable def fi312 : FI := ⟨14, [(.cell 2 138), (.tmp 3)], b312, fun _ => none⟩
noncomputable def b316 : Code := match Go.Proofs.Tryz.f316.body with | some c => c | none => .skip
noncomputable def fi316 : FI := ⟨2, [(.cell 0 425)], b316, fun _ => none⟩
noncomputable def b317 : Code := match Go.Proofs.Tryz.f317.body with | some c => c | none => .skip
noncomputable def fi317 : FI := ⟨9, [(.tmp 4), (.tmp 5)], b317, fun _ => none⟩
noncomputable def b353 : Code := match Go.Proofs.Tryz.f353.body with | some c => c | none => .skip
noncomputable def fi353 : FI := ⟨57, [(.tmp 2)], b353, fun _ => none⟩
noncomputable def b354 : Code := match Go.Proofs.Tryz.f354.body with | some c => c | none => .skip
noncomputable def fi354 : FI := ⟨108, [(.tmp 2)], b354, fun _ => none⟩
noncomputable def b355 : Code := match Go.Proofs.Tryz.f355.body with | some c => c | none => .skip
noncomputable def fi355 : FI := ⟨45, [(.tmp 2)], b355, fun _ => none⟩
noncomputable def b356 : Code := match Go.Proofs.Tryz.f356.body with | some c => c | none => .skip
noncomputable def fi356 : FI := ⟨65, [(.tmp 2)], b356, fun _ => none⟩
noncomputable def b357 : Code := match Go.Proofs.Tryz.f357.body with | some c => c | none => .skip
noncomputable def fi357 : FI := ⟨47, [(.tmp 2)], b357, fun _ => none⟩
noncomputable def b358 : Code := match Go.Proofs.Tryz.f358.body with | some c => c | none => .skip
noncomputable def fi358 : FI := ⟨25, [(.tmp 2)], b358, fun _ => none⟩
noncomputable def b359 : Code := match Go.Proofs.Tryz.f359.body with | some c => c | none => .skip
def pl359 : T Plan := (.n .e none (.n (.n .e none (.n .e (some ⟨[0, 2, 5, 1, 3, 4, 6, 7, 8, 9, 10], [(3, 11), (5, 11), (8, 11)], [0, 1, 0, 4, 12, 0, 60, 124, 252, 511, 1023]⟩) .e)) none .e))
noncomputable def fi359 : FI := ⟨98, [(.tmp 10)], b359, pl359.get⟩
noncomputable def b360 : Code := match Go.Proofs.Tryz.f360.body with | some c => c | none => .skip
noncomputable def fi360 : FI := ⟨37, [(.tmp 5)], b360, fun _ => none⟩
def tyT : T TI := (.n (.n (.n (.n (.n (.n (.n (.n .e (some ⟨.func, 1, 8, [.nilFunc], false⟩) .e) none (.n .e none (.n .e (some ⟨(.array 64 446), 64, 64, [(.int .u8 0), (.int .u8 0), (.int .u8 0), (.int .u8 0), (.int .u8 0), (.int .u8 0), (.int .u8 0), (.int .u8 0), (.int .u8 0), (.int .u8 0), (.int .u8 0), (.int .u8 0), (.int .u8 0), (.int .u8 0), (.int .u8 0), (.int .u8 0), (.int .u8 0), (.int .u8 0), (.int .u8 0), (.int .u8 0), (.int .u8 0), (.int .u8 0), (.int .u8 0), (.int .u8 0), (.int .u8 0), (.int .u8 0), (.int .u8 0), (.int .u8 0), (.int .u8 0), (.int .u8 0), (.int .u8 0), (.int .u8 0), (.int .u8 0), (.int .u8 0), (.int .u8 0), (.int .u8 0), (.int .u8 0), (.int .u8 0), (.int .u8 0), (.int .u8 0), (.int .u8 0), (.int .u8 0), (.int .u8 0), (.int .u8 0), (.int .u8 0), (.int .u8 0), (.int .u8 0), (.int .u8 0), (.int .u8 0), (.int .u8 0), (.int .u8 0), (.int .u8 0), (.int .u8 0), (.int .u8 0), (.int .u8 0), (.int .u8 0), (.int .u8 0), (.int .u8 0), (.int .u8 0), (.int .u8 0), (.int .u8 0), (.int .u8 0), (.int .u8 0), (.int .u8 0)], false⟩) .e))) (some ⟨(.slice 68), 1, 24, [.nilSl], false⟩) (.n (.n .e (some ⟨.func, 1, 8, [.nilFunc], false⟩) .e) (some ⟨(.int .u64), 1, 8, [(.int .u64 0)], false⟩) (.n .e (some ⟨.func, 1, 8, [.nilFunc], false⟩) .e))) none (.n (.n (.n (.n .e (some ⟨.func, 1, 8, [.nilFunc], false⟩) .e) none .e) none .e) (some ⟨(.struct [0, 1, 2, 3, 4, 5]), 6, 48, [(.int .i64 0), (.int .i64 0), (.int .i64 0), (.int .i64 0), (.int .i64 0), (.int .i64 0)], false⟩) (.n (.n (.n .e (some ⟨.func, 1, 8, [.nilFunc], false⟩) .e) none .e) none .e))) none (.n (.n (.n (.n (.n .e (some ⟨(.struct [0, 1, 2, 3, 4, 5]), 6, 56, [(.str ⟨#[]⟩), (.int .i64 0), (.int .i64 0), (.int .i64 0), (.int .i64 0), (.int .i64 0)], false⟩) .e) none .e) (some ⟨(.int .u32), 1, 4, [(.int .u32 0)], false⟩) .e) none (.n .e none (.n (.n .e (some ⟨(.struct [0, 2]), 4, 16, [(.int .u32 0), (.int .u32 0), (.int .u32 0), (.int .u32 0)], false⟩) .e) none .e))) (some ⟨(.slice 47), 1, 24, [.nilSl], false⟩) (.n (.n .e (some ⟨(.map 47 4), 1, 8, [.nilMap], false⟩) .e) none (.n .e (some ⟨(.slice 4), 1, 24, [.nilSl], false⟩) (.n .e (some ⟨(.struct [0, 1, 2]), 6, 32, [(.int .i64 0), (.int .i64 0), (.int .u32 0), (.int .u32 0), (.int .u32 0), (.int .u32 0)], false⟩) .e))))) (some ⟨(.int .i64), 1, 8, [(.int .i64 0)], false⟩) (.n (.n (.n (.n (.n .e (some ⟨(.struct [0, 1]), 2, 16, [(.int .i64 0), (.int .i64 0)], false⟩) (.n .e (some ⟨.func, 1, 8, [.nilFunc], false⟩) .e)) none .e) (some ⟨(.slice 27), 1, 24, [.nilSl], false⟩) (.n .e none (.n .e (some ⟨.func, 1, 8, [.nilFunc], false⟩) .e))) none (.n .e (some ⟨(.slice 118), 1, 24, [.nilSl], false⟩) (.n .e none (.n .e (some ⟨(.ptr 245), 1, 8, [.nilPtr], false⟩) .e)))) none (.n (.n .e none (.n .e none (.n (.n .e (some ⟨(.slice 138), 1, 24, [.nilSl], false⟩) .e) none .e))) (some ⟨(.slice 3), 1, 24, [.nilSl], false⟩) (.n .e (some ⟨(.slice 131), 1, 24, [.nilSl], false⟩) (.n .e (some ⟨(.struct [0, 8, 10, 16, 17]), 18, 352, [.nilSl, .nilSl, .nilSl, (.int .i64 0), .nilSl, .nilSl, (.int .i64 0), .nilSl, .nilSl, .nilSl, .nilSl, .nilSl, .nilSl, .nilSl, .nilSl, (.int .i64 0), .nilMap, .nilMap], false⟩) (.n .e (some ⟨(.int .i64), 1, 8, [(.int .i64 0)], false⟩) .e)))))) none (.n (.n (.n (.n .e (some ⟨(.slice 71), 1, 24, [.nilSl], false⟩) (.n (.n .e none (.n .e (some ⟨(.int .u16), 1, 2, [(.int .u16 0)], false⟩) .e)) none (.n .e (some ⟨(.ptr 229), 1, 8, [.nilPtr], false⟩) .e))) none (.n (.n .e (some ⟨(.ptr 123), 1, 8, [.nilPtr], false⟩) .e) (some ⟨(.slice 104), 1, 24, [.nilSl], false⟩) .e)) (some ⟨.str, 1, 16, [(.str ⟨#[]⟩)], false⟩) (.n (.n (.n .e (some ⟨(.struct [0, 1]), 2, 2, [(.bool false), (.bool false)], false⟩) (.n .e (some ⟨(.int .u64), 1, 8, [(.int .u64 0)], false⟩) .e)) none (.n (.n .e none (.n .e (some ⟨(.array 20 424), 20, 160, [.nilFunc, .nilFunc, .nilFunc, .nilFunc, .nilFunc, .nilFunc, .nilFunc, .nilFunc, .nilFunc, .nilFunc, .nilFunc, .nilFunc, .nilFunc, .nilFunc, .nilFunc, .nilFunc, .nilFunc, .nilFunc, .nilFunc, .nilFunc], false⟩) .e)) none .e)) none (.n (.n (.n (.n .e (some ⟨.func, 1, 8, [.nilFunc], false⟩) .e) none .e) none .e) none (.n (.n .e (some ⟨(.struct [0]), 9, 112, [.nilSl, .nilSl, .nilSl, (.int .u32 0), (.int .u32 0), (.int .i64 0), (.int .i64 0), (.int .u64 0), (.int .u64 0)], false⟩) .e) (some ⟨(.map 3 3), 1, 8, [.nilMap], false⟩) (.n (.n .e (some ⟨.func, 1, 8, [.nilFunc], false⟩) .e) none .e))))) (some ⟨(.int .u8), 1, 1, [(.int .u8 0)], false⟩) (.n (.n (.n (.n (.n .e (some ⟨(.slice 136), 1, 24, [.nilSl], false⟩) .e) none .e) (some ⟨(.struct [0, 1, 2, 3, 4, 5, 6, 7]), 8, 160, [.nilSl, .nilSl, .nilSl, (.int .i64 0), .nilSl, .nilSl, (.int .i64 0), .nilSl], false⟩) (.n (.n (.n .e (some ⟨(.ptr 4), 1, 8, [.nilPtr], false⟩) .e) (some ⟨(.array 24 5), 24, 24, [(.int .u8 0), (.int .u8 0), (.int .u8 0), (.int .u8 0), (.int .u8 0), (.int .u8 0), (.int .u8 0), (.int .u8 0), (.int .u8 0), (.int .u8 0), (.int .u8 0), (.int .u8 0), (.int .u8 0), (.int .u8 0), (.int .u8 0), (.int .u8 0), (.int .u8 0), (.int .u8 0), (.int .u8 0), (.int .u8 0), (.int .u8 0), (.int .u8 0), (.int .u8 0), (.int .u8 0)], false⟩) .e) none (.n (.n .e (some ⟨(.struct [0, 1]), 2, 8, [(.int .u32 0), (.int .u32 0)], false⟩) .e) (some ⟨(.struct [0, 8, 10, 14, 15, 16, 17]), 18, 336, [.nilSl, .nilSl, .nilSl, (.int .i64 0), .nilSl, .nilSl, (.int .i64 0), .nilSl, .nilSl, .nilSl, .nilSl, .nilSl, .nilSl, .nilSl, (.int .i64 0), .nilFunc, .nilFunc, (.bool false)], false⟩) .e))) none (.n .e none (.n (.n .e (some ⟨(.ptr 56), 1, 8, [.nilPtr], false⟩) .e) none (.n .e (some ⟨(.struct [0, 9, 17, 18, 22, 23, 53]), 54, 712, [.nilSl, .nilSl, .nilSl, (.int .u32 0), (.int .u32 0), (.int .i64 0), (.int .i64 0), (.int .u64 0), (.int .u64 0), .nilSl, .nilSl, .nilSl, (.int .i64 0), .nilSl, .nilSl, (.int .i64 0), .nilSl, (.int .i64 0), (.int .i64 0), (.int .i64 0), (.int .i64 0), (.int .i64 0), .nilSl, .nilSl, .nilSl, .nilSl, .nilSl, (.bool false), (.int .i64 0), .nilSl, .nilSl, .nilSl, (.int .u32 0), (.int .u32 0), (.int .i64 0), (.int .i64 0), (.int .u64 0), (.int .u64 0), (.int .i64 0), .nilSl, .nilSl, .nilSl, (.int .u32 0), (.int .u32 0), (.int .i64 0), (.int .i64 0), (.int .u64 0), (.int .u64 0), (.bool false), (.int .u32 0), (.int .u32 0), (.int .u32 0), (.int .u32 0), (.bool false)], false⟩) .e)))) none (.n (.n (.n (.n (.n .e (some ⟨.func, 1, 8, [.nilFunc], false⟩) .e) none .e) none (.n .e (some ⟨.func, 1, 8, [.nilFunc], false⟩) .e)) (some ⟨.func, 1, 8, [.nilFunc], false⟩) (.n (.n (.n .e (some ⟨(.slice 110), 1, 24, [.nilSl], false⟩) .e) none .e) none .e)) none (.n (.n .e none (.n .e (some ⟨(.ptr 116), 1, 8, [.nilPtr], false⟩) .e)) (some ⟨(.struct [0, 1, 2]), 3, 56, [(.int .i64 0), .nilSl, .nilSl], false⟩) .e))))) none (.n (.n (.n (.n (.n (.n (.n .e none (.n .e (some ⟨.func, 1, 8, [.nilFunc], false⟩) .e)) none .e) (some ⟨(.slice 70), 1, 24, [.nilSl], false⟩) .e) none (.n (.n (.n .e (some ⟨(.struct [0, 1, 2, 3, 4, 5, 6, 15, 25, 26]), 30, 368, [.nilSl, .nilSl, .nilSl, .nilSl, (.bool false), (.int .i64 0), .nilSl, .nilSl, .nilSl, (.int .u32 0), (.int .u32 0), (.int .i64 0), (.int .i64 0), (.int .u64 0), (.int .u64 0), (.int .i64 0), .nilSl, .nilSl, .nilSl, (.int .u32 0), (.int .u32 0), (.int .i64 0), (.int .i64 0), (.int .u64 0), (.int .u64 0), (.bool false), (.int .u32 0), (.int .u32 0), (.int .u32 0), (.int .u32 0)], false⟩) .e) none (.n .e (some ⟨(.struct [0]), 8, 160, [.nilSl, .nilSl, .nilSl, (.int .i64 0), .nilSl, .nilSl, (.int .i64 0), .nilSl], false⟩) .e)) none (.n .e (some ⟨(.struct [0, 1, 2, 3]), 4, 24, [(.int .u32 0), (.int .u32 0), (.int .i64 0), (.int .i64 0)], true⟩) .e))) none (.n (.n (.n (.n (.n .e (some ⟨(.slice 263), 1, 24, [.nilSl], false⟩) .e) (some ⟨(.struct [0, 1]), 10, 120, [(.int .i64 0), .nilSl, .nilSl, .nilSl, (.int .u32 0), (.int .u32 0), (.int .i64 0), (.int .i64 0), (.int .u64 0), (.int .u64 0)], false⟩) .e) none .e) none (.n (.n .e none (.n .e (some ⟨.func, 1, 8, [.nilFunc], false⟩) .e)) (some ⟨(.struct [0, 1]), 2, 48, [.nilSl, .nilSl], false⟩) (.n .e (some ⟨(.array 2 3), 2, 16, [(.int .i64 0), (.int .i64 0)], false⟩) .e))) (some ⟨(.int .i64), 1, 8, [(.int .i64 0)], false⟩) (.n .e (some ⟨(.struct [0, 1, 5]), 6, 128, [.nilSl, .nilSl, .nilSl, .nilSl, .nilSl, (.int .i64 0)], false⟩) (.n .e (some ⟨(.map 232 126), 1, 8, [.nilMap], false⟩) .e)))) (some ⟨.bool, 1, 1, [(.bool false)], false⟩) (.n (.n (.n (.n (.n .e none (.n .e (some ⟨(.array 20 9), 20, 320, [(.str ⟨#[]⟩), (.str ⟨#[]⟩), (.str ⟨#[]⟩), (.str ⟨#[]⟩), (.str ⟨#[]⟩), (.str ⟨#[]⟩), (.str ⟨#[]⟩), (.str ⟨#[]⟩), (.str ⟨#[]⟩), (.str ⟨#[]⟩), (.str ⟨#[]⟩), (.str ⟨#[]⟩), (.str ⟨#[]⟩), (.str ⟨#[]⟩), (.str ⟨#[]⟩), (.str ⟨#[]⟩), (.str ⟨#[]⟩), (.str ⟨#[]⟩), (.str ⟨#[]⟩), (.str ⟨#[]⟩)], false⟩) .e)) (some ⟨(.struct [0, 1, 2, 3]), 4, 32, [(.int .i64 0), (.int .i64 0), (.int .i64 0), (.int .i64 0)], false⟩) .e) none (.n .e none (.n (.n .e (some ⟨(.struct [0, 1]), 2, 8, [(.int .u32 0), (.int .u32 0)], false⟩) .e) none .e))) none (.n .e (some ⟨(.slice 119), 1, 24, [.nilSl], false⟩) (.n .e (some ⟨(.struct [0, 1]), 10, 120, [(.bool false), .nilSl, .nilSl, .nilSl, (.int .u32 0), (.int .u32 0), (.int .i64 0), (.int .i64 0), (.int .u64 0), (.int .u64 0)], false⟩) .e))) none (.n (.n (.n (.n .e (some ⟨(.struct [0, 1]), 2, 8, [(.int .u32 0), (.int .u32 0)], false⟩) .e) (some ⟨(.struct [0, 1, 2]), 3, 24, [(.int .i64 0), (.int .i64 0), (.int .i64 0)], false⟩) .e) none (.n .e none (.n (.n .e (some ⟨(.slice 140), 1, 24, [.nilSl], false⟩) .e) none .e))) none (.n (.n .e (some ⟨.func, 1, 8, [.nilFunc], false⟩) .e) none (.n .e none (.n (.n .e (some ⟨.func, 1, 8, [.nilFunc], false⟩) .e) none .e)))))) (some ⟨(.int .i64), 1, 8, [(.int .i64 0)], false⟩) (.n (.n (.n (.n (.n (.n (.n .e (some ⟨(.slice 232), 1, 24, [.nilSl], false⟩) .e) none .e) none .e) (some ⟨(.slice 73), 1, 24, [.nilSl], false⟩) (.n .e (some ⟨(.struct [0, 1]), 2, 48, [.nilSl, .nilSl], false⟩) .e)) none (.n .e (some ⟨(.slice 116), 1, 24, [.nilSl], false⟩) (.n .e (some ⟨(.struct [0, 1, 2, 3, 7, 8]), 9, 112, [.nilSl, .nilSl, .nilSl, (.int .u32 0), (.int .u32 0), (.int .i64 0), (.int .i64 0), (.int .u64 0), (.int .u64 0)], false⟩) .e))) none (.n (.n (.n (.n .e (some ⟨(.struct [0, 1]), 2, 8, [(.int .u32 0), (.int .u32 0)], false⟩) .e) (some ⟨(.map 3 9), 1, 8, [.nilMap], false⟩) .e) (some ⟨(.slice 5), 1, 24, [.nilSl], false⟩) .e) (some ⟨(.struct [0, 1, 2, 3]), 4, 48, [(.int .i64 0), (.int .i64 0), .nilSl, (.int .i64 0)], false⟩) (.n (.n .e none (.n .e (some ⟨(.struct [0, 1, 5]), 14, 136, [(.bool false), (.int .u32 0), (.int .u32 0), (.int .u32 0), (.int .u32 0), .nilSl, .nilSl, .nilSl, (.int .u32 0), (.int .u32 0), (.int .i64 0), (.int .i64 0), (.int .u64 0), (.int .u64 0)], false⟩) .e)) none .e))) none (.n (.n (.n (.n (.n .e (some ⟨(.slice 247), 1, 24, [.nilSl], false⟩) .e) (some ⟨(.struct [0, 1, 2]), 3, 24, [(.int .i64 0), (.int .i64 0), (.int .i64 0)], false⟩) .e) none (.n (.n (.n .e (some ⟨(.ptr 142), 1, 8, [.nilPtr], false⟩) .e) none .e) (some ⟨(.slice 218), 1, 24, [.nilSl], false⟩) .e)) (some ⟨(.slice 76), 1, 24, [.nilSl], false⟩) (.n .e (some ⟨(.struct [0, 1, 2, 3]), 4, 96, [.nilSl, .nilSl, .nilSl, .nilSl], false⟩) (.n .e (some ⟨(.slice 158), 1, 24, [.nilSl], false⟩) .e))) none (.n (.n (.n (.n .e (some ⟨(.struct [0, 2]), 4, 16, [(.int .u32 0), (.int .u32 0), (.int .u32 0), (.int .u32 0)], true⟩) (.n .e (some ⟨.func, 1, 8, [.nilFunc], false⟩) .e)) none (.n .e (some ⟨(.array 6 205), 6, 48, [.nilFunc, .nilFunc, .nilFunc, .nilFunc, .nilFunc, .nilFunc], false⟩) .e)) none (.n .e (some ⟨(.slice 142), 1, 24, [.nilSl], false⟩) (.n .e (some ⟨.func, 1, 8, [.nilFunc], false⟩) .e))) none (.n (.n (.n .e (some ⟨(.struct [0, 1]), 5, 20, [(.bool false), (.int .u32 0), (.int .u32 0), (.int .u32 0), (.int .u32 0)], false⟩) .e) (some ⟨.func, 1, 8, [.nilFunc], false⟩) .e) none (.n (.n .e none (.n .e (some ⟨(.int .u8), 1, 1, [(.int .u8 0)], false⟩) .e)) (some ⟨(.struct [0, 1]), 2, 16, [(.int .i64 0), (.bool false)], false⟩) .e)))))))
noncomputable def fnT : T FI := (.n (.n (.n (.n (.n (.n (.n (.n (.n .e (some fi255) .e) none .e) (some fi63) (.n .e (some fi191) .e)) (some fi31) (.n (.n .e (some fi159) .e) (some fi95) .e)) none (.n (.n (.n (.n .e (some fi271) .e) (some fi143) .e) none (.n .e (some fi207) .e)) none (.n (.n .e (some fi175) .e) (some fi111) (.n .e (some fi239) .e)))) (some fi7) (.n (.n (.n (.n (.n .e (some fi263) .e) none .e) (some fi71) (.n .e (some fi199) .e)) (some fi39) (.n .e none (.n (.n .e (some fi359) .e) none .e))) (some fi23) (.n (.n (.n (.n .e (some fi279) .e) (some fi151) .e) (some fi87) (.n .e (some fi215) .e)) none (.n .e (some fi119) (.n .e (some fi247) .e))))) none (.n (.n (.n (.n .e (some fi67) (.n .e (some fi195) .e)) (some fi35) (.n (.n .e (some fi163) .e) (some fi99) (.n (.n .e (some fi355) .e) none .e))) (some fi19) (.n (.n (.n (.n .e (some fi275) .e) none .e) (some fi83) .e) none (.n .e (some fi115) .e))) (some fi11) (.n (.n (.n (.n (.n .e (some fi267) .e) (some fi139) .e) none (.n .e (some fi203) .e)) (some fi43) (.n (.n .e (some fi171) .e) none .e)) (some fi27) (.n (.n (.n .e (some fi155) .e) none .e) none (.n .e (some fi123) (.n .e (some fi251) .e)))))) none (.n (.n (.n (.n (.n (.n (.n .e (some fi257) .e) none .e) (some fi65) .e) (some fi33) (.n (.n (.n .e (some fi289) .e) (some fi161) .e) (some fi97) (.n (.n .e (some fi353) .e) (some fi225) .e))) (some fi17) (.n (.n (.n (.n .e (some fi273) .e) (some fi145) .e) (some fi81) .e) (some fi49) (.n .e (some fi113) .e))) (some fi9) (.n (.n (.n (.n .e (some fi137) .e) (some fi73) (.n .e (some fi201) .e)) (some fi41) (.n .e (some fi105) .e)) (some fi25) (.n (.n (.n (.n .e (some fi281) .e) none .e) none .e) (some fi57) (.n .e (some fi121) (.n .e (some fi249) .e))))) none (.n (.n (.n (.n .e (some fi69) (.n .e (some fi197) .e)) (some fi37) (.n (.n .e (some fi165) .e) (some fi101) (.n (.n .e (some fi357) .e) (some fi229) .e))) (some fi21) (.n (.n (.n (.n .e (some fi277) .e) (some fi149) .e) none .e) (some fi53) (.n (.n (.n .e (some fi309) .e) (some fi181) .e) none .e))) (some fi13) (.n (.n (.n (.n (.n .e (some fi269) .e) (some fi141) .e) (some fi77) (.n .e (some fi205) .e)) (some fi45) (.n (.n .e (some fi173) .e) (some fi109) (.n .e (some fi237) .e))) none (.n (.n (.n (.n .e (some fi285) .e) (some fi157) .e) (some fi93) .e) (some fi61) (.n (.n (.n .e (some fi317) .e) (some fi189) .e) (some fi125) (.n .e (some fi253) .e))))))) none (.n (.n (.n (.n (.n (.n (.n (.n .e (some fi256) .e) none .e) (some fi64) (.n .e (some fi192) .e)) none (.n .e (some fi96) (.n .e (some fi224) .e))) (some fi16) (.n (.n (.n (.n .e (some fi272) .e) (some fi144) .e) (some fi80) .e) none (.n (.n .e (some fi176) .e) none (.n .e (some fi240) .e)))) (some fi8) (.n (.n (.n .e (some fi72) (.n .e (some fi200) .e)) (some fi40) (.n .e (some fi104) (.n (.n .e (some fi360) .e) (some fi232) .e))) (some fi24) (.n (.n (.n .e (some fi152) .e) none .e) none (.n (.n (.n .e (some fi312) .e) none .e) (some fi120) (.n .e (some fi248) .e))))) (some fi4) (.n (.n (.n (.n .e none (.n .e (some fi196) .e)) (some fi36) (.n .e (some fi100) (.n (.n .e (some fi356) .e) (some fi228) .e))) (some fi20) (.n (.n (.n (.n .e (some fi276) .e) none .e) (some fi84) .e) (some fi52) (.n (.n (.n .e (some fi308) .e) none .e) (some fi116) .e))) (some fi12) (.n (.n (.n (.n (.n .e (some fi268) .e) (some fi140) .e) none .e) (some fi44) (.n (.n .e (some fi172) .e) (some fi108) (.n .e (some fi236) .e))) (some fi28) (.n (.n (.n (.n .e (some fi284) .e) (some fi156) .e) (some fi92) .e) none (.n (.n (.n .e (some fi316) .e) (some fi188) .e) (some fi124) (.n .e (some fi252) .e)))))) none (.n (.n (.n (.n (.n .e (some fi66) (.n .e (some fi194) .e)) (some fi34) (.n (.n .e (some fi162) .e) (some fi98) (.n (.n .e (some fi354) .e) (some fi226) .e))) (some fi18) (.n (.n (.n .e (some fi146) .e) (some fi82) .e) (some fi50) (.n (.n (.n .e (some fi306) .e) none .e) (some fi114) .e))) (some fi10) (.n (.n (.n (.n (.n .e (some fi266) .e) (some fi138) .e) (some fi74) .e) (some fi42) (.n (.n .e (some fi170) .e) (some fi106) (.n .e (some fi234) .e))) (some fi26) (.n .e none (.n .e (some fi122) (.n .e (some fi250) .e))))) (some fi6) (.n (.n (.n (.n (.n (.n .e (some fi262) .e) (some fi134) .e) (some fi70) (.n .e (some fi198) .e)) (some fi38) (.n (.n .e (some fi166) .e) (some fi102) (.n (.n .e (some fi358) .e) none .e))) (some fi22) (.n (.n (.n .e (some fi150) .e) none .e) (some fi54) (.n (.n .e (some fi182) .e) (some fi118) .e))) (some fi14) (.n (.n (.n (.n (.n .e (some fi270) .e) (some fi142) .e) (some fi78) .e) (some fi46) (.n (.n .e (some fi174) .e) (some fi110) (.n .e (some fi238) .e))) (some fi30) (.n (.n (.n (.n .e (some fi286) .e) (some fi158) .e) (some fi94) .e) (some fi62) (.n (.n .e (some fi190) .e) (some fi126) (.n .e (some fi254) .e))))))))
def tyL : List (Nat × TI) := [(2, ⟨(.int .i64), 1, 8, [(.int .i64 0)], false⟩), (3, ⟨(.int .i64), 1, 8, [(.int .i64 0)], false⟩), (4, ⟨.bool, 1, 1, [(.bool false)], false⟩), (5, ⟨(.int .u8), 1, 1, [(.int .u8 0)], false⟩), (9, ⟨.str, 1, 16, [(.str ⟨#[]⟩)], false⟩), (22, ⟨(.slice 76), 1, 24, [.nilSl], false⟩), (23, ⟨(.slice 47), 1, 24, [.nilSl], false⟩), (24, ⟨(.int .i64), 1, 8, [(.int .i64 0)], false⟩), (26, ⟨(.struct [0, 1, 2, 3]), 4, 48, [(.int .i64 0), (.int .i64 0), .nilSl, (.int .i64 0)], false⟩), (27, ⟨(.slice 3), 1, 24, [.nilSl], false⟩), (31, ⟨(.slice 68), 1, 24, [.nilSl], false⟩), (32, ⟨(.slice 70), 1, 24, [.nilSl], false⟩), (33, ⟨(.slice 71), 1, 24, [.nilSl], false⟩), (34, ⟨(.slice 73), 1, 24, [.nilSl], false⟩), (35, ⟨(.slice 27), 1, 24, [.nilSl], false⟩), (37, ⟨(.struct [0, 1, 2, 3, 4, 5, 6, 7]), 8, 160, [.nilSl, .nilSl, .nilSl, (.int .i64 0), .nilSl, .nilSl, (.int .i64 0), .nilSl], false⟩), (42, ⟨(.slice 5), 1, 24, [.nilSl], false⟩), (45, ⟨.func, 1, 8, [.nilFunc], false⟩), (47, ⟨(.struct [0, 1, 2, 3, 4, 5]), 6, 48, [(.int .i64 0), (.int .i64 0), (.int .i64 0), (.int .i64 0), (.int .i64 0), (.int .i64 0)], false⟩), (49, ⟨(.slice 104), 1, 24, [.nilSl], false⟩), (50, ⟨(.slice 116), 1, 24, [.nilSl], false⟩), (51, ⟨(.slice 118), 1, 24, [.nilSl], false⟩), (52, ⟨(.slice 119), 1, 24, [.nilSl], false⟩), (54, ⟨(.struct [0, 1, 2, 3]), 4, 96, [.nilSl, .nilSl, .nilSl, .nilSl], false⟩), (56, ⟨(.struct [0, 1, 5]), 6, 128, [.nilSl, .nilSl, .nilSl, .nilSl, .nilSl, (.int .i64 0)], false⟩), (59, ⟨(.slice 131), 1, 24, [.nilSl], false⟩), (61, ⟨(.struct [0, 1, 2]), 3, 56, [(.int .i64 0), .nilSl, .nilSl], false⟩), (68, ⟨(.struct [0, 1, 2, 3]), 4, 32, [(.int .i64 0), (.int .i64 0), (.int .i64 0), (.int .i64 0)], false⟩), (70, ⟨(.struct [0, 1, 2]), 3, 24, [(.int .i64 0), (.int .i64 0), (.int .i64 0)], false⟩), (71, ⟨(.int .u32), 1, 4, [(.int .u32 0)], false⟩), (73, ⟨(.struct [0, 1]), 2, 2, [(.bool false), (.bool false)], false⟩), (74, ⟨(.map 3 9), 1, 8, [.nilMap], false⟩), (76, ⟨(.struct [0, 1, 2]), 3, 24, [(.int .i64 0), (.int .i64 0), (.int .i64 0)], false⟩), (81, ⟨(.ptr 123), 1, 8, [.nilPtr], false⟩), (87, ⟨(.map 47 4), 1, 8, [.nilMap], false⟩), (92, ⟨.func, 1, 8, [.nilFunc], false⟩), (94, ⟨.func, 1, 8, [.nilFunc], false⟩), (95, ⟨(.int .u64), 1, 8, [(.int .u64 0)], false⟩), (98, ⟨(.struct [0, 1]), 2, 48, [.nilSl, .nilSl], false⟩), (102, ⟨(.slice 218), 1, 24, [.nilSl], false⟩), (104, ⟨(.struct [0, 1]), 2, 48, [.nilSl, .nilSl], false⟩), (110, ⟨(.slice 142), 1, 24, [.nilSl], false⟩), (112, ⟨(.struct [0, 1, 2, 3]), 4, 24, [(.int .u32 0), (.int .u32 0), (.int .i64 0), (.int .i64 0)], true⟩), (114, ⟨(.struct [0, 1, 2, 3, 7, 8]), 9, 112, [.nilSl, .nilSl, .nilSl, (.int .u32 0), (.int .u32 0), (.int .i64 0), (.int .i64 0), (.int .u64 0), (.int .u64 0)], false⟩), (116, ⟨(.struct [0, 1]), 10, 120, [(.bool false), .nilSl, .nilSl, .nilSl, (.int .u32 0), (.int .u32 0), (.int .i64 0), (.int .i64 0), (.int .u64 0), (.int .u64 0)], false⟩), (118, ⟨(.slice 158), 1, 24, [.nilSl], false⟩), (119, ⟨(.slice 4), 1, 24, [.nilSl], false⟩), (120, ⟨(.map 232 126), 1, 8, [.nilMap], false⟩), (121, ⟨(.map 3 3), 1, 8, [.nilMap], false⟩), (123, ⟨(.struct [0, 8, 10, 16, 17]), 18, 352, [.nilSl, .nilSl, .nilSl, (.int .i64 0), .nilSl, .nilSl, (.int .i64 0), .nilSl, .nilSl, .nilSl, .nilSl, .nilSl, .nilSl, .nilSl, .nilSl, (.int .i64 0), .nilMap, .nilMap], false⟩), (126, ⟨(.struct [0, 1]), 2, 16, [(.int .i64 0), (.bool false)], false⟩), (127, ⟨.func, 1, 8, [.nilFunc], false⟩), (131, ⟨(.struct [0, 1]), 2, 16, [(.int .i64 0), (.int .i64 0)], false⟩), (133, ⟨(.slice 136), 1, 24, [.nilSl], false⟩), (134, ⟨(.slice 247), 1, 24, [.nilSl], false⟩), (136, ⟨(.struct [0, 1]), 10, 120, [(.int .i64 0), .nilSl, .nilSl, .nilSl, (.int .u32 0), (.int .u32 0), (.int .i64 0), (.int .i64 0), (.int .u64 0), (.int .u64 0)], false⟩), (138, ⟨(.struct [0, 1]), 2, 8, [(.int .u32 0), (.int .u32 0)], false⟩), (140, ⟨(.struct [0, 1]), 2, 8, [(.int .u32 0), (.int .u32 0)], false⟩), (142, ⟨(.struct [0, 2]), 4, 16, [(.int .u32 0), (.int .u32 0), (.int .u32 0), (.int .u32 0)], true⟩), (144, ⟨(.struct [0, 1, 2, 3, 4, 5, 6, 15, 25, 26]), 30, 368, [.nilSl, .nilSl, .nilSl, .nilSl, (.bool false), (.int .i64 0), .nilSl, .nilSl, .nilSl, (.int .u32 0), (.int .u32 0), (.int .i64 0), (.int .i64 0), (.int .u64 0), (.int .u64 0), (.int .i64 0), .nilSl, .nilSl, .nilSl, (.int .u32 0), (.int .u32 0), (.int .i64 0), (.int .i64 0), (.int .u64 0), (.int .u64 0), (.bool false), (.int .u32 0), (.int .u32 0), (.int .u32 0), (.int .u32 0)], false⟩), (158, ⟨(.struct [0, 1]), 5, 20, [(.bool false), (.int .u32 0), (.int .u32 0), (.int .u32 0), (.int .u32 0)], false⟩), (159, ⟨.func, 1, 8, [.nilFunc], false⟩), (165, ⟨(.array 24 5), 24, 24, [(.int .u8 0), (.int .u8 0), (.int .u8 0), (.int .u8 0), (.int .u8 0), (.int .u8 0), (.int .u8 0), (.int .u8 0), (.int .u8 0), (.int .u8 0), (.int .u8 0), (.int .u8 0), (.int .u8 0), (.int .u8 0), (.int .u8 0), (.int .u8 0), (.int .u8 0), (.int .u8 0), (.int .u8 0), (.int .u8 0), (.int .u8 0), (.int .u8 0), (.int .u8 0), (.int .u8 0)], false⟩), (181, ⟨(.ptr 56), 1, 8, [.nilPtr], false⟩), (185, ⟨(.struct [0]), 9, 112, [.nilSl, .nilSl, .nilSl, (.int .u32 0), (.int .u32 0), (.int .i64 0), (.int .i64 0), (.int .u64 0), (.int .u64 0)], false⟩), (201, ⟨(.int .u64), 1, 8, [(.int .u64 0)], false⟩), (205, ⟨.func, 1, 8, [.nilFunc], false⟩), (206, ⟨(.array 6 205), 6, 48, [.nilFunc, .nilFunc, .nilFunc, .nilFunc, .nilFunc, .nilFunc], false⟩), (208, ⟨(.struct [0]), 8, 160, [.nilSl, .nilSl, .nilSl, (.int .i64 0), .nilSl, .nilSl, (.int .i64 0), .nilSl], false⟩), (218, ⟨(.struct [0, 1, 5]), 14, 136, [(.bool false), (.int .u32 0), (.int .u32 0), (.int .u32 0), (.int .u32 0), .nilSl, .nilSl, .nilSl, (.int .u32 0), (.int .u32 0), (.int .i64 0), (.int .i64 0), (.int .u64 0), (.int .u64 0)], false⟩), (221, ⟨(.ptr 116), 1, 8, [.nilPtr], false⟩), (223, ⟨.func, 1, 8, [.nilFunc], false⟩), (225, ⟨(.ptr 229), 1, 8, [.nilPtr], false⟩), (227, ⟨.func, 1, 8, [.nilFunc], false⟩), (229, ⟨(.struct [0, 8, 10, 14, 15, 16, 17]), 18, 336, [.nilSl, .nilSl, .nilSl, (.int .i64 0), .nilSl, .nilSl, (.int .i64 0), .nilSl, .nilSl, .nilSl, .nilSl, .nilSl, .nilSl, .nilSl, (.int .i64 0), .nilFunc, .nilFunc, (.bool false)], false⟩), (232, ⟨(.array 2 3), 2, 16, [(.int .i64 0), (.int .i64 0)], false⟩), (238, ⟨.func, 1, 8, [.nilFunc], false⟩), (243, ⟨(.ptr 245), 1, 8, [.nilPtr], false⟩), (245, ⟨(.struct [0, 9, 17, 18, 22, 23, 53]), 54, 712, [.nilSl, .nilSl, .nilSl, (.int .u32 0), (.int .u32 0), (.int .i64 0), (.int .i64 0), (.int .u64 0), (.int .u64 0), .nilSl, .nilSl, .nilSl, (.int .i64 0), .nilSl, .nilSl, (.int .i64 0), .nilSl, (.int .i64 0), (.int .i64 0), (.int .i64 0), (.int .i64 0), (.int .i64 0), .nilSl, .nilSl, .nilSl, .nilSl, .nilSl, (.bool false), (.int .i64 0), .nilSl, .nilSl, .nilSl, (.int .u32 0), (.int .u32 0), (.int .i64 0), (.int .i64 0), (.int .u64 0), (.int .u64 0), (.int .i64 0), .nilSl, .nilSl, .nilSl, (.int .u32 0), (.int .u32 0), (.int .i64 0), (.int .i64 0), (.int .u64 0), (.int .u64 0), (.bool false), (.int .u32 0), (.int .u32 0), (.int .u32 0), (.int .u32 0), (.bool false)], false⟩), (247, ⟨(.struct [0, 1, 2]), 6, 32, [(.int .i64 0), (.int .i64 0), (.int .u32 0), (.int .u32 0), (.int .u32 0), (.int .u32 0)], false⟩), (251, ⟨(.int .i64), 1, 8, [(.int .i64 0)], false⟩), (258, ⟨(.slice 232), 1, 24, [.nilSl], false⟩), (263, ⟨(.struct [0, 1, 2, 3, 4, 5]), 6, 56, [(.str ⟨#[]⟩), (.int .i64 0), (.int .i64 0), (.int .i64 0), (.int .i64 0), (.int .i64 0)], false⟩), (264, ⟨(.slice 263), 1, 24, [.nilSl], false⟩), (269, ⟨.func, 1, 8, [.nilFunc], false⟩), (271, ⟨.func, 1, 8, [.nilFunc], false⟩), (281, ⟨.func, 1, 8, [.nilFunc], false⟩), (293, ⟨(.ptr 4), 1, 8, [.nilPtr], false⟩), (294, ⟨(.ptr 142), 1, 8, [.nilPtr], false⟩), (301, ⟨(.slice 110), 1, 24, [.nilSl], false⟩), (303, ⟨.func, 1, 8, [.nilFunc], false⟩), (356, ⟨(.struct [0, 1]), 2, 8, [(.int .u32 0), (.int .u32 0)], false⟩), (357, ⟨(.struct [0, 1]), 2, 8, [(.int .u32 0), (.int .u32 0)], false⟩), (359, ⟨(.struct [0, 2]), 4, 16, [(.int .u32 0), (.int .u32 0), (.int .u32 0), (.int .u32 0)], false⟩), (363, ⟨(.slice 138), 1, 24, [.nilSl], false⟩), (364, ⟨(.slice 140), 1, 24, [.nilSl], false⟩), (377, ⟨.func, 1, 8, [.nilFunc], false⟩), (380, ⟨.func, 1, 8, [.nilFunc], false⟩), (384, ⟨.func, 1, 8, [.nilFunc], false⟩), (387, ⟨.func, 1, 8, [.nilFunc], false⟩), (388, ⟨(.array 20 9), 20, 320, [(.str ⟨#[]⟩), (.str ⟨#[]⟩), (.str ⟨#[]⟩), (.str ⟨#[]⟩), (.str ⟨#[]⟩), (.str ⟨#[]⟩), (.str ⟨#[]⟩), (.str ⟨#[]⟩), (.str ⟨#[]⟩), (.str ⟨#[]⟩), (.str ⟨#[]⟩), (.str ⟨#[]⟩), (.str ⟨#[]⟩), (.str ⟨#[]⟩), (.str ⟨#[]⟩), (.str ⟨#[]⟩), (.str ⟨#[]⟩), (.str ⟨#[]⟩), (.str ⟨#[]⟩), (.str ⟨#[]⟩)], false⟩), (398, ⟨.func, 1, 8, [.nilFunc], false⟩), (417, ⟨(.int .u16), 1, 2, [(.int .u16 0)], false⟩), (424, ⟨.func, 1, 8, [.nilFunc], false⟩), (425, ⟨(.array 20 424), 20, 160, [.nilFunc, .nilFunc, .nilFunc, .nilFunc, .nilFunc, .nilFunc, .nilFunc, .nilFunc, .nilFunc, .nilFunc, .nilFunc, .nilFunc, .nilFunc, .nilFunc, .nilFunc, .nilFunc, .nilFunc, .nilFunc, .nilFunc, .nilFunc], false⟩), (446, ⟨(.int .u8), 1, 1, [(.int .u8 0)], false⟩), (447, ⟨(.array 64 446), 64, 64, [(.int .u8 0), (.int .u8 0), (.int .u8 0), (.int .u8 0), (.int .u8 0), (.int .u8 0), (.int .u8 0), (.int .u8 0), (.int .u8 0), (.int .u8 0), (.int .u8 0), (.int .u8 0), (.int .u8 0), (.int .u8 0), (.int .u8 0), (.int .u8 0), (.int .u8 0), (.int .u8 0), (.int .u8 0), (.int .u8 0), (.int .u8 0), (.int .u8 0), (.int .u8 0), (.int .u8 0), (.int .u8 0), (.int .u8 0), (.int .u8 0), (.int .u8 0), (.int .u8 0), (.int .u8 0), (.int .u8 0), (.int .u8 0), (.int .u8 0), (.int .u8 0), (.int .u8 0), (.int .u8 0), (.int .u8 0), (.int .u8 0), (.int .u8 0), (.int .u8 0), (.int .u8 0), (.int .u8 0), (.int .u8 0), (.int .u8 0), (.int .u8 0), (.int .u8 0), (.int .u8 0), (.int .u8 0), (.int .u8 0), (.int .u8 0), (.int .u8 0), (.int .u8 0), (.int .u8 0), (.int .u8 0), (.int .u8 0), (.int .u8 0), (.int .u8 0), (.int .u8 0), (.int .u8 0), (.int .u8 0), (.int .u8 0), (.int .u8 0), (.int .u8 0), (.int .u8 0)], false⟩)]
noncomputable def fnL : List (Nat × FI) := [(4, fi4), (6, fi6), (7, fi7), (8, fi8), (9, fi9), (10, fi10), (11, fi11), (12, fi12), (13, fi13), (14, fi14), (16, fi16), (17, fi17), (18, fi18), (19, fi19), (20, fi20), (21, fi21), (22, fi22), (23, fi23), (24, fi24), (25, fi25), (26, fi26), (27, fi27), (28, fi28), (30, fi30), (31, fi31), (33, fi33), (34, fi34), (35, fi35), (36, fi36), (37, fi37), (38, fi38), (39, fi39), (40, fi40), (41, fi41), (42, fi42), (43, fi43), (44, fi44), (45, fi45), (46, fi46), (49, fi49), (50, fi50), (52, fi52), (53, fi53), (54, fi54), (57, fi57), (61, fi61), (62, fi62), (63, fi63), (64, fi64), (65, fi65), (66, fi66), (67, fi67), (69, fi69), (70, fi70), (71, fi71), (72, fi72), (73, fi73), (74, fi74), (77, fi77), (78, fi78), (80, fi80), (81, fi81), (82, fi82), (83, fi83), (84, fi84), (87, fi87), (92, fi92), (93, fi93), (94, fi94), (95, fi95), (96, fi96), (97, fi97), (98, fi98), (99, fi99), (100, fi100), (101, fi101), (102, fi102), (104, fi104), (105, fi105), (106, fi106), (108, fi108), (109, fi109), (110, fi110), (111, fi111), (113, fi113), (114, fi114), (115, fi115), (116, fi116), (118, fi118), (119, fi119), (120, fi120), (121, fi121), (122, fi122), (123, fi123), (124, fi124), (125, fi125), (126, fi126), (134, fi134), (137, fi137), (138, fi138), (139, fi139), (140, fi140), (141, fi141), (142, fi142), (143, fi143), (144, fi144), (145, fi145), (146, fi146), (149, fi149), (150, fi150), (151, fi151), (152, fi152), (155, fi155), (156, fi156), (157, fi157), (158, fi158), (159, fi159), (161, fi161), (162, fi162), (163, fi163), (165, fi165), (166, fi166), (170, fi170), (171, fi171), (172, fi172), (173, fi173), (174, fi174), (175, fi175), (176, fi176), (181, fi181), (182, fi182), (188, fi188), (189, fi189), (190, fi190), (191, fi191), (192, fi192), (194, fi194), (195, fi195), (196, fi196), (197, fi197), (198, fi198), (199, fi199), (200, fi200), (201, fi201), (203, fi203), (205, fi205), (207, fi207), (215, fi215), (224, fi224), (225, fi225), (226, fi226), (228, fi228), (229, fi229), (232, fi232), (234, fi234), (236, fi236), (237, fi237), (238, fi238), (239, fi239), (240, fi240), (247, fi247), (248, fi248), (249, fi249), (250, fi250), (251, fi251), (252, fi252), (253, fi253), (254, fi254), (255, fi255), (256, fi256), (257, fi257), (262, fi262), (263, fi263), (266, fi266), (267, fi267), (268, fi268), (269, fi269), (270, fi270), (271, fi271), (272, fi272), (273, fi273), (275, fi275), (276, fi276), (277, fi277), (279, fi279), (281, fi281), (284, fi284), (285, fi285), (286, fi286), (289, fi289), (306, fi306), (308, fi308), (309, fi309), (312, fi312), (316, fi316), (317, fi317), (353, fi353), (354, fi354), (355, fi355), (356, fi356), (357, fi357), (358, fi358), (359, fi359), (360, fi360)]
end Go.Rf
