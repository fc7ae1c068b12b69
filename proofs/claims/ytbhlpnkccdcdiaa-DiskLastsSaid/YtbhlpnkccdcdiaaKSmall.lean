/- bournelaw06.small: the examples of the documentation come out as told. -/
import Derived.Test.YtbhlpnkccdcdiaaKDsk
namespace Go.Proofs.Ytbhlpnkccdcdiaa.Dk
open Go.RowKit Go.Proofs.YtbhlpnkccdcdiaaW.PrintWords Go.Lib
set_option linter.unusedVariables false
set_option linter.unusedSimpArgs false

def smD0 : DS := newD
def smD1 : DS := (appendD smD0 1 [104, 101, 108, 108, 111]).1
theorem smE0 : (appendD smD0 1 [104, 101, 108, 108, 111]) = (smD1, 0) := Prod.ext rfl (by kernel_rfl)
def smD2 : DS := (flushD smD1 1).1
theorem smE1 : (flushD smD1 1) = (smD2, 0) := Prod.ext rfl (by kernel_rfl)
def smD3 : DS := (appendD smD2 1 [121, 111, 117]).1
theorem smE2 : (appendD smD2 1 [121, 111, 117]) = (smD3, 0) := Prod.ext rfl (by kernel_rfl)
def smD4 : DS := crashD smD3 [1]
theorem smE3 : crashD smD3 [1] = smD4 := rfl
theorem smE4 : readD smD4 1 = ([], 9) := by kernel_rfl
theorem smE5 : smD4.down = true := by kernel_rfl
def smD5 : DS := { smD4 with down := false }
theorem smE6 : { smD4 with down := false } = smD5 := rfl
theorem smE7 : readD smD5 1 = ([104, 101, 108, 108, 111, 121], 0) := by kernel_rfl
def smD6 : DS := { smD5 with lost := 1 }
theorem smE8 : { smD5 with lost := (1 : Int).toNat } = smD6 := rfl
def smD7 : DS := (flushD smD6 1).1
theorem smE9 : (flushD smD6 1) = (smD7, 13) := Prod.ext rfl (by kernel_rfl)
def smD8 : DS := (appendD smD7 2 [120]).1
theorem smE10 : (appendD smD7 2 [120]) = (smD8, 0) := Prod.ext rfl (by kernel_rfl)
def smD9 : DS := (turnD smD8 1 2).1
theorem smE11 : (turnD smD8 1 2) = (smD9, 10) := Prod.ext rfl (by kernel_rfl)
def smD10 : DS := (flushD smD9 2).1
theorem smE12 : (flushD smD9 2) = (smD10, 0) := Prod.ext rfl (by kernel_rfl)
def smD11 : DS := (turnD smD10 1 2).1
theorem smE13 : (turnD smD10 1 2) = (smD11, 0) := Prod.ext rfl (by kernel_rfl)
theorem smE14 : readD smD11 1 = ([120], 0) := by kernel_rfl
def smD12 : DS := (appendD smD11 3 [100, 101, 102, 103]).1
theorem smE15 : (appendD smD11 3 [100, 101, 102, 103]) = (smD12, 0) := Prod.ext rfl (by kernel_rfl)
def smD13 : DS := (appendD smD12 3 [104, 105]).1
theorem smE16 : (appendD smD12 3 [104, 105]) = (smD13, 0) := Prod.ext rfl (by kernel_rfl)
def smD14 : DS := crashD smD13 [1, 2]
theorem smE17 : crashD smD13 [1, 2] = smD14 := rfl
def smD15 : DS := { smD14 with down := false }
theorem smE18 : { smD14 with down := false } = smD15 := rfl
theorem smE19 : readD smD15 3 = ([100, 0, 0, 0, 104, 105], 0) := by kernel_rfl
theorem smE20 : sizeOf smD15 2 = 0 := by kernel_rfl
def smD16 : DS := (appendD smD15 8 []).1
theorem smE21 : (appendD smD15 8 []) = (smD16, 1) := Prod.ext rfl (by kernel_rfl)
def smD17 : DS := (cutD smD16 1 2).1
theorem smE22 : (cutD smD16 1 2) = (smD17, 1) := Prod.ext rfl (by kernel_rfl)

set_option maxRecDepth 100000 in
set_option maxHeartbeats 4000000 in
theorem small6F (w : World) : Calls Try.prog 13 #[] w fun e w' => e = .returned (.bool true) ∧ Below w.heap.size w w' := by
  go_enter Try.func13, Try.ntmps13
  go_wp2_with fail
  go_at_call 14
  refine (newP (Below.refl _ w)).mono ?_
  rintro e w0 ⟨rfl, hd, _⟩
  have HD0 : Aside0 (Dsk w w0 w.heap.size smD0 0) := ⟨hd⟩
  clear hd
  go_wp2_with fail
  go_at_call 15
  refine (appendP HD0.out (by decide) 1 ⟨#[104, 101, 108, 108, 111]⟩ (by decide) 0 smE0).mono ?_
  rintro e w1 ⟨rfl, hd, _⟩
  have HD1 := Aside0.mk hd
  clear hd
  go_wp2_with fail
  go_at_call 16
  refine (flushP HD1.out 1 0 smE1).mono ?_
  rintro e w2 ⟨rfl, hd, _⟩
  have HD2 := Aside0.mk hd
  clear hd
  go_wp2_with fail
  go_at_call 15
  refine (appendP HD2.out (by decide) 1 ⟨#[121, 111, 117]⟩ (by decide) 0 smE2).mono ?_
  rintro e w3 ⟨rfl, hd, _⟩
  have HD3 := Aside0.mk hd
  clear hd
  go_wp2_with fail
  go_at_call 18
  refine (crashP (HD3.out.alloc _) _ _ _ [1] rfl (KArg.lit (cs := _) rfl (MapKept.heap_alloc w3 _).1 (by decide) (Nat.ne_of_gt HD3.out.lt)) smE3).mono ?_
  rintro e w4 ⟨rfl, hd, _⟩
  have HD4 := Aside0.mk hd
  clear hd
  go_wp2_with fail
  go_at_call 20
  refine (readP HD4.out 1 ⟨#[]⟩ 9 smE4).mono ?_
  rintro e w5 ⟨rfl, hd, _⟩
  have HD5 := Aside0.mk hd
  clear hd
  go_wp2_with fail
  go_at_call 23
  refine (downP HD5.out true smE5).mono ?_
  rintro e w6 ⟨rfl, rfl⟩
  go_wp2_with fail
  go_at_call 19
  refine (startP HD5.out smE6).mono ?_
  rintro e w7 ⟨rfl, hd, _⟩
  have HD7 := Aside0.mk hd
  clear hd
  go_wp2_with fail
  go_at_call 20
  refine (readP HD7.out 1 ⟨#[104, 101, 108, 108, 111, 121]⟩ 0 smE7).mono ?_
  rintro e w8 ⟨rfl, hd, _⟩
  have HD8 := Aside0.mk hd
  clear hd
  go_wp2_with fail
  go_at_call 52
  refine (loseP HD8.out 1 (by decide) smE8).mono ?_
  rintro e w9 ⟨rfl, hd, _⟩
  have HD9 := Aside0.mk hd
  clear hd
  go_wp2_with fail
  go_at_call 16
  refine (flushP HD9.out 1 13 smE9).mono ?_
  rintro e w10 ⟨rfl, hd, _⟩
  have HD10 := Aside0.mk hd
  clear hd
  go_wp2_with fail
  go_at_call 15
  refine (appendP HD10.out (by decide) 2 ⟨#[120]⟩ (by decide) 0 smE10).mono ?_
  rintro e w11 ⟨rfl, hd, _⟩
  have HD11 := Aside0.mk hd
  clear hd
  go_wp2_with fail
  go_at_call 17
  refine (turnP HD11.out 1 2 10 smE11).mono ?_
  rintro e w12 ⟨rfl, hd, _⟩
  have HD12 := Aside0.mk hd
  clear hd
  go_wp2_with fail
  go_at_call 16
  refine (flushP HD12.out 2 0 smE12).mono ?_
  rintro e w13 ⟨rfl, hd, _⟩
  have HD13 := Aside0.mk hd
  clear hd
  go_wp2_with fail
  go_at_call 17
  refine (turnP HD13.out 1 2 0 smE13).mono ?_
  rintro e w14 ⟨rfl, hd, _⟩
  have HD14 := Aside0.mk hd
  clear hd
  go_wp2_with fail
  go_at_call 20
  refine (readP HD14.out 1 ⟨#[120]⟩ 0 smE14).mono ?_
  rintro e w15 ⟨rfl, hd, _⟩
  have HD15 := Aside0.mk hd
  clear hd
  go_wp2_with fail
  go_at_call 15
  refine (appendP HD15.out (by decide) 3 ⟨#[100, 101, 102, 103]⟩ (by decide) 0 smE15).mono ?_
  rintro e w16 ⟨rfl, hd, _⟩
  have HD16 := Aside0.mk hd
  clear hd
  go_wp2_with fail
  go_at_call 15
  refine (appendP HD16.out (by decide) 3 ⟨#[104, 105]⟩ (by decide) 0 smE16).mono ?_
  rintro e w17 ⟨rfl, hd, _⟩
  have HD17 := Aside0.mk hd
  clear hd
  go_wp2_with fail
  go_at_call 18
  refine (crashP (HD17.out.alloc _) _ _ _ [1, 2] rfl (KArg.lit (cs := _) rfl (MapKept.heap_alloc w17 _).1 (by decide) (Nat.ne_of_gt HD17.out.lt)) smE17).mono ?_
  rintro e w18 ⟨rfl, hd, _⟩
  have HD18 := Aside0.mk hd
  clear hd
  go_wp2_with fail
  go_at_call 19
  refine (startP HD18.out smE18).mono ?_
  rintro e w19 ⟨rfl, hd, _⟩
  have HD19 := Aside0.mk hd
  clear hd
  go_wp2_with fail
  go_at_call 20
  refine (readP HD19.out 3 ⟨#[100, 0, 0, 0, 104, 105]⟩ 0 smE19).mono ?_
  rintro e w20 ⟨rfl, hd, _⟩
  have HD20 := Aside0.mk hd
  clear hd
  go_wp2_with fail
  go_at_call 21
  refine (sizeP HD20.out 2 0 smE20).mono ?_
  rintro e w21 ⟨rfl, rfl⟩
  go_wp2_with fail
  go_at_call 15
  refine (appendP HD20.out (by decide) 8 ⟨#[]⟩ (by decide) 1 smE21).mono ?_
  rintro e w22 ⟨rfl, hd, _⟩
  have HD22 := Aside0.mk hd
  clear hd
  go_wp2_with fail
  go_at_call 53
  refine (cutP_ HD22.out 1 2 1 smE22).mono ?_
  rintro e w23 ⟨rfl, hd, _⟩
  have HD23 := Aside0.mk hd
  clear hd
  go_wp2_with fail
  go_ret
  exact ⟨rfl, HD23.out.far⟩

end Go.Proofs.Ytbhlpnkccdcdiaa.Dk
