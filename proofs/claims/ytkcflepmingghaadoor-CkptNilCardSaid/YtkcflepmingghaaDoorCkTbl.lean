/- A part of the proof that 'CkptNil' returns true for every input. No condition. -/
import Derived.Test.YtkcflepmingghaaDoorAmJ
import Derived.Test.YtkcflepmingghaaDoorProg
import Derived.KernelRfl
namespace Go.Proofs.YtkcflepmingghaaDoor.CkptNil
open Go.AM
noncomputable section
theorem mixed : Tryd.prog.follows .mixedOrders = true := by kernel_rfl
def noS0 : SumP := fun _ _ _ => none
theorem noS0_ok {P : Program} {B : Nat} : SumPOk P B noS0 := fun _ _ _ _ h => by cases h
def sh1 (c : Nat) : Nat := bif Nat.beq (Nat.land c 1) 1 then Nat.xor (Nat.shiftRight c 1) 2197175160 else Nat.shiftRight c 1
def shN (c : Nat) : Nat := sh1 (sh1 (sh1 (sh1 (sh1 (sh1 (sh1 (sh1 c)))))))
def Runs : Nat → Prop
  | 0 => True
  | n + 1 => Runs n ∧ dRes Tryd.prog noS0 2000 91 [.int .u32 (Int.ofNat n)] H0 = some (.int .u32 (Int.ofNat (shN n)))
theorem r0 : Runs 0 := trivial
theorem sh_0 : dRes Tryd.prog noS0 2000 91 [.int .u32 (Int.ofNat 0)] H0 = some (.int .u32 (Int.ofNat (shN 0))) := by kernel_rfl
theorem r1 : Runs 1 := ⟨r0, sh_0⟩
theorem sh_1 : dRes Tryd.prog noS0 2000 91 [.int .u32 (Int.ofNat 1)] H0 = some (.int .u32 (Int.ofNat (shN 1))) := by kernel_rfl
theorem r2 : Runs 2 := ⟨r1, sh_1⟩
theorem sh_2 : dRes Tryd.prog noS0 2000 91 [.int .u32 (Int.ofNat 2)] H0 = some (.int .u32 (Int.ofNat (shN 2))) := by kernel_rfl
theorem r3 : Runs 3 := ⟨r2, sh_2⟩
theorem sh_3 : dRes Tryd.prog noS0 2000 91 [.int .u32 (Int.ofNat 3)] H0 = some (.int .u32 (Int.ofNat (shN 3))) := by kernel_rfl
theorem r4 : Runs 4 := ⟨r3, sh_3⟩
theorem sh_4 : dRes Tryd.prog noS0 2000 91 [.int .u32 (Int.ofNat 4)] H0 = some (.int .u32 (Int.ofNat (shN 4))) := by kernel_rfl
theorem r5 : Runs 5 := ⟨r4, sh_4⟩
theorem sh_5 : dRes Tryd.prog noS0 2000 91 [.int .u32 (Int.ofNat 5)] H0 = some (.int .u32 (Int.ofNat (shN 5))) := by kernel_rfl
theorem r6 : Runs 6 := ⟨r5, sh_5⟩
theorem sh_6 : dRes Tryd.prog noS0 2000 91 [.int .u32 (Int.ofNat 6)] H0 = some (.int .u32 (Int.ofNat (shN 6))) := by kernel_rfl
theorem r7 : Runs 7 := ⟨r6, sh_6⟩
theorem sh_7 : dRes Tryd.prog noS0 2000 91 [.int .u32 (Int.ofNat 7)] H0 = some (.int .u32 (Int.ofNat (shN 7))) := by kernel_rfl
theorem r8 : Runs 8 := ⟨r7, sh_7⟩
theorem sh_8 : dRes Tryd.prog noS0 2000 91 [.int .u32 (Int.ofNat 8)] H0 = some (.int .u32 (Int.ofNat (shN 8))) := by kernel_rfl
theorem r9 : Runs 9 := ⟨r8, sh_8⟩
theorem sh_9 : dRes Tryd.prog noS0 2000 91 [.int .u32 (Int.ofNat 9)] H0 = some (.int .u32 (Int.ofNat (shN 9))) := by kernel_rfl
theorem r10 : Runs 10 := ⟨r9, sh_9⟩
theorem sh_10 : dRes Tryd.prog noS0 2000 91 [.int .u32 (Int.ofNat 10)] H0 = some (.int .u32 (Int.ofNat (shN 10))) := by kernel_rfl
theorem r11 : Runs 11 := ⟨r10, sh_10⟩
theorem sh_11 : dRes Tryd.prog noS0 2000 91 [.int .u32 (Int.ofNat 11)] H0 = some (.int .u32 (Int.ofNat (shN 11))) := by kernel_rfl
theorem r12 : Runs 12 := ⟨r11, sh_11⟩
theorem sh_12 : dRes Tryd.prog noS0 2000 91 [.int .u32 (Int.ofNat 12)] H0 = some (.int .u32 (Int.ofNat (shN 12))) := by kernel_rfl
theorem r13 : Runs 13 := ⟨r12, sh_12⟩
theorem sh_13 : dRes Tryd.prog noS0 2000 91 [.int .u32 (Int.ofNat 13)] H0 = some (.int .u32 (Int.ofNat (shN 13))) := by kernel_rfl
theorem r14 : Runs 14 := ⟨r13, sh_13⟩
theorem sh_14 : dRes Tryd.prog noS0 2000 91 [.int .u32 (Int.ofNat 14)] H0 = some (.int .u32 (Int.ofNat (shN 14))) := by kernel_rfl
theorem r15 : Runs 15 := ⟨r14, sh_14⟩
theorem sh_15 : dRes Tryd.prog noS0 2000 91 [.int .u32 (Int.ofNat 15)] H0 = some (.int .u32 (Int.ofNat (shN 15))) := by kernel_rfl
theorem r16 : Runs 16 := ⟨r15, sh_15⟩
theorem sh_16 : dRes Tryd.prog noS0 2000 91 [.int .u32 (Int.ofNat 16)] H0 = some (.int .u32 (Int.ofNat (shN 16))) := by kernel_rfl
theorem r17 : Runs 17 := ⟨r16, sh_16⟩
theorem sh_17 : dRes Tryd.prog noS0 2000 91 [.int .u32 (Int.ofNat 17)] H0 = some (.int .u32 (Int.ofNat (shN 17))) := by kernel_rfl
theorem r18 : Runs 18 := ⟨r17, sh_17⟩
theorem sh_18 : dRes Tryd.prog noS0 2000 91 [.int .u32 (Int.ofNat 18)] H0 = some (.int .u32 (Int.ofNat (shN 18))) := by kernel_rfl
theorem r19 : Runs 19 := ⟨r18, sh_18⟩
theorem sh_19 : dRes Tryd.prog noS0 2000 91 [.int .u32 (Int.ofNat 19)] H0 = some (.int .u32 (Int.ofNat (shN 19))) := by kernel_rfl
theorem r20 : Runs 20 := ⟨r19, sh_19⟩
theorem sh_20 : dRes Tryd.prog noS0 2000 91 [.int .u32 (Int.ofNat 20)] H0 = some (.int .u32 (Int.ofNat (shN 20))) := by kernel_rfl
theorem r21 : Runs 21 := ⟨r20, sh_20⟩
theorem sh_21 : dRes Tryd.prog noS0 2000 91 [.int .u32 (Int.ofNat 21)] H0 = some (.int .u32 (Int.ofNat (shN 21))) := by kernel_rfl
theorem r22 : Runs 22 := ⟨r21, sh_21⟩
theorem sh_22 : dRes Tryd.prog noS0 2000 91 [.int .u32 (Int.ofNat 22)] H0 = some (.int .u32 (Int.ofNat (shN 22))) := by kernel_rfl
theorem r23 : Runs 23 := ⟨r22, sh_22⟩
theorem sh_23 : dRes Tryd.prog noS0 2000 91 [.int .u32 (Int.ofNat 23)] H0 = some (.int .u32 (Int.ofNat (shN 23))) := by kernel_rfl
theorem r24 : Runs 24 := ⟨r23, sh_23⟩
theorem sh_24 : dRes Tryd.prog noS0 2000 91 [.int .u32 (Int.ofNat 24)] H0 = some (.int .u32 (Int.ofNat (shN 24))) := by kernel_rfl
theorem r25 : Runs 25 := ⟨r24, sh_24⟩
theorem sh_25 : dRes Tryd.prog noS0 2000 91 [.int .u32 (Int.ofNat 25)] H0 = some (.int .u32 (Int.ofNat (shN 25))) := by kernel_rfl
theorem r26 : Runs 26 := ⟨r25, sh_25⟩
theorem sh_26 : dRes Tryd.prog noS0 2000 91 [.int .u32 (Int.ofNat 26)] H0 = some (.int .u32 (Int.ofNat (shN 26))) := by kernel_rfl
theorem r27 : Runs 27 := ⟨r26, sh_26⟩
theorem sh_27 : dRes Tryd.prog noS0 2000 91 [.int .u32 (Int.ofNat 27)] H0 = some (.int .u32 (Int.ofNat (shN 27))) := by kernel_rfl
theorem r28 : Runs 28 := ⟨r27, sh_27⟩
theorem sh_28 : dRes Tryd.prog noS0 2000 91 [.int .u32 (Int.ofNat 28)] H0 = some (.int .u32 (Int.ofNat (shN 28))) := by kernel_rfl
theorem r29 : Runs 29 := ⟨r28, sh_28⟩
theorem sh_29 : dRes Tryd.prog noS0 2000 91 [.int .u32 (Int.ofNat 29)] H0 = some (.int .u32 (Int.ofNat (shN 29))) := by kernel_rfl
theorem r30 : Runs 30 := ⟨r29, sh_29⟩
theorem sh_30 : dRes Tryd.prog noS0 2000 91 [.int .u32 (Int.ofNat 30)] H0 = some (.int .u32 (Int.ofNat (shN 30))) := by kernel_rfl
theorem r31 : Runs 31 := ⟨r30, sh_30⟩
theorem sh_31 : dRes Tryd.prog noS0 2000 91 [.int .u32 (Int.ofNat 31)] H0 = some (.int .u32 (Int.ofNat (shN 31))) := by kernel_rfl
theorem r32 : Runs 32 := ⟨r31, sh_31⟩
theorem sh_32 : dRes Tryd.prog noS0 2000 91 [.int .u32 (Int.ofNat 32)] H0 = some (.int .u32 (Int.ofNat (shN 32))) := by kernel_rfl
theorem r33 : Runs 33 := ⟨r32, sh_32⟩
theorem sh_33 : dRes Tryd.prog noS0 2000 91 [.int .u32 (Int.ofNat 33)] H0 = some (.int .u32 (Int.ofNat (shN 33))) := by kernel_rfl
theorem r34 : Runs 34 := ⟨r33, sh_33⟩
theorem sh_34 : dRes Tryd.prog noS0 2000 91 [.int .u32 (Int.ofNat 34)] H0 = some (.int .u32 (Int.ofNat (shN 34))) := by kernel_rfl
theorem r35 : Runs 35 := ⟨r34, sh_34⟩
theorem sh_35 : dRes Tryd.prog noS0 2000 91 [.int .u32 (Int.ofNat 35)] H0 = some (.int .u32 (Int.ofNat (shN 35))) := by kernel_rfl
theorem r36 : Runs 36 := ⟨r35, sh_35⟩
theorem sh_36 : dRes Tryd.prog noS0 2000 91 [.int .u32 (Int.ofNat 36)] H0 = some (.int .u32 (Int.ofNat (shN 36))) := by kernel_rfl
theorem r37 : Runs 37 := ⟨r36, sh_36⟩
theorem sh_37 : dRes Tryd.prog noS0 2000 91 [.int .u32 (Int.ofNat 37)] H0 = some (.int .u32 (Int.ofNat (shN 37))) := by kernel_rfl
theorem r38 : Runs 38 := ⟨r37, sh_37⟩
theorem sh_38 : dRes Tryd.prog noS0 2000 91 [.int .u32 (Int.ofNat 38)] H0 = some (.int .u32 (Int.ofNat (shN 38))) := by kernel_rfl
theorem r39 : Runs 39 := ⟨r38, sh_38⟩
theorem sh_39 : dRes Tryd.prog noS0 2000 91 [.int .u32 (Int.ofNat 39)] H0 = some (.int .u32 (Int.ofNat (shN 39))) := by kernel_rfl
theorem r40 : Runs 40 := ⟨r39, sh_39⟩
theorem sh_40 : dRes Tryd.prog noS0 2000 91 [.int .u32 (Int.ofNat 40)] H0 = some (.int .u32 (Int.ofNat (shN 40))) := by kernel_rfl
theorem r41 : Runs 41 := ⟨r40, sh_40⟩
theorem sh_41 : dRes Tryd.prog noS0 2000 91 [.int .u32 (Int.ofNat 41)] H0 = some (.int .u32 (Int.ofNat (shN 41))) := by kernel_rfl
theorem r42 : Runs 42 := ⟨r41, sh_41⟩
theorem sh_42 : dRes Tryd.prog noS0 2000 91 [.int .u32 (Int.ofNat 42)] H0 = some (.int .u32 (Int.ofNat (shN 42))) := by kernel_rfl
theorem r43 : Runs 43 := ⟨r42, sh_42⟩
theorem sh_43 : dRes Tryd.prog noS0 2000 91 [.int .u32 (Int.ofNat 43)] H0 = some (.int .u32 (Int.ofNat (shN 43))) := by kernel_rfl
theorem r44 : Runs 44 := ⟨r43, sh_43⟩
theorem sh_44 : dRes Tryd.prog noS0 2000 91 [.int .u32 (Int.ofNat 44)] H0 = some (.int .u32 (Int.ofNat (shN 44))) := by kernel_rfl
theorem r45 : Runs 45 := ⟨r44, sh_44⟩
theorem sh_45 : dRes Tryd.prog noS0 2000 91 [.int .u32 (Int.ofNat 45)] H0 = some (.int .u32 (Int.ofNat (shN 45))) := by kernel_rfl
theorem r46 : Runs 46 := ⟨r45, sh_45⟩
theorem sh_46 : dRes Tryd.prog noS0 2000 91 [.int .u32 (Int.ofNat 46)] H0 = some (.int .u32 (Int.ofNat (shN 46))) := by kernel_rfl
theorem r47 : Runs 47 := ⟨r46, sh_46⟩
theorem sh_47 : dRes Tryd.prog noS0 2000 91 [.int .u32 (Int.ofNat 47)] H0 = some (.int .u32 (Int.ofNat (shN 47))) := by kernel_rfl
theorem r48 : Runs 48 := ⟨r47, sh_47⟩
theorem sh_48 : dRes Tryd.prog noS0 2000 91 [.int .u32 (Int.ofNat 48)] H0 = some (.int .u32 (Int.ofNat (shN 48))) := by kernel_rfl
theorem r49 : Runs 49 := ⟨r48, sh_48⟩
theorem sh_49 : dRes Tryd.prog noS0 2000 91 [.int .u32 (Int.ofNat 49)] H0 = some (.int .u32 (Int.ofNat (shN 49))) := by kernel_rfl
theorem r50 : Runs 50 := ⟨r49, sh_49⟩
theorem sh_50 : dRes Tryd.prog noS0 2000 91 [.int .u32 (Int.ofNat 50)] H0 = some (.int .u32 (Int.ofNat (shN 50))) := by kernel_rfl
theorem r51 : Runs 51 := ⟨r50, sh_50⟩
theorem sh_51 : dRes Tryd.prog noS0 2000 91 [.int .u32 (Int.ofNat 51)] H0 = some (.int .u32 (Int.ofNat (shN 51))) := by kernel_rfl
theorem r52 : Runs 52 := ⟨r51, sh_51⟩
theorem sh_52 : dRes Tryd.prog noS0 2000 91 [.int .u32 (Int.ofNat 52)] H0 = some (.int .u32 (Int.ofNat (shN 52))) := by kernel_rfl
theorem r53 : Runs 53 := ⟨r52, sh_52⟩
theorem sh_53 : dRes Tryd.prog noS0 2000 91 [.int .u32 (Int.ofNat 53)] H0 = some (.int .u32 (Int.ofNat (shN 53))) := by kernel_rfl
theorem r54 : Runs 54 := ⟨r53, sh_53⟩
theorem sh_54 : dRes Tryd.prog noS0 2000 91 [.int .u32 (Int.ofNat 54)] H0 = some (.int .u32 (Int.ofNat (shN 54))) := by kernel_rfl
theorem r55 : Runs 55 := ⟨r54, sh_54⟩
theorem sh_55 : dRes Tryd.prog noS0 2000 91 [.int .u32 (Int.ofNat 55)] H0 = some (.int .u32 (Int.ofNat (shN 55))) := by kernel_rfl
theorem r56 : Runs 56 := ⟨r55, sh_55⟩
theorem sh_56 : dRes Tryd.prog noS0 2000 91 [.int .u32 (Int.ofNat 56)] H0 = some (.int .u32 (Int.ofNat (shN 56))) := by kernel_rfl
theorem r57 : Runs 57 := ⟨r56, sh_56⟩
theorem sh_57 : dRes Tryd.prog noS0 2000 91 [.int .u32 (Int.ofNat 57)] H0 = some (.int .u32 (Int.ofNat (shN 57))) := by kernel_rfl
theorem r58 : Runs 58 := ⟨r57, sh_57⟩
theorem sh_58 : dRes Tryd.prog noS0 2000 91 [.int .u32 (Int.ofNat 58)] H0 = some (.int .u32 (Int.ofNat (shN 58))) := by kernel_rfl
theorem r59 : Runs 59 := ⟨r58, sh_58⟩
theorem sh_59 : dRes Tryd.prog noS0 2000 91 [.int .u32 (Int.ofNat 59)] H0 = some (.int .u32 (Int.ofNat (shN 59))) := by kernel_rfl
theorem r60 : Runs 60 := ⟨r59, sh_59⟩
theorem sh_60 : dRes Tryd.prog noS0 2000 91 [.int .u32 (Int.ofNat 60)] H0 = some (.int .u32 (Int.ofNat (shN 60))) := by kernel_rfl
theorem r61 : Runs 61 := ⟨r60, sh_60⟩
theorem sh_61 : dRes Tryd.prog noS0 2000 91 [.int .u32 (Int.ofNat 61)] H0 = some (.int .u32 (Int.ofNat (shN 61))) := by kernel_rfl
theorem r62 : Runs 62 := ⟨r61, sh_61⟩
theorem sh_62 : dRes Tryd.prog noS0 2000 91 [.int .u32 (Int.ofNat 62)] H0 = some (.int .u32 (Int.ofNat (shN 62))) := by kernel_rfl
theorem r63 : Runs 63 := ⟨r62, sh_62⟩
theorem sh_63 : dRes Tryd.prog noS0 2000 91 [.int .u32 (Int.ofNat 63)] H0 = some (.int .u32 (Int.ofNat (shN 63))) := by kernel_rfl
theorem r64 : Runs 64 := ⟨r63, sh_63⟩
theorem sh_64 : dRes Tryd.prog noS0 2000 91 [.int .u32 (Int.ofNat 64)] H0 = some (.int .u32 (Int.ofNat (shN 64))) := by kernel_rfl
theorem r65 : Runs 65 := ⟨r64, sh_64⟩
theorem sh_65 : dRes Tryd.prog noS0 2000 91 [.int .u32 (Int.ofNat 65)] H0 = some (.int .u32 (Int.ofNat (shN 65))) := by kernel_rfl
theorem r66 : Runs 66 := ⟨r65, sh_65⟩
theorem sh_66 : dRes Tryd.prog noS0 2000 91 [.int .u32 (Int.ofNat 66)] H0 = some (.int .u32 (Int.ofNat (shN 66))) := by kernel_rfl
theorem r67 : Runs 67 := ⟨r66, sh_66⟩
theorem sh_67 : dRes Tryd.prog noS0 2000 91 [.int .u32 (Int.ofNat 67)] H0 = some (.int .u32 (Int.ofNat (shN 67))) := by kernel_rfl
theorem r68 : Runs 68 := ⟨r67, sh_67⟩
theorem sh_68 : dRes Tryd.prog noS0 2000 91 [.int .u32 (Int.ofNat 68)] H0 = some (.int .u32 (Int.ofNat (shN 68))) := by kernel_rfl
theorem r69 : Runs 69 := ⟨r68, sh_68⟩
theorem sh_69 : dRes Tryd.prog noS0 2000 91 [.int .u32 (Int.ofNat 69)] H0 = some (.int .u32 (Int.ofNat (shN 69))) := by kernel_rfl
theorem r70 : Runs 70 := ⟨r69, sh_69⟩
theorem sh_70 : dRes Tryd.prog noS0 2000 91 [.int .u32 (Int.ofNat 70)] H0 = some (.int .u32 (Int.ofNat (shN 70))) := by kernel_rfl
theorem r71 : Runs 71 := ⟨r70, sh_70⟩
theorem sh_71 : dRes Tryd.prog noS0 2000 91 [.int .u32 (Int.ofNat 71)] H0 = some (.int .u32 (Int.ofNat (shN 71))) := by kernel_rfl
theorem r72 : Runs 72 := ⟨r71, sh_71⟩
theorem sh_72 : dRes Tryd.prog noS0 2000 91 [.int .u32 (Int.ofNat 72)] H0 = some (.int .u32 (Int.ofNat (shN 72))) := by kernel_rfl
theorem r73 : Runs 73 := ⟨r72, sh_72⟩
theorem sh_73 : dRes Tryd.prog noS0 2000 91 [.int .u32 (Int.ofNat 73)] H0 = some (.int .u32 (Int.ofNat (shN 73))) := by kernel_rfl
theorem r74 : Runs 74 := ⟨r73, sh_73⟩
theorem sh_74 : dRes Tryd.prog noS0 2000 91 [.int .u32 (Int.ofNat 74)] H0 = some (.int .u32 (Int.ofNat (shN 74))) := by kernel_rfl
theorem r75 : Runs 75 := ⟨r74, sh_74⟩
theorem sh_75 : dRes Tryd.prog noS0 2000 91 [.int .u32 (Int.ofNat 75)] H0 = some (.int .u32 (Int.ofNat (shN 75))) := by kernel_rfl
theorem r76 : Runs 76 := ⟨r75, sh_75⟩
theorem sh_76 : dRes Tryd.prog noS0 2000 91 [.int .u32 (Int.ofNat 76)] H0 = some (.int .u32 (Int.ofNat (shN 76))) := by kernel_rfl
theorem r77 : Runs 77 := ⟨r76, sh_76⟩
theorem sh_77 : dRes Tryd.prog noS0 2000 91 [.int .u32 (Int.ofNat 77)] H0 = some (.int .u32 (Int.ofNat (shN 77))) := by kernel_rfl
theorem r78 : Runs 78 := ⟨r77, sh_77⟩
theorem sh_78 : dRes Tryd.prog noS0 2000 91 [.int .u32 (Int.ofNat 78)] H0 = some (.int .u32 (Int.ofNat (shN 78))) := by kernel_rfl
theorem r79 : Runs 79 := ⟨r78, sh_78⟩
theorem sh_79 : dRes Tryd.prog noS0 2000 91 [.int .u32 (Int.ofNat 79)] H0 = some (.int .u32 (Int.ofNat (shN 79))) := by kernel_rfl
theorem r80 : Runs 80 := ⟨r79, sh_79⟩
theorem sh_80 : dRes Tryd.prog noS0 2000 91 [.int .u32 (Int.ofNat 80)] H0 = some (.int .u32 (Int.ofNat (shN 80))) := by kernel_rfl
theorem r81 : Runs 81 := ⟨r80, sh_80⟩
theorem sh_81 : dRes Tryd.prog noS0 2000 91 [.int .u32 (Int.ofNat 81)] H0 = some (.int .u32 (Int.ofNat (shN 81))) := by kernel_rfl
theorem r82 : Runs 82 := ⟨r81, sh_81⟩
theorem sh_82 : dRes Tryd.prog noS0 2000 91 [.int .u32 (Int.ofNat 82)] H0 = some (.int .u32 (Int.ofNat (shN 82))) := by kernel_rfl
theorem r83 : Runs 83 := ⟨r82, sh_82⟩
theorem sh_83 : dRes Tryd.prog noS0 2000 91 [.int .u32 (Int.ofNat 83)] H0 = some (.int .u32 (Int.ofNat (shN 83))) := by kernel_rfl
theorem r84 : Runs 84 := ⟨r83, sh_83⟩
theorem sh_84 : dRes Tryd.prog noS0 2000 91 [.int .u32 (Int.ofNat 84)] H0 = some (.int .u32 (Int.ofNat (shN 84))) := by kernel_rfl
theorem r85 : Runs 85 := ⟨r84, sh_84⟩
theorem sh_85 : dRes Tryd.prog noS0 2000 91 [.int .u32 (Int.ofNat 85)] H0 = some (.int .u32 (Int.ofNat (shN 85))) := by kernel_rfl
theorem r86 : Runs 86 := ⟨r85, sh_85⟩
theorem sh_86 : dRes Tryd.prog noS0 2000 91 [.int .u32 (Int.ofNat 86)] H0 = some (.int .u32 (Int.ofNat (shN 86))) := by kernel_rfl
theorem r87 : Runs 87 := ⟨r86, sh_86⟩
theorem sh_87 : dRes Tryd.prog noS0 2000 91 [.int .u32 (Int.ofNat 87)] H0 = some (.int .u32 (Int.ofNat (shN 87))) := by kernel_rfl
theorem r88 : Runs 88 := ⟨r87, sh_87⟩
theorem sh_88 : dRes Tryd.prog noS0 2000 91 [.int .u32 (Int.ofNat 88)] H0 = some (.int .u32 (Int.ofNat (shN 88))) := by kernel_rfl
theorem r89 : Runs 89 := ⟨r88, sh_88⟩
theorem sh_89 : dRes Tryd.prog noS0 2000 91 [.int .u32 (Int.ofNat 89)] H0 = some (.int .u32 (Int.ofNat (shN 89))) := by kernel_rfl
theorem r90 : Runs 90 := ⟨r89, sh_89⟩
theorem sh_90 : dRes Tryd.prog noS0 2000 91 [.int .u32 (Int.ofNat 90)] H0 = some (.int .u32 (Int.ofNat (shN 90))) := by kernel_rfl
theorem r91 : Runs 91 := ⟨r90, sh_90⟩
theorem sh_91 : dRes Tryd.prog noS0 2000 91 [.int .u32 (Int.ofNat 91)] H0 = some (.int .u32 (Int.ofNat (shN 91))) := by kernel_rfl
theorem r92 : Runs 92 := ⟨r91, sh_91⟩
theorem sh_92 : dRes Tryd.prog noS0 2000 91 [.int .u32 (Int.ofNat 92)] H0 = some (.int .u32 (Int.ofNat (shN 92))) := by kernel_rfl
theorem r93 : Runs 93 := ⟨r92, sh_92⟩
theorem sh_93 : dRes Tryd.prog noS0 2000 91 [.int .u32 (Int.ofNat 93)] H0 = some (.int .u32 (Int.ofNat (shN 93))) := by kernel_rfl
theorem r94 : Runs 94 := ⟨r93, sh_93⟩
theorem sh_94 : dRes Tryd.prog noS0 2000 91 [.int .u32 (Int.ofNat 94)] H0 = some (.int .u32 (Int.ofNat (shN 94))) := by kernel_rfl
theorem r95 : Runs 95 := ⟨r94, sh_94⟩
theorem sh_95 : dRes Tryd.prog noS0 2000 91 [.int .u32 (Int.ofNat 95)] H0 = some (.int .u32 (Int.ofNat (shN 95))) := by kernel_rfl
theorem r96 : Runs 96 := ⟨r95, sh_95⟩
theorem sh_96 : dRes Tryd.prog noS0 2000 91 [.int .u32 (Int.ofNat 96)] H0 = some (.int .u32 (Int.ofNat (shN 96))) := by kernel_rfl
theorem r97 : Runs 97 := ⟨r96, sh_96⟩
theorem sh_97 : dRes Tryd.prog noS0 2000 91 [.int .u32 (Int.ofNat 97)] H0 = some (.int .u32 (Int.ofNat (shN 97))) := by kernel_rfl
theorem r98 : Runs 98 := ⟨r97, sh_97⟩
theorem sh_98 : dRes Tryd.prog noS0 2000 91 [.int .u32 (Int.ofNat 98)] H0 = some (.int .u32 (Int.ofNat (shN 98))) := by kernel_rfl
theorem r99 : Runs 99 := ⟨r98, sh_98⟩
theorem sh_99 : dRes Tryd.prog noS0 2000 91 [.int .u32 (Int.ofNat 99)] H0 = some (.int .u32 (Int.ofNat (shN 99))) := by kernel_rfl
theorem r100 : Runs 100 := ⟨r99, sh_99⟩
theorem sh_100 : dRes Tryd.prog noS0 2000 91 [.int .u32 (Int.ofNat 100)] H0 = some (.int .u32 (Int.ofNat (shN 100))) := by kernel_rfl
theorem r101 : Runs 101 := ⟨r100, sh_100⟩
theorem sh_101 : dRes Tryd.prog noS0 2000 91 [.int .u32 (Int.ofNat 101)] H0 = some (.int .u32 (Int.ofNat (shN 101))) := by kernel_rfl
theorem r102 : Runs 102 := ⟨r101, sh_101⟩
theorem sh_102 : dRes Tryd.prog noS0 2000 91 [.int .u32 (Int.ofNat 102)] H0 = some (.int .u32 (Int.ofNat (shN 102))) := by kernel_rfl
theorem r103 : Runs 103 := ⟨r102, sh_102⟩
theorem sh_103 : dRes Tryd.prog noS0 2000 91 [.int .u32 (Int.ofNat 103)] H0 = some (.int .u32 (Int.ofNat (shN 103))) := by kernel_rfl
theorem r104 : Runs 104 := ⟨r103, sh_103⟩
theorem sh_104 : dRes Tryd.prog noS0 2000 91 [.int .u32 (Int.ofNat 104)] H0 = some (.int .u32 (Int.ofNat (shN 104))) := by kernel_rfl
theorem r105 : Runs 105 := ⟨r104, sh_104⟩
theorem sh_105 : dRes Tryd.prog noS0 2000 91 [.int .u32 (Int.ofNat 105)] H0 = some (.int .u32 (Int.ofNat (shN 105))) := by kernel_rfl
theorem r106 : Runs 106 := ⟨r105, sh_105⟩
theorem sh_106 : dRes Tryd.prog noS0 2000 91 [.int .u32 (Int.ofNat 106)] H0 = some (.int .u32 (Int.ofNat (shN 106))) := by kernel_rfl
theorem r107 : Runs 107 := ⟨r106, sh_106⟩
theorem sh_107 : dRes Tryd.prog noS0 2000 91 [.int .u32 (Int.ofNat 107)] H0 = some (.int .u32 (Int.ofNat (shN 107))) := by kernel_rfl
theorem r108 : Runs 108 := ⟨r107, sh_107⟩
theorem sh_108 : dRes Tryd.prog noS0 2000 91 [.int .u32 (Int.ofNat 108)] H0 = some (.int .u32 (Int.ofNat (shN 108))) := by kernel_rfl
theorem r109 : Runs 109 := ⟨r108, sh_108⟩
theorem sh_109 : dRes Tryd.prog noS0 2000 91 [.int .u32 (Int.ofNat 109)] H0 = some (.int .u32 (Int.ofNat (shN 109))) := by kernel_rfl
theorem r110 : Runs 110 := ⟨r109, sh_109⟩
theorem sh_110 : dRes Tryd.prog noS0 2000 91 [.int .u32 (Int.ofNat 110)] H0 = some (.int .u32 (Int.ofNat (shN 110))) := by kernel_rfl
theorem r111 : Runs 111 := ⟨r110, sh_110⟩
theorem sh_111 : dRes Tryd.prog noS0 2000 91 [.int .u32 (Int.ofNat 111)] H0 = some (.int .u32 (Int.ofNat (shN 111))) := by kernel_rfl
theorem r112 : Runs 112 := ⟨r111, sh_111⟩
theorem sh_112 : dRes Tryd.prog noS0 2000 91 [.int .u32 (Int.ofNat 112)] H0 = some (.int .u32 (Int.ofNat (shN 112))) := by kernel_rfl
theorem r113 : Runs 113 := ⟨r112, sh_112⟩
theorem sh_113 : dRes Tryd.prog noS0 2000 91 [.int .u32 (Int.ofNat 113)] H0 = some (.int .u32 (Int.ofNat (shN 113))) := by kernel_rfl
theorem r114 : Runs 114 := ⟨r113, sh_113⟩
theorem sh_114 : dRes Tryd.prog noS0 2000 91 [.int .u32 (Int.ofNat 114)] H0 = some (.int .u32 (Int.ofNat (shN 114))) := by kernel_rfl
theorem r115 : Runs 115 := ⟨r114, sh_114⟩
theorem sh_115 : dRes Tryd.prog noS0 2000 91 [.int .u32 (Int.ofNat 115)] H0 = some (.int .u32 (Int.ofNat (shN 115))) := by kernel_rfl
theorem r116 : Runs 116 := ⟨r115, sh_115⟩
theorem sh_116 : dRes Tryd.prog noS0 2000 91 [.int .u32 (Int.ofNat 116)] H0 = some (.int .u32 (Int.ofNat (shN 116))) := by kernel_rfl
theorem r117 : Runs 117 := ⟨r116, sh_116⟩
theorem sh_117 : dRes Tryd.prog noS0 2000 91 [.int .u32 (Int.ofNat 117)] H0 = some (.int .u32 (Int.ofNat (shN 117))) := by kernel_rfl
theorem r118 : Runs 118 := ⟨r117, sh_117⟩
theorem sh_118 : dRes Tryd.prog noS0 2000 91 [.int .u32 (Int.ofNat 118)] H0 = some (.int .u32 (Int.ofNat (shN 118))) := by kernel_rfl
theorem r119 : Runs 119 := ⟨r118, sh_118⟩
theorem sh_119 : dRes Tryd.prog noS0 2000 91 [.int .u32 (Int.ofNat 119)] H0 = some (.int .u32 (Int.ofNat (shN 119))) := by kernel_rfl
theorem r120 : Runs 120 := ⟨r119, sh_119⟩
theorem sh_120 : dRes Tryd.prog noS0 2000 91 [.int .u32 (Int.ofNat 120)] H0 = some (.int .u32 (Int.ofNat (shN 120))) := by kernel_rfl
theorem r121 : Runs 121 := ⟨r120, sh_120⟩
theorem sh_121 : dRes Tryd.prog noS0 2000 91 [.int .u32 (Int.ofNat 121)] H0 = some (.int .u32 (Int.ofNat (shN 121))) := by kernel_rfl
theorem r122 : Runs 122 := ⟨r121, sh_121⟩
theorem sh_122 : dRes Tryd.prog noS0 2000 91 [.int .u32 (Int.ofNat 122)] H0 = some (.int .u32 (Int.ofNat (shN 122))) := by kernel_rfl
theorem r123 : Runs 123 := ⟨r122, sh_122⟩
theorem sh_123 : dRes Tryd.prog noS0 2000 91 [.int .u32 (Int.ofNat 123)] H0 = some (.int .u32 (Int.ofNat (shN 123))) := by kernel_rfl
theorem r124 : Runs 124 := ⟨r123, sh_123⟩
theorem sh_124 : dRes Tryd.prog noS0 2000 91 [.int .u32 (Int.ofNat 124)] H0 = some (.int .u32 (Int.ofNat (shN 124))) := by kernel_rfl
theorem r125 : Runs 125 := ⟨r124, sh_124⟩
theorem sh_125 : dRes Tryd.prog noS0 2000 91 [.int .u32 (Int.ofNat 125)] H0 = some (.int .u32 (Int.ofNat (shN 125))) := by kernel_rfl
theorem r126 : Runs 126 := ⟨r125, sh_125⟩
theorem sh_126 : dRes Tryd.prog noS0 2000 91 [.int .u32 (Int.ofNat 126)] H0 = some (.int .u32 (Int.ofNat (shN 126))) := by kernel_rfl
theorem r127 : Runs 127 := ⟨r126, sh_126⟩
theorem sh_127 : dRes Tryd.prog noS0 2000 91 [.int .u32 (Int.ofNat 127)] H0 = some (.int .u32 (Int.ofNat (shN 127))) := by kernel_rfl
theorem r128 : Runs 128 := ⟨r127, sh_127⟩
theorem sh_128 : dRes Tryd.prog noS0 2000 91 [.int .u32 (Int.ofNat 128)] H0 = some (.int .u32 (Int.ofNat (shN 128))) := by kernel_rfl
theorem r129 : Runs 129 := ⟨r128, sh_128⟩
theorem sh_129 : dRes Tryd.prog noS0 2000 91 [.int .u32 (Int.ofNat 129)] H0 = some (.int .u32 (Int.ofNat (shN 129))) := by kernel_rfl
theorem r130 : Runs 130 := ⟨r129, sh_129⟩
theorem sh_130 : dRes Tryd.prog noS0 2000 91 [.int .u32 (Int.ofNat 130)] H0 = some (.int .u32 (Int.ofNat (shN 130))) := by kernel_rfl
theorem r131 : Runs 131 := ⟨r130, sh_130⟩
theorem sh_131 : dRes Tryd.prog noS0 2000 91 [.int .u32 (Int.ofNat 131)] H0 = some (.int .u32 (Int.ofNat (shN 131))) := by kernel_rfl
theorem r132 : Runs 132 := ⟨r131, sh_131⟩
theorem sh_132 : dRes Tryd.prog noS0 2000 91 [.int .u32 (Int.ofNat 132)] H0 = some (.int .u32 (Int.ofNat (shN 132))) := by kernel_rfl
theorem r133 : Runs 133 := ⟨r132, sh_132⟩
theorem sh_133 : dRes Tryd.prog noS0 2000 91 [.int .u32 (Int.ofNat 133)] H0 = some (.int .u32 (Int.ofNat (shN 133))) := by kernel_rfl
theorem r134 : Runs 134 := ⟨r133, sh_133⟩
theorem sh_134 : dRes Tryd.prog noS0 2000 91 [.int .u32 (Int.ofNat 134)] H0 = some (.int .u32 (Int.ofNat (shN 134))) := by kernel_rfl
theorem r135 : Runs 135 := ⟨r134, sh_134⟩
theorem sh_135 : dRes Tryd.prog noS0 2000 91 [.int .u32 (Int.ofNat 135)] H0 = some (.int .u32 (Int.ofNat (shN 135))) := by kernel_rfl
theorem r136 : Runs 136 := ⟨r135, sh_135⟩
theorem sh_136 : dRes Tryd.prog noS0 2000 91 [.int .u32 (Int.ofNat 136)] H0 = some (.int .u32 (Int.ofNat (shN 136))) := by kernel_rfl
theorem r137 : Runs 137 := ⟨r136, sh_136⟩
theorem sh_137 : dRes Tryd.prog noS0 2000 91 [.int .u32 (Int.ofNat 137)] H0 = some (.int .u32 (Int.ofNat (shN 137))) := by kernel_rfl
theorem r138 : Runs 138 := ⟨r137, sh_137⟩
theorem sh_138 : dRes Tryd.prog noS0 2000 91 [.int .u32 (Int.ofNat 138)] H0 = some (.int .u32 (Int.ofNat (shN 138))) := by kernel_rfl
theorem r139 : Runs 139 := ⟨r138, sh_138⟩
theorem sh_139 : dRes Tryd.prog noS0 2000 91 [.int .u32 (Int.ofNat 139)] H0 = some (.int .u32 (Int.ofNat (shN 139))) := by kernel_rfl
theorem r140 : Runs 140 := ⟨r139, sh_139⟩
theorem sh_140 : dRes Tryd.prog noS0 2000 91 [.int .u32 (Int.ofNat 140)] H0 = some (.int .u32 (Int.ofNat (shN 140))) := by kernel_rfl
theorem r141 : Runs 141 := ⟨r140, sh_140⟩
theorem sh_141 : dRes Tryd.prog noS0 2000 91 [.int .u32 (Int.ofNat 141)] H0 = some (.int .u32 (Int.ofNat (shN 141))) := by kernel_rfl
theorem r142 : Runs 142 := ⟨r141, sh_141⟩
theorem sh_142 : dRes Tryd.prog noS0 2000 91 [.int .u32 (Int.ofNat 142)] H0 = some (.int .u32 (Int.ofNat (shN 142))) := by kernel_rfl
theorem r143 : Runs 143 := ⟨r142, sh_142⟩
theorem sh_143 : dRes Tryd.prog noS0 2000 91 [.int .u32 (Int.ofNat 143)] H0 = some (.int .u32 (Int.ofNat (shN 143))) := by kernel_rfl
theorem r144 : Runs 144 := ⟨r143, sh_143⟩
theorem sh_144 : dRes Tryd.prog noS0 2000 91 [.int .u32 (Int.ofNat 144)] H0 = some (.int .u32 (Int.ofNat (shN 144))) := by kernel_rfl
theorem r145 : Runs 145 := ⟨r144, sh_144⟩
theorem sh_145 : dRes Tryd.prog noS0 2000 91 [.int .u32 (Int.ofNat 145)] H0 = some (.int .u32 (Int.ofNat (shN 145))) := by kernel_rfl
theorem r146 : Runs 146 := ⟨r145, sh_145⟩
theorem sh_146 : dRes Tryd.prog noS0 2000 91 [.int .u32 (Int.ofNat 146)] H0 = some (.int .u32 (Int.ofNat (shN 146))) := by kernel_rfl
theorem r147 : Runs 147 := ⟨r146, sh_146⟩
theorem sh_147 : dRes Tryd.prog noS0 2000 91 [.int .u32 (Int.ofNat 147)] H0 = some (.int .u32 (Int.ofNat (shN 147))) := by kernel_rfl
theorem r148 : Runs 148 := ⟨r147, sh_147⟩
theorem sh_148 : dRes Tryd.prog noS0 2000 91 [.int .u32 (Int.ofNat 148)] H0 = some (.int .u32 (Int.ofNat (shN 148))) := by kernel_rfl
theorem r149 : Runs 149 := ⟨r148, sh_148⟩
theorem sh_149 : dRes Tryd.prog noS0 2000 91 [.int .u32 (Int.ofNat 149)] H0 = some (.int .u32 (Int.ofNat (shN 149))) := by kernel_rfl
theorem r150 : Runs 150 := ⟨r149, sh_149⟩
theorem sh_150 : dRes Tryd.prog noS0 2000 91 [.int .u32 (Int.ofNat 150)] H0 = some (.int .u32 (Int.ofNat (shN 150))) := by kernel_rfl
theorem r151 : Runs 151 := ⟨r150, sh_150⟩
theorem sh_151 : dRes Tryd.prog noS0 2000 91 [.int .u32 (Int.ofNat 151)] H0 = some (.int .u32 (Int.ofNat (shN 151))) := by kernel_rfl
theorem r152 : Runs 152 := ⟨r151, sh_151⟩
theorem sh_152 : dRes Tryd.prog noS0 2000 91 [.int .u32 (Int.ofNat 152)] H0 = some (.int .u32 (Int.ofNat (shN 152))) := by kernel_rfl
theorem r153 : Runs 153 := ⟨r152, sh_152⟩
theorem sh_153 : dRes Tryd.prog noS0 2000 91 [.int .u32 (Int.ofNat 153)] H0 = some (.int .u32 (Int.ofNat (shN 153))) := by kernel_rfl
theorem r154 : Runs 154 := ⟨r153, sh_153⟩
theorem sh_154 : dRes Tryd.prog noS0 2000 91 [.int .u32 (Int.ofNat 154)] H0 = some (.int .u32 (Int.ofNat (shN 154))) := by kernel_rfl
theorem r155 : Runs 155 := ⟨r154, sh_154⟩
theorem sh_155 : dRes Tryd.prog noS0 2000 91 [.int .u32 (Int.ofNat 155)] H0 = some (.int .u32 (Int.ofNat (shN 155))) := by kernel_rfl
theorem r156 : Runs 156 := ⟨r155, sh_155⟩
theorem sh_156 : dRes Tryd.prog noS0 2000 91 [.int .u32 (Int.ofNat 156)] H0 = some (.int .u32 (Int.ofNat (shN 156))) := by kernel_rfl
theorem r157 : Runs 157 := ⟨r156, sh_156⟩
theorem sh_157 : dRes Tryd.prog noS0 2000 91 [.int .u32 (Int.ofNat 157)] H0 = some (.int .u32 (Int.ofNat (shN 157))) := by kernel_rfl
theorem r158 : Runs 158 := ⟨r157, sh_157⟩
theorem sh_158 : dRes Tryd.prog noS0 2000 91 [.int .u32 (Int.ofNat 158)] H0 = some (.int .u32 (Int.ofNat (shN 158))) := by kernel_rfl
theorem r159 : Runs 159 := ⟨r158, sh_158⟩
theorem sh_159 : dRes Tryd.prog noS0 2000 91 [.int .u32 (Int.ofNat 159)] H0 = some (.int .u32 (Int.ofNat (shN 159))) := by kernel_rfl
theorem r160 : Runs 160 := ⟨r159, sh_159⟩
theorem sh_160 : dRes Tryd.prog noS0 2000 91 [.int .u32 (Int.ofNat 160)] H0 = some (.int .u32 (Int.ofNat (shN 160))) := by kernel_rfl
theorem r161 : Runs 161 := ⟨r160, sh_160⟩
theorem sh_161 : dRes Tryd.prog noS0 2000 91 [.int .u32 (Int.ofNat 161)] H0 = some (.int .u32 (Int.ofNat (shN 161))) := by kernel_rfl
theorem r162 : Runs 162 := ⟨r161, sh_161⟩
theorem sh_162 : dRes Tryd.prog noS0 2000 91 [.int .u32 (Int.ofNat 162)] H0 = some (.int .u32 (Int.ofNat (shN 162))) := by kernel_rfl
theorem r163 : Runs 163 := ⟨r162, sh_162⟩
theorem sh_163 : dRes Tryd.prog noS0 2000 91 [.int .u32 (Int.ofNat 163)] H0 = some (.int .u32 (Int.ofNat (shN 163))) := by kernel_rfl
theorem r164 : Runs 164 := ⟨r163, sh_163⟩
theorem sh_164 : dRes Tryd.prog noS0 2000 91 [.int .u32 (Int.ofNat 164)] H0 = some (.int .u32 (Int.ofNat (shN 164))) := by kernel_rfl
theorem r165 : Runs 165 := ⟨r164, sh_164⟩
theorem sh_165 : dRes Tryd.prog noS0 2000 91 [.int .u32 (Int.ofNat 165)] H0 = some (.int .u32 (Int.ofNat (shN 165))) := by kernel_rfl
theorem r166 : Runs 166 := ⟨r165, sh_165⟩
theorem sh_166 : dRes Tryd.prog noS0 2000 91 [.int .u32 (Int.ofNat 166)] H0 = some (.int .u32 (Int.ofNat (shN 166))) := by kernel_rfl
theorem r167 : Runs 167 := ⟨r166, sh_166⟩
theorem sh_167 : dRes Tryd.prog noS0 2000 91 [.int .u32 (Int.ofNat 167)] H0 = some (.int .u32 (Int.ofNat (shN 167))) := by kernel_rfl
theorem r168 : Runs 168 := ⟨r167, sh_167⟩
theorem sh_168 : dRes Tryd.prog noS0 2000 91 [.int .u32 (Int.ofNat 168)] H0 = some (.int .u32 (Int.ofNat (shN 168))) := by kernel_rfl
theorem r169 : Runs 169 := ⟨r168, sh_168⟩
theorem sh_169 : dRes Tryd.prog noS0 2000 91 [.int .u32 (Int.ofNat 169)] H0 = some (.int .u32 (Int.ofNat (shN 169))) := by kernel_rfl
theorem r170 : Runs 170 := ⟨r169, sh_169⟩
theorem sh_170 : dRes Tryd.prog noS0 2000 91 [.int .u32 (Int.ofNat 170)] H0 = some (.int .u32 (Int.ofNat (shN 170))) := by kernel_rfl
theorem r171 : Runs 171 := ⟨r170, sh_170⟩
theorem sh_171 : dRes Tryd.prog noS0 2000 91 [.int .u32 (Int.ofNat 171)] H0 = some (.int .u32 (Int.ofNat (shN 171))) := by kernel_rfl
theorem r172 : Runs 172 := ⟨r171, sh_171⟩
theorem sh_172 : dRes Tryd.prog noS0 2000 91 [.int .u32 (Int.ofNat 172)] H0 = some (.int .u32 (Int.ofNat (shN 172))) := by kernel_rfl
theorem r173 : Runs 173 := ⟨r172, sh_172⟩
theorem sh_173 : dRes Tryd.prog noS0 2000 91 [.int .u32 (Int.ofNat 173)] H0 = some (.int .u32 (Int.ofNat (shN 173))) := by kernel_rfl
theorem r174 : Runs 174 := ⟨r173, sh_173⟩
theorem sh_174 : dRes Tryd.prog noS0 2000 91 [.int .u32 (Int.ofNat 174)] H0 = some (.int .u32 (Int.ofNat (shN 174))) := by kernel_rfl
theorem r175 : Runs 175 := ⟨r174, sh_174⟩
theorem sh_175 : dRes Tryd.prog noS0 2000 91 [.int .u32 (Int.ofNat 175)] H0 = some (.int .u32 (Int.ofNat (shN 175))) := by kernel_rfl
theorem r176 : Runs 176 := ⟨r175, sh_175⟩
theorem sh_176 : dRes Tryd.prog noS0 2000 91 [.int .u32 (Int.ofNat 176)] H0 = some (.int .u32 (Int.ofNat (shN 176))) := by kernel_rfl
theorem r177 : Runs 177 := ⟨r176, sh_176⟩
theorem sh_177 : dRes Tryd.prog noS0 2000 91 [.int .u32 (Int.ofNat 177)] H0 = some (.int .u32 (Int.ofNat (shN 177))) := by kernel_rfl
theorem r178 : Runs 178 := ⟨r177, sh_177⟩
theorem sh_178 : dRes Tryd.prog noS0 2000 91 [.int .u32 (Int.ofNat 178)] H0 = some (.int .u32 (Int.ofNat (shN 178))) := by kernel_rfl
theorem r179 : Runs 179 := ⟨r178, sh_178⟩
theorem sh_179 : dRes Tryd.prog noS0 2000 91 [.int .u32 (Int.ofNat 179)] H0 = some (.int .u32 (Int.ofNat (shN 179))) := by kernel_rfl
theorem r180 : Runs 180 := ⟨r179, sh_179⟩
theorem sh_180 : dRes Tryd.prog noS0 2000 91 [.int .u32 (Int.ofNat 180)] H0 = some (.int .u32 (Int.ofNat (shN 180))) := by kernel_rfl
theorem r181 : Runs 181 := ⟨r180, sh_180⟩
theorem sh_181 : dRes Tryd.prog noS0 2000 91 [.int .u32 (Int.ofNat 181)] H0 = some (.int .u32 (Int.ofNat (shN 181))) := by kernel_rfl
theorem r182 : Runs 182 := ⟨r181, sh_181⟩
theorem sh_182 : dRes Tryd.prog noS0 2000 91 [.int .u32 (Int.ofNat 182)] H0 = some (.int .u32 (Int.ofNat (shN 182))) := by kernel_rfl
theorem r183 : Runs 183 := ⟨r182, sh_182⟩
theorem sh_183 : dRes Tryd.prog noS0 2000 91 [.int .u32 (Int.ofNat 183)] H0 = some (.int .u32 (Int.ofNat (shN 183))) := by kernel_rfl
theorem r184 : Runs 184 := ⟨r183, sh_183⟩
theorem sh_184 : dRes Tryd.prog noS0 2000 91 [.int .u32 (Int.ofNat 184)] H0 = some (.int .u32 (Int.ofNat (shN 184))) := by kernel_rfl
theorem r185 : Runs 185 := ⟨r184, sh_184⟩
theorem sh_185 : dRes Tryd.prog noS0 2000 91 [.int .u32 (Int.ofNat 185)] H0 = some (.int .u32 (Int.ofNat (shN 185))) := by kernel_rfl
theorem r186 : Runs 186 := ⟨r185, sh_185⟩
theorem sh_186 : dRes Tryd.prog noS0 2000 91 [.int .u32 (Int.ofNat 186)] H0 = some (.int .u32 (Int.ofNat (shN 186))) := by kernel_rfl
theorem r187 : Runs 187 := ⟨r186, sh_186⟩
theorem sh_187 : dRes Tryd.prog noS0 2000 91 [.int .u32 (Int.ofNat 187)] H0 = some (.int .u32 (Int.ofNat (shN 187))) := by kernel_rfl
theorem r188 : Runs 188 := ⟨r187, sh_187⟩
theorem sh_188 : dRes Tryd.prog noS0 2000 91 [.int .u32 (Int.ofNat 188)] H0 = some (.int .u32 (Int.ofNat (shN 188))) := by kernel_rfl
theorem r189 : Runs 189 := ⟨r188, sh_188⟩
theorem sh_189 : dRes Tryd.prog noS0 2000 91 [.int .u32 (Int.ofNat 189)] H0 = some (.int .u32 (Int.ofNat (shN 189))) := by kernel_rfl
theorem r190 : Runs 190 := ⟨r189, sh_189⟩
theorem sh_190 : dRes Tryd.prog noS0 2000 91 [.int .u32 (Int.ofNat 190)] H0 = some (.int .u32 (Int.ofNat (shN 190))) := by kernel_rfl
theorem r191 : Runs 191 := ⟨r190, sh_190⟩
theorem sh_191 : dRes Tryd.prog noS0 2000 91 [.int .u32 (Int.ofNat 191)] H0 = some (.int .u32 (Int.ofNat (shN 191))) := by kernel_rfl
theorem r192 : Runs 192 := ⟨r191, sh_191⟩
theorem sh_192 : dRes Tryd.prog noS0 2000 91 [.int .u32 (Int.ofNat 192)] H0 = some (.int .u32 (Int.ofNat (shN 192))) := by kernel_rfl
theorem r193 : Runs 193 := ⟨r192, sh_192⟩
theorem sh_193 : dRes Tryd.prog noS0 2000 91 [.int .u32 (Int.ofNat 193)] H0 = some (.int .u32 (Int.ofNat (shN 193))) := by kernel_rfl
theorem r194 : Runs 194 := ⟨r193, sh_193⟩
theorem sh_194 : dRes Tryd.prog noS0 2000 91 [.int .u32 (Int.ofNat 194)] H0 = some (.int .u32 (Int.ofNat (shN 194))) := by kernel_rfl
theorem r195 : Runs 195 := ⟨r194, sh_194⟩
theorem sh_195 : dRes Tryd.prog noS0 2000 91 [.int .u32 (Int.ofNat 195)] H0 = some (.int .u32 (Int.ofNat (shN 195))) := by kernel_rfl
theorem r196 : Runs 196 := ⟨r195, sh_195⟩
theorem sh_196 : dRes Tryd.prog noS0 2000 91 [.int .u32 (Int.ofNat 196)] H0 = some (.int .u32 (Int.ofNat (shN 196))) := by kernel_rfl
theorem r197 : Runs 197 := ⟨r196, sh_196⟩
theorem sh_197 : dRes Tryd.prog noS0 2000 91 [.int .u32 (Int.ofNat 197)] H0 = some (.int .u32 (Int.ofNat (shN 197))) := by kernel_rfl
theorem r198 : Runs 198 := ⟨r197, sh_197⟩
theorem sh_198 : dRes Tryd.prog noS0 2000 91 [.int .u32 (Int.ofNat 198)] H0 = some (.int .u32 (Int.ofNat (shN 198))) := by kernel_rfl
theorem r199 : Runs 199 := ⟨r198, sh_198⟩
theorem sh_199 : dRes Tryd.prog noS0 2000 91 [.int .u32 (Int.ofNat 199)] H0 = some (.int .u32 (Int.ofNat (shN 199))) := by kernel_rfl
theorem r200 : Runs 200 := ⟨r199, sh_199⟩
theorem sh_200 : dRes Tryd.prog noS0 2000 91 [.int .u32 (Int.ofNat 200)] H0 = some (.int .u32 (Int.ofNat (shN 200))) := by kernel_rfl
theorem r201 : Runs 201 := ⟨r200, sh_200⟩
theorem sh_201 : dRes Tryd.prog noS0 2000 91 [.int .u32 (Int.ofNat 201)] H0 = some (.int .u32 (Int.ofNat (shN 201))) := by kernel_rfl
theorem r202 : Runs 202 := ⟨r201, sh_201⟩
theorem sh_202 : dRes Tryd.prog noS0 2000 91 [.int .u32 (Int.ofNat 202)] H0 = some (.int .u32 (Int.ofNat (shN 202))) := by kernel_rfl
theorem r203 : Runs 203 := ⟨r202, sh_202⟩
theorem sh_203 : dRes Tryd.prog noS0 2000 91 [.int .u32 (Int.ofNat 203)] H0 = some (.int .u32 (Int.ofNat (shN 203))) := by kernel_rfl
theorem r204 : Runs 204 := ⟨r203, sh_203⟩
theorem sh_204 : dRes Tryd.prog noS0 2000 91 [.int .u32 (Int.ofNat 204)] H0 = some (.int .u32 (Int.ofNat (shN 204))) := by kernel_rfl
theorem r205 : Runs 205 := ⟨r204, sh_204⟩
theorem sh_205 : dRes Tryd.prog noS0 2000 91 [.int .u32 (Int.ofNat 205)] H0 = some (.int .u32 (Int.ofNat (shN 205))) := by kernel_rfl
theorem r206 : Runs 206 := ⟨r205, sh_205⟩
theorem sh_206 : dRes Tryd.prog noS0 2000 91 [.int .u32 (Int.ofNat 206)] H0 = some (.int .u32 (Int.ofNat (shN 206))) := by kernel_rfl
theorem r207 : Runs 207 := ⟨r206, sh_206⟩
theorem sh_207 : dRes Tryd.prog noS0 2000 91 [.int .u32 (Int.ofNat 207)] H0 = some (.int .u32 (Int.ofNat (shN 207))) := by kernel_rfl
theorem r208 : Runs 208 := ⟨r207, sh_207⟩
theorem sh_208 : dRes Tryd.prog noS0 2000 91 [.int .u32 (Int.ofNat 208)] H0 = some (.int .u32 (Int.ofNat (shN 208))) := by kernel_rfl
theorem r209 : Runs 209 := ⟨r208, sh_208⟩
theorem sh_209 : dRes Tryd.prog noS0 2000 91 [.int .u32 (Int.ofNat 209)] H0 = some (.int .u32 (Int.ofNat (shN 209))) := by kernel_rfl
theorem r210 : Runs 210 := ⟨r209, sh_209⟩
theorem sh_210 : dRes Tryd.prog noS0 2000 91 [.int .u32 (Int.ofNat 210)] H0 = some (.int .u32 (Int.ofNat (shN 210))) := by kernel_rfl
theorem r211 : Runs 211 := ⟨r210, sh_210⟩
theorem sh_211 : dRes Tryd.prog noS0 2000 91 [.int .u32 (Int.ofNat 211)] H0 = some (.int .u32 (Int.ofNat (shN 211))) := by kernel_rfl
theorem r212 : Runs 212 := ⟨r211, sh_211⟩
theorem sh_212 : dRes Tryd.prog noS0 2000 91 [.int .u32 (Int.ofNat 212)] H0 = some (.int .u32 (Int.ofNat (shN 212))) := by kernel_rfl
theorem r213 : Runs 213 := ⟨r212, sh_212⟩
theorem sh_213 : dRes Tryd.prog noS0 2000 91 [.int .u32 (Int.ofNat 213)] H0 = some (.int .u32 (Int.ofNat (shN 213))) := by kernel_rfl
theorem r214 : Runs 214 := ⟨r213, sh_213⟩
theorem sh_214 : dRes Tryd.prog noS0 2000 91 [.int .u32 (Int.ofNat 214)] H0 = some (.int .u32 (Int.ofNat (shN 214))) := by kernel_rfl
theorem r215 : Runs 215 := ⟨r214, sh_214⟩
theorem sh_215 : dRes Tryd.prog noS0 2000 91 [.int .u32 (Int.ofNat 215)] H0 = some (.int .u32 (Int.ofNat (shN 215))) := by kernel_rfl
theorem r216 : Runs 216 := ⟨r215, sh_215⟩
theorem sh_216 : dRes Tryd.prog noS0 2000 91 [.int .u32 (Int.ofNat 216)] H0 = some (.int .u32 (Int.ofNat (shN 216))) := by kernel_rfl
theorem r217 : Runs 217 := ⟨r216, sh_216⟩
theorem sh_217 : dRes Tryd.prog noS0 2000 91 [.int .u32 (Int.ofNat 217)] H0 = some (.int .u32 (Int.ofNat (shN 217))) := by kernel_rfl
theorem r218 : Runs 218 := ⟨r217, sh_217⟩
theorem sh_218 : dRes Tryd.prog noS0 2000 91 [.int .u32 (Int.ofNat 218)] H0 = some (.int .u32 (Int.ofNat (shN 218))) := by kernel_rfl
theorem r219 : Runs 219 := ⟨r218, sh_218⟩
theorem sh_219 : dRes Tryd.prog noS0 2000 91 [.int .u32 (Int.ofNat 219)] H0 = some (.int .u32 (Int.ofNat (shN 219))) := by kernel_rfl
theorem r220 : Runs 220 := ⟨r219, sh_219⟩
theorem sh_220 : dRes Tryd.prog noS0 2000 91 [.int .u32 (Int.ofNat 220)] H0 = some (.int .u32 (Int.ofNat (shN 220))) := by kernel_rfl
theorem r221 : Runs 221 := ⟨r220, sh_220⟩
theorem sh_221 : dRes Tryd.prog noS0 2000 91 [.int .u32 (Int.ofNat 221)] H0 = some (.int .u32 (Int.ofNat (shN 221))) := by kernel_rfl
theorem r222 : Runs 222 := ⟨r221, sh_221⟩
theorem sh_222 : dRes Tryd.prog noS0 2000 91 [.int .u32 (Int.ofNat 222)] H0 = some (.int .u32 (Int.ofNat (shN 222))) := by kernel_rfl
theorem r223 : Runs 223 := ⟨r222, sh_222⟩
theorem sh_223 : dRes Tryd.prog noS0 2000 91 [.int .u32 (Int.ofNat 223)] H0 = some (.int .u32 (Int.ofNat (shN 223))) := by kernel_rfl
theorem r224 : Runs 224 := ⟨r223, sh_223⟩
theorem sh_224 : dRes Tryd.prog noS0 2000 91 [.int .u32 (Int.ofNat 224)] H0 = some (.int .u32 (Int.ofNat (shN 224))) := by kernel_rfl
theorem r225 : Runs 225 := ⟨r224, sh_224⟩
theorem sh_225 : dRes Tryd.prog noS0 2000 91 [.int .u32 (Int.ofNat 225)] H0 = some (.int .u32 (Int.ofNat (shN 225))) := by kernel_rfl
theorem r226 : Runs 226 := ⟨r225, sh_225⟩
theorem sh_226 : dRes Tryd.prog noS0 2000 91 [.int .u32 (Int.ofNat 226)] H0 = some (.int .u32 (Int.ofNat (shN 226))) := by kernel_rfl
theorem r227 : Runs 227 := ⟨r226, sh_226⟩
theorem sh_227 : dRes Tryd.prog noS0 2000 91 [.int .u32 (Int.ofNat 227)] H0 = some (.int .u32 (Int.ofNat (shN 227))) := by kernel_rfl
theorem r228 : Runs 228 := ⟨r227, sh_227⟩
theorem sh_228 : dRes Tryd.prog noS0 2000 91 [.int .u32 (Int.ofNat 228)] H0 = some (.int .u32 (Int.ofNat (shN 228))) := by kernel_rfl
theorem r229 : Runs 229 := ⟨r228, sh_228⟩
theorem sh_229 : dRes Tryd.prog noS0 2000 91 [.int .u32 (Int.ofNat 229)] H0 = some (.int .u32 (Int.ofNat (shN 229))) := by kernel_rfl
theorem r230 : Runs 230 := ⟨r229, sh_229⟩
theorem sh_230 : dRes Tryd.prog noS0 2000 91 [.int .u32 (Int.ofNat 230)] H0 = some (.int .u32 (Int.ofNat (shN 230))) := by kernel_rfl
theorem r231 : Runs 231 := ⟨r230, sh_230⟩
theorem sh_231 : dRes Tryd.prog noS0 2000 91 [.int .u32 (Int.ofNat 231)] H0 = some (.int .u32 (Int.ofNat (shN 231))) := by kernel_rfl
theorem r232 : Runs 232 := ⟨r231, sh_231⟩
theorem sh_232 : dRes Tryd.prog noS0 2000 91 [.int .u32 (Int.ofNat 232)] H0 = some (.int .u32 (Int.ofNat (shN 232))) := by kernel_rfl
theorem r233 : Runs 233 := ⟨r232, sh_232⟩
theorem sh_233 : dRes Tryd.prog noS0 2000 91 [.int .u32 (Int.ofNat 233)] H0 = some (.int .u32 (Int.ofNat (shN 233))) := by kernel_rfl
theorem r234 : Runs 234 := ⟨r233, sh_233⟩
theorem sh_234 : dRes Tryd.prog noS0 2000 91 [.int .u32 (Int.ofNat 234)] H0 = some (.int .u32 (Int.ofNat (shN 234))) := by kernel_rfl
theorem r235 : Runs 235 := ⟨r234, sh_234⟩
theorem sh_235 : dRes Tryd.prog noS0 2000 91 [.int .u32 (Int.ofNat 235)] H0 = some (.int .u32 (Int.ofNat (shN 235))) := by kernel_rfl
theorem r236 : Runs 236 := ⟨r235, sh_235⟩
theorem sh_236 : dRes Tryd.prog noS0 2000 91 [.int .u32 (Int.ofNat 236)] H0 = some (.int .u32 (Int.ofNat (shN 236))) := by kernel_rfl
theorem r237 : Runs 237 := ⟨r236, sh_236⟩
theorem sh_237 : dRes Tryd.prog noS0 2000 91 [.int .u32 (Int.ofNat 237)] H0 = some (.int .u32 (Int.ofNat (shN 237))) := by kernel_rfl
theorem r238 : Runs 238 := ⟨r237, sh_237⟩
theorem sh_238 : dRes Tryd.prog noS0 2000 91 [.int .u32 (Int.ofNat 238)] H0 = some (.int .u32 (Int.ofNat (shN 238))) := by kernel_rfl
theorem r239 : Runs 239 := ⟨r238, sh_238⟩
theorem sh_239 : dRes Tryd.prog noS0 2000 91 [.int .u32 (Int.ofNat 239)] H0 = some (.int .u32 (Int.ofNat (shN 239))) := by kernel_rfl
theorem r240 : Runs 240 := ⟨r239, sh_239⟩
theorem sh_240 : dRes Tryd.prog noS0 2000 91 [.int .u32 (Int.ofNat 240)] H0 = some (.int .u32 (Int.ofNat (shN 240))) := by kernel_rfl
theorem r241 : Runs 241 := ⟨r240, sh_240⟩
theorem sh_241 : dRes Tryd.prog noS0 2000 91 [.int .u32 (Int.ofNat 241)] H0 = some (.int .u32 (Int.ofNat (shN 241))) := by kernel_rfl
theorem r242 : Runs 242 := ⟨r241, sh_241⟩
theorem sh_242 : dRes Tryd.prog noS0 2000 91 [.int .u32 (Int.ofNat 242)] H0 = some (.int .u32 (Int.ofNat (shN 242))) := by kernel_rfl
theorem r243 : Runs 243 := ⟨r242, sh_242⟩
theorem sh_243 : dRes Tryd.prog noS0 2000 91 [.int .u32 (Int.ofNat 243)] H0 = some (.int .u32 (Int.ofNat (shN 243))) := by kernel_rfl
theorem r244 : Runs 244 := ⟨r243, sh_243⟩
theorem sh_244 : dRes Tryd.prog noS0 2000 91 [.int .u32 (Int.ofNat 244)] H0 = some (.int .u32 (Int.ofNat (shN 244))) := by kernel_rfl
theorem r245 : Runs 245 := ⟨r244, sh_244⟩
theorem sh_245 : dRes Tryd.prog noS0 2000 91 [.int .u32 (Int.ofNat 245)] H0 = some (.int .u32 (Int.ofNat (shN 245))) := by kernel_rfl
theorem r246 : Runs 246 := ⟨r245, sh_245⟩
theorem sh_246 : dRes Tryd.prog noS0 2000 91 [.int .u32 (Int.ofNat 246)] H0 = some (.int .u32 (Int.ofNat (shN 246))) := by kernel_rfl
theorem r247 : Runs 247 := ⟨r246, sh_246⟩
theorem sh_247 : dRes Tryd.prog noS0 2000 91 [.int .u32 (Int.ofNat 247)] H0 = some (.int .u32 (Int.ofNat (shN 247))) := by kernel_rfl
theorem r248 : Runs 248 := ⟨r247, sh_247⟩
theorem sh_248 : dRes Tryd.prog noS0 2000 91 [.int .u32 (Int.ofNat 248)] H0 = some (.int .u32 (Int.ofNat (shN 248))) := by kernel_rfl
theorem r249 : Runs 249 := ⟨r248, sh_248⟩
theorem sh_249 : dRes Tryd.prog noS0 2000 91 [.int .u32 (Int.ofNat 249)] H0 = some (.int .u32 (Int.ofNat (shN 249))) := by kernel_rfl
theorem r250 : Runs 250 := ⟨r249, sh_249⟩
theorem sh_250 : dRes Tryd.prog noS0 2000 91 [.int .u32 (Int.ofNat 250)] H0 = some (.int .u32 (Int.ofNat (shN 250))) := by kernel_rfl
theorem r251 : Runs 251 := ⟨r250, sh_250⟩
theorem sh_251 : dRes Tryd.prog noS0 2000 91 [.int .u32 (Int.ofNat 251)] H0 = some (.int .u32 (Int.ofNat (shN 251))) := by kernel_rfl
theorem r252 : Runs 252 := ⟨r251, sh_251⟩
theorem sh_252 : dRes Tryd.prog noS0 2000 91 [.int .u32 (Int.ofNat 252)] H0 = some (.int .u32 (Int.ofNat (shN 252))) := by kernel_rfl
theorem r253 : Runs 253 := ⟨r252, sh_252⟩
theorem sh_253 : dRes Tryd.prog noS0 2000 91 [.int .u32 (Int.ofNat 253)] H0 = some (.int .u32 (Int.ofNat (shN 253))) := by kernel_rfl
theorem r254 : Runs 254 := ⟨r253, sh_253⟩
theorem sh_254 : dRes Tryd.prog noS0 2000 91 [.int .u32 (Int.ofNat 254)] H0 = some (.int .u32 (Int.ofNat (shN 254))) := by kernel_rfl
theorem r255 : Runs 255 := ⟨r254, sh_254⟩
theorem sh_255 : dRes Tryd.prog noS0 2000 91 [.int .u32 (Int.ofNat 255)] H0 = some (.int .u32 (Int.ofNat (shN 255))) := by kernel_rfl
theorem r256 : Runs 256 := ⟨r255, sh_255⟩
theorem Runs.of : ∀ {m : Nat}, Runs m → ∀ {n}, n < m → dRes Tryd.prog noS0 2000 91 [.int .u32 (Int.ofNat n)] H0 = some (.int .u32 (Int.ofNat (shN n)))
  | m + 1, h, n, hn => by
    rcases Nat.lt_or_eq_of_le (Nat.le_of_lt_succ hn) with h1 | h1
    · exact Runs.of h.1 h1
    · rw [h1]; exact h.2
theorem shifted_ok {B n : Nat} {H : Heap} (hn : n < 256) : WF Tryd.prog B 91 [.int .u32 (Int.ofNat n)] H (fun v H' => v = .int .u32 (Int.ofNat (shN n)) ∧ H' = H) :=
  (WF.of_dRes (Runs.of r256 hn) mixed noS0_ok).pure rfl fun v H' h => ⟨h, by rw [h]; rfl⟩
def S1 : SumP := fun f args _ => match f, args with
  | 91, [.int .u32 (.ofNat n)] => bif Nat.blt n 256 then some (.val (.int .u32 (Int.ofNat (shN n)))) else none
  | _, _ => none
theorem S1_ok {B : Nat} : SumPOk Tryd.prog B S1 := by
  intro f args H s h
  unfold S1 at h
  split at h
  · next n =>
    cases hn : Nat.blt n 256 with
    | false => rw [hn] at h; cases h
    | true => rw [hn] at h; cases h; exact shifted_ok (Nat.le_of_ble_eq_true hn)
  · cases h
end
end Go.Proofs.YtkcflepmingghaaDoor.CkptNil
