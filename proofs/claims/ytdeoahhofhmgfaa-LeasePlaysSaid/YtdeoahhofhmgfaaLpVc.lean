/- A part of the proof that 'reevelaw26.LeasePlays' returns true for every input. No condition. -/
import Derived.Test.YtdeoahhofhmgfaaAmJ
import Derived.KernelRfl
import Derived.Test.YtdeoahhofhmgfaaUrSum
namespace Go.Proofs.Ytdeoahhofhmgfaa.LeasePlays.Main
open Go.AM
noncomputable section
def L3 (length bound bR bN n : Int) (steps : List Stp) (inv : M1 → Prop) : LTab := fun f k fr _ => match f, k with
  | 10, 10 => some (LM length bound bR bN n steps inv fr)
  | _, _ => none
def w0 (steps : List Stp) : Int := (↑steps.length : Int)
def w1 (steps : List Stp) : Bool := decide ((300 : Int) < w0 steps)
def w2 (length : Int) : Bool := decide (length < (1 : Int))
def w3 (length : Int) : Bool := decide ((4294967296 : Int) < length)
def w4 (length : Int) (now : Int) : Bool := w2 length || (w3 length || !(decide ((0 : Int) ≤ now) && decide (now ≤ (17592186044416 : Int))))
def w5 (bR : Int) (bN : Int) : Bool := decide ((0 : Int) ≤ bN) && (decide (bN < (7 : Int)) && decide (bR ≤ (281474976710656 : Int))) && !(decide (bR = (0 : Int)) && decide (bN = (0 : Int)))
def w6 (bR : Int) (bN : Int) : Bool := !w5 bR bN
def w7 (n : Int) : Bool := decide (n < (1 : Int))
def w8 (n : Int) : Bool := decide ((7 : Int) < n)
def w9 (bound : Int) : Bool := decide (bound < (0 : Int))
def w10 (length : Int) (bound : Int) (bR : Int) (bN : Int) (n : Int) : Bool := w6 bR bN || (w7 n || (w8 n || (w2 length || (w3 length || (w9 bound || decide ((4294967296 : Int) < bound))))))
def w11 (steps : List Stp) (s : M1) : Bool := decide (s.i < w0 steps)
def w12 (length : Int) (bound : Int) (bR : Int) (bN : Int) (n : Int) : Bool := !w10 length bound bR bN n
def w13 (length : Int) (bound : Int) (bR : Int) (bN : Int) (n : Int) : Bool := w6 bR bN || bif w7 n then w7 n else bif w8 n then w7 n else bif w2 length then w7 n else bif w3 length then w7 n else bif w9 bound then w7 n else w7 n
def w14 (length : Int) (bound : Int) (bR : Int) (bN : Int) (n : Int) : Bool := w6 bR bN || (w7 n || (w8 n || (w2 length || (w3 length || bif w9 bound then w9 bound else w9 bound))))
def w15 (length : Int) (bound : Int) (bR : Int) (bN : Int) (n : Int) : Bool := w6 bR bN || (w7 n || (w8 n || bif w2 length then w2 length else bif w3 length then w2 length else bif w9 bound then w2 length else w2 length))
def w16 (length : Int) (bound : Int) (bR : Int) (bN : Int) (n : Int) : Bool := bif w6 bR bN then w6 bR bN else bif w7 n then w6 bR bN else bif w8 n then w6 bR bN else bif w2 length then w6 bR bN else bif w3 length then w6 bR bN else bif w9 bound then w6 bR bN else w6 bR bN
def w17 (length : Int) (bound : Int) (bR : Int) (bN : Int) (n : Int) : Bool := w6 bR bN || (w7 n || bif w8 n then w8 n else bif w2 length then w8 n else bif w3 length then w8 n else bif w9 bound then w8 n else w8 n)
def w18 (length : Int) (bound : Int) (bR : Int) (bN : Int) (n : Int) : Bool := w6 bR bN || (w7 n || (w8 n || (w2 length || bif w3 length then w3 length else bif w9 bound then w3 length else w3 length)))
def w19 (length : Int) (bound : Int) (bR : Int) (bN : Int) (n : Int) : Int := bif w6 bR bN then bR else bif w7 n then bR else bif w8 n then bR else bif w2 length then bR else bif w3 length then bR else bif w9 bound then bR else bR
def w20 (length : Int) (bound : Int) (bR : Int) (bN : Int) (n : Int) : Int := bif w6 bR bN then bN else bif w7 n then bN else bif w8 n then bN else bif w2 length then bN else bif w3 length then bN else bif w9 bound then bN else bN
def w21 (bR : Int) (bN : Int) (n : Int) : Bool := w6 bR bN || w7 n
def w22 (length : Int) (bound : Int) (bR : Int) (bN : Int) (n : Int) : Bool := w6 bR bN || (w7 n || (w8 n || (w2 length || (w3 length || w9 bound))))
def w23 (length : Int) (bR : Int) (bN : Int) (n : Int) : Bool := w6 bR bN || (w7 n || (w8 n || w2 length))
def w24 (bR : Int) (bN : Int) (n : Int) : Bool := w6 bR bN || (w7 n || w8 n)
def w25 (length : Int) (bR : Int) (bN : Int) (n : Int) : Bool := w6 bR bN || (w7 n || (w8 n || (w2 length || w3 length)))
def w26 (length : Int) (bound : Int) (bR : Int) (bN : Int) (n : Int) : Bool := bif w6 bR bN then w5 bR bN else bif w7 n then w5 bR bN else bif w8 n then w5 bR bN else bif w2 length then w5 bR bN else bif w3 length then w5 bR bN else bif w9 bound then w5 bR bN else w5 bR bN
def w27 (n : Int) : List Bool := List.replicate n.toNat false
def w28 (n : Int) : List Int := List.replicate n.toNat (0 : Int)
def w29 : List (Int × Int) := []
def w30 (n : Int) : List Bool := (w27 n)
def w31 (n : Int) : List Int := (w28 n)
def w32 (steps : List Stp) (s1 : M1) : Bool := decide (s1.i < w0 steps)
def w33 (steps : List Stp) (s1 : M1) : Bool := decide ((rowT steps s1.i.toNat).snd.fst < (0 : Int))
def w34 (n : Int) (steps : List Stp) (s1 : M1) : Bool := decide (n ≤ (rowT steps s1.i.toNat).snd.fst)
def w35 (steps : List Stp) (s1 : M1) : Bool := !(decide ((0 : Int) ≤ (rowT steps s1.i.toNat).snd.snd.snd.fst) && (decide ((rowT steps s1.i.toNat).snd.snd.snd.fst < (7 : Int)) && decide ((rowT steps s1.i.toNat).snd.snd.fst ≤ (281474976710656 : Int))))
def w36 (steps : List Stp) (s1 : M1) : Bool := !(decide ((0 : Int) ≤ (rowT steps s1.i.toNat).snd.snd.snd.snd) && decide ((rowT steps s1.i.toNat).snd.snd.snd.snd ≤ (17592186044416 : Int)))
def w37 (n : Int) (steps : List Stp) (s1 : M1) : Bool := !(w33 steps s1 || (w34 n steps s1 || (w35 steps s1 || w36 steps s1)))
def w38 (bR : Int) (bN : Int) (steps : List Stp) (s1 : M1) : Bool := decide ((rowT steps s1.i.toNat).snd.snd.fst = bR) && decide ((rowT steps s1.i.toNat).snd.snd.snd.fst = bN)
def w39 (steps : List Stp) (s1 : M1) : Nat := Int.toNat (rowT steps s1.i.toNat).snd.fst
def w40 (steps : List Stp) (s1 : M1) : Bool := !rowB s1.has (w39 steps s1)
def w41 (steps : List Stp) (s1 : M1) : Bool := w40 steps s1 || decide (rowI s1.tk (w39 steps s1) < (rowT steps s1.i.toNat).snd.snd.snd.snd)
def w42 (n : Int) (steps : List Stp) (s1 : M1) : Bool := !bif w33 steps s1 then w33 steps s1 else bif w34 n steps s1 then w34 n steps s1 else bif w35 steps s1 then w35 steps s1 else w36 steps s1
def w43 (n : Int) (steps : List Stp) (s1 : M1) : Bool := decide ((bif w42 n steps s1 then (0 : Int) else (2 : Int)) ≠ bif w37 n steps s1 then (0 : Int) else (2 : Int))
def w44 (n : Int) (steps : List Stp) (s1 : M1) : Bool := !w43 n steps s1
def w45 (s1 : M1) : List (Int × Int) := s1.m
def w46 (bR : Int) (bN : Int) (n : Int) (steps : List Stp) (s1 : M1) : List (Int × Int) := bif w42 n steps s1 then bif w38 bR bN steps s1 then mput s1.m (rowT steps s1.i.toNat).snd.fst (max ((mget s1.m (rowT steps s1.i.toNat).snd.fst).getD (0 : Int)) (rowT steps s1.i.toNat).snd.snd.snd.snd) else w45 s1 else w45 s1
def w47 (s1 : M1) : List Bool := s1.has
def w48 (bR : Int) (bN : Int) (n : Int) (steps : List Stp) (s1 : M1) : List Bool := bif w37 n steps s1 then (bif w38 bR bN steps s1 then (s1.has.set (w39 steps s1) true) else w47 s1) else w47 s1
def w49 (s1 : M1) : List Int := s1.tk
def w50 (bR : Int) (bN : Int) (n : Int) (steps : List Stp) (s1 : M1) : List Int := bif w37 n steps s1 then (bif w38 bR bN steps s1 then (bif w41 steps s1 then (s1.tk.set (w39 steps s1) (rowT steps s1.i.toNat).snd.snd.snd.snd) else w49 s1) else w49 s1) else w49 s1
def w51 (length : Int) (bound : Int) (bR : Int) (bN : Int) (n : Int) (steps : List Stp) (s1 : M1) : Int := untilU (w46 bR bN n steps s1) n length bound
def w52 (bR : Int) (bN : Int) (n : Int) (steps : List Stp) (s1 : M1) : Mp := Ref.mpOf (w48 bR bN n steps s1) (w50 bR bN n steps s1) n
def w53 (length : Int) (bound : Int) (bR : Int) (bN : Int) (n : Int) (steps : List Stp) (s1 : M1) : Int := untilU (w52 bR bN n steps s1) n length bound
def w54 (length : Int) (bound : Int) (bR : Int) (bN : Int) (n : Int) (steps : List Stp) (s1 : M1) : Bool := decide (w51 length bound bR bN n steps s1 ≠ w53 length bound bR bN n steps s1)
def w55 (bR : Int) (bN : Int) (n : Int) (steps : List Stp) (s1 : M1) : Bool := untilB (w46 bR bN n steps s1) n
def w56 (bR : Int) (bN : Int) (n : Int) (steps : List Stp) (s1 : M1) : Bool := untilB (w52 bR bN n steps s1) n
def w57 (bR : Int) (bN : Int) (n : Int) (steps : List Stp) (s1 : M1) : Bool := !w55 bR bN n steps s1 == w56 bR bN n steps s1
def w58 (length : Int) (bound : Int) (bR : Int) (bN : Int) (n : Int) (steps : List Stp) (s1 : M1) : Bool := w55 bR bN n steps s1 && decide ((rowT steps s1.i.toNat).snd.snd.snd.snd < w51 length bound bR bN n steps s1)
def w59 (length : Int) (bound : Int) (bR : Int) (bN : Int) (n : Int) (steps : List Stp) (s1 : M1) : Bool := !w58 length bound bR bN n steps s1 == decide ((rowT steps s1.i.toNat).snd.snd.snd.snd < w53 length bound bR bN n steps s1)
def w60 (length : Int) (bound : Int) (bR : Int) (bN : Int) (n : Int) (steps : List Stp) (s1 : M1) : Bool := !w58 length bound bR bN n steps s1 == false
def w61 (bR : Int) (bN : Int) : Bool := !(decide (bR = bR) && decide (bN = bN))
def w62 (length : Int) (bound : Int) (bR : Int) (bN : Int) (n : Int) (steps : List Stp) (s1 : M1) : Bool := w54 length bound bR bN n steps s1 || (w57 bR bN n steps s1 || bif w56 bR bN n steps s1 then w59 length bound bR bN n steps s1 || w61 bR bN else w60 length bound bR bN n steps s1 || w61 bR bN)
def w63 (length : Int) (bound : Int) (bR : Int) (bN : Int) (n : Int) (steps : List Stp) (s1 : M1) : Int := bif (rowT steps s1.i.toNat).fst then bif w54 length bound bR bN n steps s1 then bR else bif w57 bR bN n steps s1 then bR else bif w56 bR bN n steps s1 then bif w59 length bound bR bN n steps s1 then bR else bR else bif w60 length bound bR bN n steps s1 then bR else bR else bR
def w64 (length : Int) (bound : Int) (bR : Int) (bN : Int) (n : Int) (steps : List Stp) (s1 : M1) : Int := bif (rowT steps s1.i.toNat).fst then bif w54 length bound bR bN n steps s1 then bN else bif w57 bR bN n steps s1 then bN else bif w56 bR bN n steps s1 then bif w59 length bound bR bN n steps s1 then bN else bN else bif w60 length bound bR bN n steps s1 then bN else bN else bN
def w65 (length : Int) (bound : Int) (bR : Int) (bN : Int) (n : Int) (steps : List Stp) (s1 : M1) : Int := bif (rowT steps s1.i.toNat).fst then bif w54 length bound bR bN n steps s1 then n else bif w57 bR bN n steps s1 then n else bif w56 bR bN n steps s1 then bif w59 length bound bR bN n steps s1 then n else n else bif w60 length bound bR bN n steps s1 then n else n else n
def w66 (length : Int) (bound : Int) (bR : Int) (bN : Int) (n : Int) (steps : List Stp) (s1 : M1) : Int := bif (rowT steps s1.i.toNat).fst then bif w54 length bound bR bN n steps s1 then length else bif w57 bR bN n steps s1 then length else bif w56 bR bN n steps s1 then bif w59 length bound bR bN n steps s1 then length else length else bif w60 length bound bR bN n steps s1 then length else length else length
def w67 (length : Int) (bound : Int) (bR : Int) (bN : Int) (n : Int) (steps : List Stp) (s1 : M1) : Int := bif (rowT steps s1.i.toNat).fst then bif w54 length bound bR bN n steps s1 then bound else bif w57 bR bN n steps s1 then bound else bif w56 bR bN n steps s1 then bif w59 length bound bR bN n steps s1 then bound else bound else bif w60 length bound bR bN n steps s1 then bound else bound else bound
def w68 (bR : Int) (bN : Int) (n : Int) (steps : List Stp) (s1 : M1) : List (Int × Int) := (w46 bR bN n steps s1)
def w69 (bR : Int) (bN : Int) (n : Int) (steps : List Stp) (s1 : M1) : List Nat := bif w42 n steps s1 then bif w38 bR bN steps s1 then bput s1.m s1.bs s1.clk (rowT steps s1.i.toNat).snd.fst else s1.bs else s1.bs
def w70 (bR : Int) (bN : Int) (n : Int) (steps : List Stp) (s1 : M1) : Nat := bif w42 n steps s1 then bif w38 bR bN steps s1 then cput s1.m s1.clk (rowT steps s1.i.toNat).snd.fst else s1.clk else s1.clk
def w71 (bR : Int) (bN : Int) (n : Int) (steps : List Stp) (s1 : M1) : List Bool := (w48 bR bN n steps s1)
def w72 (bR : Int) (bN : Int) (n : Int) (steps : List Stp) (s1 : M1) : List Int := (w50 bR bN n steps s1)
def w73 (length : Int) (now : Int) : Bool := !w4 length now
def w74 (length : Int) (now : Int) : Int := IntKind.i64.wrap (now + length)
def w75 (steps : List Stp) (s2 : M1) : Bool := decide (s2.i < w0 steps)
def w76 (steps : List Stp) (s2 : M1) : Bool := !(rowT steps s2.i.toNat).fst
def w77 (steps : List Stp) (s2 : M1) : Bool := !(decide ((0 : Int) ≤ (rowT steps s2.i.toNat).snd.snd.snd.fst) && (decide ((rowT steps s2.i.toNat).snd.snd.snd.fst < (7 : Int)) && decide ((rowT steps s2.i.toNat).snd.snd.fst ≤ (281474976710656 : Int))) && !(decide ((rowT steps s2.i.toNat).snd.snd.fst = (0 : Int)) && decide ((rowT steps s2.i.toNat).snd.snd.snd.fst = (0 : Int))))
def w78 (steps : List Stp) (s2 : M1) : Bool := !(decide ((0 : Int) ≤ (rowT steps s2.i.toNat).snd.snd.snd.snd) && decide ((rowT steps s2.i.toNat).snd.snd.snd.snd ≤ (17592186044416 : Int)))
def w79 (steps : List Stp) (s2 : M1) : Bool := !bif w77 steps s2 then w77 steps s2 else w78 steps s2
def w80 (steps : List Stp) (s2 : M1) : Bool := decide ((rowT steps s2.i.toNat).snd.snd.fst = s2.gR) && decide ((rowT steps s2.i.toNat).snd.snd.snd.fst = s2.gN)
def w81 (steps : List Stp) (s2 : M1) : Bool := !w80 steps s2
def w82 (steps : List Stp) (s2 : M1) : Bool := w81 steps s2 && !!decide (s2.gU ≤ (rowT steps s2.i.toNat).snd.snd.snd.snd)
def w83 (length : Int) (steps : List Stp) (s2 : M1) : Int := IntKind.i64.wrap ((rowT steps s2.i.toNat).snd.snd.snd.snd + length)
def w84 (steps : List Stp) (s2 : M1) : Bool := !(w77 steps s2 || w78 steps s2)
def w85 (steps : List Stp) (s2 : M1) : Bool := !decide ((rowT steps s2.i.toNat).snd.snd.snd.snd < s2.gU)
def w86 (steps : List Stp) (s2 : M1) : Bool := !(w79 steps s2 && (w82 steps s2 || w80 steps s2)) == (w84 steps s2 && (!w81 steps s2 || w85 steps s2))
def w87 (steps : List Stp) (s2 : M1) : Bool := decide ((bif w79 steps s2 then (0 : Int) else (2 : Int)) ≠ bif w84 steps s2 then (0 : Int) else (2 : Int))
def w88 (length : Int) (steps : List Stp) (s2 : M1) : Int := max s2.gU (w83 length steps s2)
def w89 (length : Int) (steps : List Stp) (s2 : M1) : Int := bif w79 steps s2 then bif w82 steps s2 then w83 length steps s2 else bif w80 steps s2 then w88 length steps s2 else s2.gU else s2.gU
def w90 (length : Int) (steps : List Stp) (s2 : M1) : Bool := !decide (w89 length steps s2 ≤ (rowT steps s2.i.toNat).snd.snd.snd.snd)
def w91 (steps : List Stp) (s2 : M1) : Int := bif w79 steps s2 then bif w82 steps s2 then (rowT steps s2.i.toNat).snd.snd.fst else bif w80 steps s2 then s2.gR else s2.gR else s2.gR
def w92 (length : Int) (steps : List Stp) (s2 : M1) : Int := bif w84 steps s2 then bif w81 steps s2 then bif w85 steps s2 then w83 length steps s2 else s2.gU else w88 length steps s2 else s2.gU
def w93 (length : Int) (steps : List Stp) (s2 : M1) : Bool := !decide (w92 length steps s2 ≤ (rowT steps s2.i.toNat).snd.snd.snd.snd)
def w94 (steps : List Stp) (s2 : M1) : Int := bif w84 steps s2 then bif w81 steps s2 then bif w85 steps s2 then (rowT steps s2.i.toNat).snd.snd.fst else s2.gR else s2.gR else s2.gR
def w95 (steps : List Stp) (s2 : M1) : Int := bif w79 steps s2 then bif w82 steps s2 then (rowT steps s2.i.toNat).snd.snd.snd.fst else bif w80 steps s2 then s2.gN else s2.gN else s2.gN
def w96 (steps : List Stp) (s2 : M1) : Int := bif w84 steps s2 then bif w81 steps s2 then bif w85 steps s2 then (rowT steps s2.i.toNat).snd.snd.snd.fst else s2.gN else s2.gN else s2.gN
def w97 (length : Int) (steps : List Stp) (s2 : M1) : Bool := !(decide ((bif w90 length steps s2 then w91 steps s2 else (0 : Int)) = bif w93 length steps s2 then w94 steps s2 else (0 : Int)) && decide ((bif w90 length steps s2 then w95 steps s2 else (0 : Int)) = bif w93 length steps s2 then w96 steps s2 else (0 : Int)))
def w98 (length : Int) (steps : List Stp) (s2 : M1) : Bool := !w90 length steps s2 == w93 length steps s2
def w99 (length : Int) (steps : List Stp) (s2 : M1) : Bool := w86 steps s2 || (w87 steps s2 || (w97 length steps s2 || (w98 length steps s2 || decide (w89 length steps s2 ≠ w92 length steps s2))))
def w100 (length : Int) (steps : List Stp) (s2 : M1) : Int := bif w79 steps s2 then bif w82 steps s2 then length else bif w80 steps s2 then length else length else length
def w101 (length : Int) (steps : List Stp) (s2 : M1) : Int := bif w84 steps s2 then bif w81 steps s2 then bif w85 steps s2 then length else length else length else length
def w102 (steps : List Stp) (s3 : M1) : Bool := decide (s3.i < w0 steps)
def w103 (steps : List Stp) (s3 : M1) : Bool := decide ((rowT steps s3.i.toNat).snd.fst < (0 : Int))
def w104 (n : Int) (steps : List Stp) (s3 : M1) : Bool := decide (n ≤ (rowT steps s3.i.toNat).snd.fst)
def w105 (steps : List Stp) (s3 : M1) : Bool := !(decide ((0 : Int) ≤ (rowT steps s3.i.toNat).snd.snd.snd.fst) && (decide ((rowT steps s3.i.toNat).snd.snd.snd.fst < (7 : Int)) && decide ((rowT steps s3.i.toNat).snd.snd.fst ≤ (281474976710656 : Int))))
def w106 (steps : List Stp) (s3 : M1) : Bool := !(decide ((0 : Int) ≤ (rowT steps s3.i.toNat).snd.snd.snd.snd) && decide ((rowT steps s3.i.toNat).snd.snd.snd.snd ≤ (17592186044416 : Int)))
def w107 (n : Int) (steps : List Stp) (s3 : M1) : Bool := !(w103 steps s3 || (w104 n steps s3 || (w105 steps s3 || w106 steps s3)))
def w108 (bR : Int) (bN : Int) (steps : List Stp) (s3 : M1) : Bool := decide ((rowT steps s3.i.toNat).snd.snd.fst = bR) && decide ((rowT steps s3.i.toNat).snd.snd.snd.fst = bN)
def w109 (steps : List Stp) (s3 : M1) : Nat := Int.toNat (rowT steps s3.i.toNat).snd.fst
def w110 (steps : List Stp) (s3 : M1) : Bool := !rowB s3.has (w109 steps s3)
def w111 (steps : List Stp) (s3 : M1) : Bool := w110 steps s3 || decide (rowI s3.tk (w109 steps s3) < (rowT steps s3.i.toNat).snd.snd.snd.snd)
def w112 (n : Int) (steps : List Stp) (s3 : M1) : Bool := !bif w103 steps s3 then w103 steps s3 else bif w104 n steps s3 then w104 n steps s3 else bif w105 steps s3 then w105 steps s3 else w106 steps s3
def w113 (n : Int) (steps : List Stp) (s3 : M1) : Bool := decide ((bif w112 n steps s3 then (0 : Int) else (2 : Int)) ≠ bif w107 n steps s3 then (0 : Int) else (2 : Int))
def w114 (n : Int) (steps : List Stp) (s3 : M1) : Bool := !w113 n steps s3
def w115 (s3 : M1) : List (Int × Int) := s3.m
def w116 (bR : Int) (bN : Int) (n : Int) (steps : List Stp) (s3 : M1) : List (Int × Int) := bif w112 n steps s3 then bif w108 bR bN steps s3 then mput s3.m (rowT steps s3.i.toNat).snd.fst (max ((mget s3.m (rowT steps s3.i.toNat).snd.fst).getD (0 : Int)) (rowT steps s3.i.toNat).snd.snd.snd.snd) else w115 s3 else w115 s3
def w117 (s3 : M1) : List Bool := s3.has
def w118 (bR : Int) (bN : Int) (n : Int) (steps : List Stp) (s3 : M1) : List Bool := bif w107 n steps s3 then (bif w108 bR bN steps s3 then (s3.has.set (w109 steps s3) true) else w117 s3) else w117 s3
def w119 (s3 : M1) : List Int := s3.tk
def w120 (bR : Int) (bN : Int) (n : Int) (steps : List Stp) (s3 : M1) : List Int := bif w107 n steps s3 then (bif w108 bR bN steps s3 then (bif w111 steps s3 then (s3.tk.set (w109 steps s3) (rowT steps s3.i.toNat).snd.snd.snd.snd) else w119 s3) else w119 s3) else w119 s3
def w121 (length : Int) (bound : Int) (bR : Int) (bN : Int) (n : Int) (steps : List Stp) (s3 : M1) : Int := untilU (w116 bR bN n steps s3) n length bound
def w122 (bR : Int) (bN : Int) (n : Int) (steps : List Stp) (s3 : M1) : Mp := Ref.mpOf (w118 bR bN n steps s3) (w120 bR bN n steps s3) n
def w123 (length : Int) (bound : Int) (bR : Int) (bN : Int) (n : Int) (steps : List Stp) (s3 : M1) : Int := untilU (w122 bR bN n steps s3) n length bound
def w124 (length : Int) (bound : Int) (bR : Int) (bN : Int) (n : Int) (steps : List Stp) (s3 : M1) : Bool := decide (w121 length bound bR bN n steps s3 ≠ w123 length bound bR bN n steps s3)
def w125 (bR : Int) (bN : Int) (n : Int) (steps : List Stp) (s3 : M1) : Bool := untilB (w116 bR bN n steps s3) n
def w126 (bR : Int) (bN : Int) (n : Int) (steps : List Stp) (s3 : M1) : Bool := untilB (w122 bR bN n steps s3) n
def w127 (bR : Int) (bN : Int) (n : Int) (steps : List Stp) (s3 : M1) : Bool := !w125 bR bN n steps s3 == w126 bR bN n steps s3
def w128 (length : Int) (bound : Int) (bR : Int) (bN : Int) (n : Int) (steps : List Stp) (s3 : M1) : Bool := w125 bR bN n steps s3 && decide ((rowT steps s3.i.toNat).snd.snd.snd.snd < w121 length bound bR bN n steps s3)
def w129 (length : Int) (bound : Int) (bR : Int) (bN : Int) (n : Int) (steps : List Stp) (s3 : M1) : Bool := !w128 length bound bR bN n steps s3 == decide ((rowT steps s3.i.toNat).snd.snd.snd.snd < w123 length bound bR bN n steps s3)
def w130 (length : Int) (bound : Int) (bR : Int) (bN : Int) (n : Int) (steps : List Stp) (s3 : M1) : Bool := !w128 length bound bR bN n steps s3 == false
def w131 (length : Int) (bound : Int) (bR : Int) (bN : Int) (n : Int) (steps : List Stp) (s3 : M1) : Bool := w124 length bound bR bN n steps s3 || (w127 bR bN n steps s3 || bif w126 bR bN n steps s3 then w129 length bound bR bN n steps s3 || w61 bR bN else w130 length bound bR bN n steps s3 || w61 bR bN)
def w132 (length : Int) (bound : Int) (bR : Int) (bN : Int) (n : Int) (steps : List Stp) (s3 : M1) : Bool := !bif (rowT steps s3.i.toNat).fst then bif w124 length bound bR bN n steps s3 then (rowT steps s3.i.toNat).fst else bif w127 bR bN n steps s3 then (rowT steps s3.i.toNat).fst else bif w126 bR bN n steps s3 then bif w129 length bound bR bN n steps s3 then (rowT steps s3.i.toNat).fst else (rowT steps s3.i.toNat).fst else bif w130 length bound bR bN n steps s3 then (rowT steps s3.i.toNat).fst else (rowT steps s3.i.toNat).fst else (rowT steps s3.i.toNat).fst
def w133 (length : Int) (bound : Int) (bR : Int) (bN : Int) (n : Int) (steps : List Stp) (s3 : M1) : Int := bif (rowT steps s3.i.toNat).fst then bif w124 length bound bR bN n steps s3 then (rowT steps s3.i.toNat).snd.snd.snd.fst else bif w127 bR bN n steps s3 then (rowT steps s3.i.toNat).snd.snd.snd.fst else bif w126 bR bN n steps s3 then bif w129 length bound bR bN n steps s3 then (rowT steps s3.i.toNat).snd.snd.snd.fst else (rowT steps s3.i.toNat).snd.snd.snd.fst else bif w130 length bound bR bN n steps s3 then (rowT steps s3.i.toNat).snd.snd.snd.fst else (rowT steps s3.i.toNat).snd.snd.snd.fst else (rowT steps s3.i.toNat).snd.snd.snd.fst
def w134 (length : Int) (bound : Int) (bR : Int) (bN : Int) (n : Int) (steps : List Stp) (s3 : M1) : Int := bif (rowT steps s3.i.toNat).fst then bif w124 length bound bR bN n steps s3 then (rowT steps s3.i.toNat).snd.snd.fst else bif w127 bR bN n steps s3 then (rowT steps s3.i.toNat).snd.snd.fst else bif w126 bR bN n steps s3 then bif w129 length bound bR bN n steps s3 then (rowT steps s3.i.toNat).snd.snd.fst else (rowT steps s3.i.toNat).snd.snd.fst else bif w130 length bound bR bN n steps s3 then (rowT steps s3.i.toNat).snd.snd.fst else (rowT steps s3.i.toNat).snd.snd.fst else (rowT steps s3.i.toNat).snd.snd.fst
def w135 (length : Int) (bound : Int) (bR : Int) (bN : Int) (n : Int) (steps : List Stp) (s3 : M1) : Bool := !(decide ((0 : Int) ≤ w133 length bound bR bN n steps s3) && (decide (w133 length bound bR bN n steps s3 < (7 : Int)) && decide (w134 length bound bR bN n steps s3 ≤ (281474976710656 : Int))) && !(decide (w134 length bound bR bN n steps s3 = (0 : Int)) && decide (w133 length bound bR bN n steps s3 = (0 : Int))))
def w136 (length : Int) (bound : Int) (bR : Int) (bN : Int) (n : Int) (steps : List Stp) (s3 : M1) : Int := bif (rowT steps s3.i.toNat).fst then bif w124 length bound bR bN n steps s3 then (rowT steps s3.i.toNat).snd.snd.snd.snd else bif w127 bR bN n steps s3 then (rowT steps s3.i.toNat).snd.snd.snd.snd else bif w126 bR bN n steps s3 then bif w129 length bound bR bN n steps s3 then (rowT steps s3.i.toNat).snd.snd.snd.snd else (rowT steps s3.i.toNat).snd.snd.snd.snd else bif w130 length bound bR bN n steps s3 then (rowT steps s3.i.toNat).snd.snd.snd.snd else (rowT steps s3.i.toNat).snd.snd.snd.snd else (rowT steps s3.i.toNat).snd.snd.snd.snd
def w137 (length : Int) (bound : Int) (bR : Int) (bN : Int) (n : Int) (steps : List Stp) (s3 : M1) : Bool := !(decide ((0 : Int) ≤ w136 length bound bR bN n steps s3) && decide (w136 length bound bR bN n steps s3 ≤ (17592186044416 : Int)))
def w138 (length : Int) (bound : Int) (bR : Int) (bN : Int) (n : Int) (steps : List Stp) (s3 : M1) : Bool := !bif w135 length bound bR bN n steps s3 then w135 length bound bR bN n steps s3 else w137 length bound bR bN n steps s3
def w139 (length : Int) (bound : Int) (bR : Int) (bN : Int) (n : Int) (steps : List Stp) (s3 : M1) : Int := bif (rowT steps s3.i.toNat).fst then bif w124 length bound bR bN n steps s3 then s3.gR else bif w127 bR bN n steps s3 then s3.gR else bif w126 bR bN n steps s3 then bif w129 length bound bR bN n steps s3 then s3.gR else s3.gR else bif w130 length bound bR bN n steps s3 then s3.gR else s3.gR else s3.gR
def w140 (length : Int) (bound : Int) (bR : Int) (bN : Int) (n : Int) (steps : List Stp) (s3 : M1) : Int := bif (rowT steps s3.i.toNat).fst then bif w124 length bound bR bN n steps s3 then s3.gN else bif w127 bR bN n steps s3 then s3.gN else bif w126 bR bN n steps s3 then bif w129 length bound bR bN n steps s3 then s3.gN else s3.gN else bif w130 length bound bR bN n steps s3 then s3.gN else s3.gN else s3.gN
def w141 (length : Int) (bound : Int) (bR : Int) (bN : Int) (n : Int) (steps : List Stp) (s3 : M1) : Bool := decide (w134 length bound bR bN n steps s3 = w139 length bound bR bN n steps s3) && decide (w133 length bound bR bN n steps s3 = w140 length bound bR bN n steps s3)
def w142 (length : Int) (bound : Int) (bR : Int) (bN : Int) (n : Int) (steps : List Stp) (s3 : M1) : Bool := !w141 length bound bR bN n steps s3
def w143 (length : Int) (bound : Int) (bR : Int) (bN : Int) (n : Int) (steps : List Stp) (s3 : M1) : Int := bif (rowT steps s3.i.toNat).fst then bif w124 length bound bR bN n steps s3 then s3.gU else bif w127 bR bN n steps s3 then s3.gU else bif w126 bR bN n steps s3 then bif w129 length bound bR bN n steps s3 then s3.gU else s3.gU else bif w130 length bound bR bN n steps s3 then s3.gU else s3.gU else s3.gU
def w144 (length : Int) (bound : Int) (bR : Int) (bN : Int) (n : Int) (steps : List Stp) (s3 : M1) : Bool := w142 length bound bR bN n steps s3 && !!decide (w143 length bound bR bN n steps s3 ≤ w136 length bound bR bN n steps s3)
def w145 (length : Int) (bound : Int) (bR : Int) (bN : Int) (n : Int) (steps : List Stp) (s3 : M1) : Int := bif (rowT steps s3.i.toNat).fst then bif w124 length bound bR bN n steps s3 then length else bif w127 bR bN n steps s3 then length else bif w126 bR bN n steps s3 then bif w129 length bound bR bN n steps s3 then length else length else bif w130 length bound bR bN n steps s3 then length else length else length
def w146 (length : Int) (bound : Int) (bR : Int) (bN : Int) (n : Int) (steps : List Stp) (s3 : M1) : Int := IntKind.i64.wrap (w136 length bound bR bN n steps s3 + w145 length bound bR bN n steps s3)
def w147 (length : Int) (bound : Int) (bR : Int) (bN : Int) (n : Int) (steps : List Stp) (s3 : M1) : Bool := !(w135 length bound bR bN n steps s3 || w137 length bound bR bN n steps s3)
def w148 (length : Int) (bound : Int) (bR : Int) (bN : Int) (n : Int) (steps : List Stp) (s3 : M1) : Bool := !decide (w136 length bound bR bN n steps s3 < w143 length bound bR bN n steps s3)
def w149 (length : Int) (bound : Int) (bR : Int) (bN : Int) (n : Int) (steps : List Stp) (s3 : M1) : Bool := !(w138 length bound bR bN n steps s3 && (w144 length bound bR bN n steps s3 || w141 length bound bR bN n steps s3)) == (w147 length bound bR bN n steps s3 && (!w142 length bound bR bN n steps s3 || w148 length bound bR bN n steps s3))
def w150 (length : Int) (bound : Int) (bR : Int) (bN : Int) (n : Int) (steps : List Stp) (s3 : M1) : Bool := decide ((bif w138 length bound bR bN n steps s3 then (0 : Int) else (2 : Int)) ≠ bif w147 length bound bR bN n steps s3 then (0 : Int) else (2 : Int))
def w151 (length : Int) (bound : Int) (bR : Int) (bN : Int) (n : Int) (steps : List Stp) (s3 : M1) : Int := max (w143 length bound bR bN n steps s3) (w146 length bound bR bN n steps s3)
def w152 (length : Int) (bound : Int) (bR : Int) (bN : Int) (n : Int) (steps : List Stp) (s3 : M1) : Int := bif w138 length bound bR bN n steps s3 then bif w144 length bound bR bN n steps s3 then w146 length bound bR bN n steps s3 else bif w141 length bound bR bN n steps s3 then w151 length bound bR bN n steps s3 else w143 length bound bR bN n steps s3 else w143 length bound bR bN n steps s3
def w153 (length : Int) (bound : Int) (bR : Int) (bN : Int) (n : Int) (steps : List Stp) (s3 : M1) : Bool := !decide (w152 length bound bR bN n steps s3 ≤ w136 length bound bR bN n steps s3)
def w154 (length : Int) (bound : Int) (bR : Int) (bN : Int) (n : Int) (steps : List Stp) (s3 : M1) : Int := bif w138 length bound bR bN n steps s3 then bif w144 length bound bR bN n steps s3 then w134 length bound bR bN n steps s3 else bif w141 length bound bR bN n steps s3 then w139 length bound bR bN n steps s3 else w139 length bound bR bN n steps s3 else w139 length bound bR bN n steps s3
def w155 (length : Int) (bound : Int) (bR : Int) (bN : Int) (n : Int) (steps : List Stp) (s3 : M1) : Int := bif w147 length bound bR bN n steps s3 then bif w142 length bound bR bN n steps s3 then bif w148 length bound bR bN n steps s3 then w146 length bound bR bN n steps s3 else w143 length bound bR bN n steps s3 else w151 length bound bR bN n steps s3 else w143 length bound bR bN n steps s3
def w156 (length : Int) (bound : Int) (bR : Int) (bN : Int) (n : Int) (steps : List Stp) (s3 : M1) : Bool := !decide (w155 length bound bR bN n steps s3 ≤ w136 length bound bR bN n steps s3)
def w157 (length : Int) (bound : Int) (bR : Int) (bN : Int) (n : Int) (steps : List Stp) (s3 : M1) : Int := bif w147 length bound bR bN n steps s3 then bif w142 length bound bR bN n steps s3 then bif w148 length bound bR bN n steps s3 then w134 length bound bR bN n steps s3 else w139 length bound bR bN n steps s3 else w139 length bound bR bN n steps s3 else w139 length bound bR bN n steps s3
def w158 (length : Int) (bound : Int) (bR : Int) (bN : Int) (n : Int) (steps : List Stp) (s3 : M1) : Int := bif w138 length bound bR bN n steps s3 then bif w144 length bound bR bN n steps s3 then w133 length bound bR bN n steps s3 else bif w141 length bound bR bN n steps s3 then w140 length bound bR bN n steps s3 else w140 length bound bR bN n steps s3 else w140 length bound bR bN n steps s3
def w159 (length : Int) (bound : Int) (bR : Int) (bN : Int) (n : Int) (steps : List Stp) (s3 : M1) : Int := bif w147 length bound bR bN n steps s3 then bif w142 length bound bR bN n steps s3 then bif w148 length bound bR bN n steps s3 then w133 length bound bR bN n steps s3 else w140 length bound bR bN n steps s3 else w140 length bound bR bN n steps s3 else w140 length bound bR bN n steps s3
def w160 (length : Int) (bound : Int) (bR : Int) (bN : Int) (n : Int) (steps : List Stp) (s3 : M1) : Bool := !(decide ((bif w153 length bound bR bN n steps s3 then w154 length bound bR bN n steps s3 else (0 : Int)) = bif w156 length bound bR bN n steps s3 then w157 length bound bR bN n steps s3 else (0 : Int)) && decide ((bif w153 length bound bR bN n steps s3 then w158 length bound bR bN n steps s3 else (0 : Int)) = bif w156 length bound bR bN n steps s3 then w159 length bound bR bN n steps s3 else (0 : Int)))
def w161 (length : Int) (bound : Int) (bR : Int) (bN : Int) (n : Int) (steps : List Stp) (s3 : M1) : Bool := !w153 length bound bR bN n steps s3 == w156 length bound bR bN n steps s3
def w162 (length : Int) (bound : Int) (bR : Int) (bN : Int) (n : Int) (steps : List Stp) (s3 : M1) : Bool := w149 length bound bR bN n steps s3 || (w150 length bound bR bN n steps s3 || (w160 length bound bR bN n steps s3 || (w161 length bound bR bN n steps s3 || decide (w152 length bound bR bN n steps s3 ≠ w155 length bound bR bN n steps s3))))
def w163 (length : Int) (bound : Int) (bR : Int) (bN : Int) (n : Int) (steps : List Stp) (s3 : M1) : Int := bif w138 length bound bR bN n steps s3 then bif w144 length bound bR bN n steps s3 then w145 length bound bR bN n steps s3 else bif w141 length bound bR bN n steps s3 then w145 length bound bR bN n steps s3 else w145 length bound bR bN n steps s3 else w145 length bound bR bN n steps s3
def w164 (length : Int) (bound : Int) (bR : Int) (bN : Int) (n : Int) (steps : List Stp) (s3 : M1) : Int := bif w147 length bound bR bN n steps s3 then bif w142 length bound bR bN n steps s3 then bif w148 length bound bR bN n steps s3 then w145 length bound bR bN n steps s3 else w145 length bound bR bN n steps s3 else w145 length bound bR bN n steps s3 else w145 length bound bR bN n steps s3
def w165 (length : Int) (bound : Int) (bR : Int) (bN : Int) (n : Int) (steps : List Stp) (s3 : M1) : Int := bif (rowT steps s3.i.toNat).fst then bif w124 length bound bR bN n steps s3 then bR else bif w127 bR bN n steps s3 then bR else bif w126 bR bN n steps s3 then bif w129 length bound bR bN n steps s3 then bR else bR else bif w130 length bound bR bN n steps s3 then bR else bR else bR
def w166 (length : Int) (bound : Int) (bR : Int) (bN : Int) (n : Int) (steps : List Stp) (s3 : M1) : Int := bif (rowT steps s3.i.toNat).fst then bif w124 length bound bR bN n steps s3 then bN else bif w127 bR bN n steps s3 then bN else bif w126 bR bN n steps s3 then bif w129 length bound bR bN n steps s3 then bN else bN else bif w130 length bound bR bN n steps s3 then bN else bN else bN
def w167 (length : Int) (bound : Int) (bR : Int) (bN : Int) (n : Int) (steps : List Stp) (s3 : M1) : Int := bif (rowT steps s3.i.toNat).fst then bif w124 length bound bR bN n steps s3 then n else bif w127 bR bN n steps s3 then n else bif w126 bR bN n steps s3 then bif w129 length bound bR bN n steps s3 then n else n else bif w130 length bound bR bN n steps s3 then n else n else n
def w168 (length : Int) (bound : Int) (bR : Int) (bN : Int) (n : Int) (steps : List Stp) (s3 : M1) : Int := bif (rowT steps s3.i.toNat).fst then bif w124 length bound bR bN n steps s3 then bound else bif w127 bR bN n steps s3 then bound else bif w126 bR bN n steps s3 then bif w129 length bound bR bN n steps s3 then bound else bound else bif w130 length bound bR bN n steps s3 then bound else bound else bound
def w169 (bR : Int) (bN : Int) (n : Int) (steps : List Stp) (s3 : M1) : List (Int × Int) := (w116 bR bN n steps s3)
def w170 (bR : Int) (bN : Int) (n : Int) (steps : List Stp) (s3 : M1) : List Nat := bif w112 n steps s3 then bif w108 bR bN steps s3 then bput s3.m s3.bs s3.clk (rowT steps s3.i.toNat).snd.fst else s3.bs else s3.bs
def w171 (bR : Int) (bN : Int) (n : Int) (steps : List Stp) (s3 : M1) : Nat := bif w112 n steps s3 then bif w108 bR bN steps s3 then cput s3.m s3.clk (rowT steps s3.i.toNat).snd.fst else s3.clk else s3.clk
def w172 (bR : Int) (bN : Int) (n : Int) (steps : List Stp) (s3 : M1) : List Bool := (w118 bR bN n steps s3)
def w173 (bR : Int) (bN : Int) (n : Int) (steps : List Stp) (s3 : M1) : List Int := (w120 bR bN n steps s3)
def part0 (n : Int) : Prop := (0 : Int) ≤ n ∧
 n = n ∧
 n * (1 : Int) ≤ (140737488355328 : Int) ∧
 n ≤ (4611686018427387904 : Int)
def part1 (n : Int) : Prop := (0 : Int) ≤ n ∧
 n = n ∧
 n * (8 : Int) ≤ (140737488355328 : Int) ∧
 n ≤ (4611686018427387904 : Int)
def part2 (length : Int) (bound : Int) (bR : Int) (bN : Int) (n : Int) : Prop := (part0 n ∧
 ((bR = bR ∧
 bN = bN) ∧
 n = n ∧
 length = length ∧
 bound = bound ∧
 n = n) ∧
 part1 n ∧
 (bR = bR ∧
 bN = bN) ∧
 n = n ∧
 length = length ∧
 bound = bound ∧
 n = n) ∧
 (part1 n ∧
 ((bR = bR ∧
 bN = bN) ∧
 n = n ∧
 length = length ∧
 bound = bound ∧
 n = n) ∧
 part0 n ∧
 (bR = bR ∧
 bN = bN) ∧
 n = n ∧
 length = length ∧
 bound = bound ∧
 n = n) ∧
 bR = bR ∧
 bN = bN ∧
 n = n ∧
 bound = bound ∧
 w13 length bound bR bN n = w13 length bound bR bN n ∧
 w14 length bound bR bN n = w14 length bound bR bN n ∧
 w15 length bound bR bN n = w15 length bound bR bN n ∧
 bound = bound ∧
 w16 length bound bR bN n = w16 length bound bR bN n ∧
 w17 length bound bR bN n = w17 length bound bR bN n ∧
 w10 length bound bR bN n = w10 length bound bR bN n ∧
 w18 length bound bR bN n = w18 length bound bR bN n ∧
 w19 length bound bR bN n = w19 length bound bR bN n ∧
 w20 length bound bR bN n = w20 length bound bR bN n ∧
 n = n ∧
 length = length ∧
 w21 bR bN n = w21 bR bN n ∧
 w22 length bound bR bN n = w22 length bound bR bN n ∧
 w23 length bR bN n = w23 length bR bN n ∧
 n = n ∧
 w6 bR bN = w6 bR bN ∧
 w24 bR bN n = w24 bR bN n ∧
 bR = bR ∧
 bN = bN ∧
 w25 length bR bN n = w25 length bR bN n ∧
 bR = bR ∧
 bN = bN ∧
 n = n ∧
 length = length ∧
 bound = bound ∧
 w26 length bound bR bN n = w26 length bound bR bN n ∧
 n = n ∧
 length = length ∧
 (w27 n) = w27 n ∧
 (w28 n) = w28 n ∧
 bR = bR ∧
 bN = bN ∧
 n = n ∧
 length = length ∧
 bound = bound
def part3 (length : Int) (bound : Int) (bR : Int) (bN : Int) (n : Int) : Prop := w12 length bound bR bN n = true →
 part2 length bound bR bN n ∧
 false = true
def part4 (length : Int) (bound : Int) (bR : Int) (bN : Int) (n : Int) : Prop := w10 length bound bR bN n = true →
 false = true
def part5 (steps : List Stp) (s1 : M1) : Prop := (0 : Int) ≤ (rowT steps s1.i.toNat).snd.fst ∧
 (rowT steps s1.i.toNat).snd.fst < (↑s1.has.length : Int)
def part6 (steps : List Stp) (s1 : M1) : Prop := (0 : Int) ≤ (rowT steps s1.i.toNat).snd.fst ∧
 (rowT steps s1.i.toNat).snd.fst < (↑s1.tk.length : Int)
def part7 (bR : Int) (bN : Int) (n : Int) (steps : List Stp) (s1 : M1) : Prop := (w46 bR bN n steps s1).length ≤ (7 : Nat) ∧
 (1 : Int) ≤ n ∧
 n ≤ (7 : Int)
def part8 (length : Int) (bound : Int) (bR : Int) (bN : Int) (n : Int) : Prop := part4 length bound bR bN n ∧
 part3 length bound bR bN n
def part9 (length : Int) (bound : Int) (bR : Int) (bN : Int) (n : Int) : Prop := (w10 length bound bR bN n = true →
 part8 length bound bR bN n) ∧
 (w12 length bound bR bN n = true →
 part8 length bound bR bN n)
def part10 (steps : List Stp) (s3 : M1) : Prop := (0 : Int) ≤ (rowT steps s3.i.toNat).snd.fst ∧
 (rowT steps s3.i.toNat).snd.fst < (↑s3.has.length : Int)
def part11 (steps : List Stp) (s3 : M1) : Prop := (0 : Int) ≤ (rowT steps s3.i.toNat).snd.fst ∧
 (rowT steps s3.i.toNat).snd.fst < (↑s3.tk.length : Int)
def part12 (bR : Int) (bN : Int) (n : Int) (steps : List Stp) (s3 : M1) : Prop := (w116 bR bN n steps s3).length ≤ (7 : Nat) ∧
 (1 : Int) ≤ n ∧
 n ≤ (7 : Int)
def owed (length now bound bR bN n : Int) (steps : List Stp) (inv : M1 → Prop) : Prop :=
  (w1 steps = true →
 true = true) ∧
 ((!w1 steps) = true →
 (w4 length now = true →
 (w4 length now = true →
 (w10 length bound bR bN n = true →
 (w10 length bound bR bN n = true →
 ∃ s0, inv s0 ∧
 (steps = steps ∧
 (0 : Int) = s0.i ∧
 bR = bR ∧
 bN = bN) ∧
 ∀ (s : M1), inv s →
 IntKind.i64.has s.i →
 (CTy.sl (RTy.cons CTy.boo (RTy.cons (CTy.int IntKind.i64) (RTy.cons (CTy.int IntKind.u64) (RTy.cons (CTy.int IntKind.i64) (RTy.one (CTy.int IntKind.i64))))))).Has steps →
 IntKind.u64.has bR →
 IntKind.i64.has bN →
 (w11 steps s = true →
 ((0 : Int) ≤ s.i ∧
 s.i < w0 steps) ∧
 ∃ s', inv s' ∧
 steps.length - s'.i.toNat < steps.length - s.i.toNat ∧
 steps = steps ∧
 IntKind.i64.wrap (s.i + (1 : Int)) = s'.i ∧
 bR = bR ∧
 bN = bN) ∧
 ((!w11 steps s) = true →
 true = true)) ∧
 part3 length bound bR bN n) ∧
 (w12 length bound bR bN n = true →
 part4 length bound bR bN n ∧
 (w12 length bound bR bN n = true →
 part2 length bound bR bN n ∧
 ∃ s01, inv s01 ∧
 (steps = steps ∧
 (0 : Int) = s01.i ∧
 bR = bR ∧
 bN = bN ∧
 n = n ∧
 length = length ∧
 bound = bound ∧
 w29 = s01.m ∧
 [] = s01.bs ∧
 (0 : Nat) = s01.clk ∧
 (List.map (fun x => x.fst) s01.m).Nodup ∧
 bR = bR ∧
 bN = bN ∧
 n = n ∧
 length = length ∧
 bound = bound ∧
 w30 n = s01.has ∧
 w31 n = s01.tk ∧
 bR = bR ∧
 bN = bN) ∧
 ∀ (s1 : M1), inv s1 →
 IntKind.i64.has s1.i →
 (CTy.sl (RTy.cons CTy.boo (RTy.cons (CTy.int IntKind.i64) (RTy.cons (CTy.int IntKind.u64) (RTy.cons (CTy.int IntKind.i64) (RTy.one (CTy.int IntKind.i64))))))).Has steps →
 (List.map (fun x => x.fst) s1.m).Nodup →
 (∀ (p : Int × Int), p ∈ s1.m →
 (RTy.one (CTy.int IntKind.i64)).Has p.fst ∧
 (RTy.one (CTy.int IntKind.i64)).Has p.snd) →
 (s1.bs.length = List.length s1.m ∧
 s1.bs.Nodup ∧
 ∀ (b : Nat), b ∈ s1.bs →
 b < s1.clk) →
 IntKind.u64.has bR →
 IntKind.i64.has bN →
 (∀ (row : Bool), row ∈ s1.has →
 (RTy.one CTy.boo).Has row) →
 IntKind.u64.has bR →
 IntKind.i64.has bN →
 IntKind.i64.has n →
 IntKind.i64.has length →
 IntKind.i64.has bound →
 IntKind.u64.has bR →
 IntKind.i64.has bN →
 IntKind.i64.has n →
 IntKind.i64.has length →
 IntKind.i64.has bound →
 (∀ (row1 : Int), row1 ∈ s1.tk →
 (RTy.one (CTy.int IntKind.i64)).Has row1) →
 (w32 steps s1 = true →
 ((0 : Int) ≤ s1.i ∧
 s1.i < w0 steps) ∧
 ((rowT steps s1.i.toNat).fst = true →
 (((rowT steps s1.i.toNat).snd.fst = (rowT steps s1.i.toNat).snd.fst ∧
 ((rowT steps s1.i.toNat).snd.snd.fst = (rowT steps s1.i.toNat).snd.snd.fst ∧
 (rowT steps s1.i.toNat).snd.snd.snd.fst = (rowT steps s1.i.toNat).snd.snd.snd.fst) ∧
 (rowT steps s1.i.toNat).snd.snd.snd.snd = (rowT steps s1.i.toNat).snd.snd.snd.snd) ∧
 (w37 n steps s1 = true →
 w38 bR bN steps s1 = true →
 ((part5 steps s1 ∧
 (w40 steps s1 = false →
 part6 steps s1)) ∧
 (w41 steps s1 = true →
 part6 steps s1)) ∧
 part5 steps s1)) ∧
 (w44 n steps s1 = true →
 part7 bR bN n steps s1 ∧
 ((w48 bR bN n steps s1).length = n.toNat ∧
 (w50 bR bN n steps s1).length = n.toNat ∧
 (1 : Int) ≤ n ∧
 n ≤ (7 : Int)) ∧
 (w54 length bound bR bN n steps s1 = false →
 w57 bR bN n steps s1 = false →
 part7 bR bN n steps s1 ∧
 w56 bR bN n steps s1 = w56 bR bN n steps s1 ∧
 (w56 bR bN n steps s1 = true →
 w59 length bound bR bN n steps s1 = false →
 bR = bR ∧
 bN = bN) ∧
 (w56 bR bN n steps s1 = false →
 w60 length bound bR bN n steps s1 = false →
 bR = bR ∧
 bN = bN)))) ∧
 (((rowT steps s1.i.toNat).fst && bif w44 n steps s1 then w62 length bound bR bN n steps s1 else w43 n steps s1) = true →
 false = true) ∧
 ((!(rowT steps s1.i.toNat).fst || w44 n steps s1 && !w62 length bound bR bN n steps s1) = true →
 ∃ s'1, inv s'1 ∧
 steps.length - s'1.i.toNat < steps.length - s1.i.toNat ∧
 steps = steps ∧
 IntKind.i64.wrap (s1.i + (1 : Int)) = s'1.i ∧
 w63 length bound bR bN n steps s1 = bR ∧
 w64 length bound bR bN n steps s1 = bN ∧
 w65 length bound bR bN n steps s1 = n ∧
 w66 length bound bR bN n steps s1 = length ∧
 w67 length bound bR bN n steps s1 = bound ∧
 (bif (rowT steps s1.i.toNat).fst then bif w54 length bound bR bN n steps s1 then w46 bR bN n steps s1 else (bif w57 bR bN n steps s1 then w46 bR bN n steps s1 else (bif w56 bR bN n steps s1 then bif w59 length bound bR bN n steps s1 then w46 bR bN n steps s1 else w68 bR bN n steps s1 else (bif w60 length bound bR bN n steps s1 then w46 bR bN n steps s1 else w68 bR bN n steps s1))) else w45 s1) = s'1.m ∧
 (bif (rowT steps s1.i.toNat).fst then bif w54 length bound bR bN n steps s1 then w69 bR bN n steps s1 else bif w57 bR bN n steps s1 then w69 bR bN n steps s1 else bif w56 bR bN n steps s1 then bif w59 length bound bR bN n steps s1 then w69 bR bN n steps s1 else w69 bR bN n steps s1 else bif w60 length bound bR bN n steps s1 then w69 bR bN n steps s1 else w69 bR bN n steps s1 else s1.bs) = s'1.bs ∧
 (bif (rowT steps s1.i.toNat).fst then bif w54 length bound bR bN n steps s1 then w70 bR bN n steps s1 else bif w57 bR bN n steps s1 then w70 bR bN n steps s1 else bif w56 bR bN n steps s1 then bif w59 length bound bR bN n steps s1 then w70 bR bN n steps s1 else w70 bR bN n steps s1 else bif w60 length bound bR bN n steps s1 then w70 bR bN n steps s1 else w70 bR bN n steps s1 else s1.clk) = s'1.clk ∧
 w63 length bound bR bN n steps s1 = bR ∧
 w64 length bound bR bN n steps s1 = bN ∧
 w65 length bound bR bN n steps s1 = n ∧
 w66 length bound bR bN n steps s1 = length ∧
 w67 length bound bR bN n steps s1 = bound ∧
 (bif (rowT steps s1.i.toNat).fst then (bif w54 length bound bR bN n steps s1 then w71 bR bN n steps s1 else (bif w57 bR bN n steps s1 then w71 bR bN n steps s1 else (bif w56 bR bN n steps s1 then (bif w59 length bound bR bN n steps s1 then w71 bR bN n steps s1 else w71 bR bN n steps s1) else (bif w60 length bound bR bN n steps s1 then w71 bR bN n steps s1 else w71 bR bN n steps s1)))) else w47 s1) = s'1.has ∧
 (bif (rowT steps s1.i.toNat).fst then (bif w54 length bound bR bN n steps s1 then w72 bR bN n steps s1 else (bif w57 bR bN n steps s1 then w72 bR bN n steps s1 else (bif w56 bR bN n steps s1 then (bif w59 length bound bR bN n steps s1 then w72 bR bN n steps s1 else w72 bR bN n steps s1) else (bif w60 length bound bR bN n steps s1 then w72 bR bN n steps s1 else w72 bR bN n steps s1)))) else w49 s1) = s'1.tk ∧
 w63 length bound bR bN n steps s1 = bR ∧
 w64 length bound bR bN n steps s1 = bN)) ∧
 ((!w32 steps s1) = true →
 true = true)))) ∧
 (w73 length now = true →
 part9 length bound bR bN n)) ∧
 (w73 length now = true →
 (w4 length now = true →
 part9 length bound bR bN n) ∧
 (w73 length now = true →
 (w10 length bound bR bN n = true →
 (w10 length bound bR bN n = true →
 ∃ s02, inv s02 ∧
 (steps = steps ∧
 (0 : Int) = s02.i ∧
 length = length ∧
 (0 : Int) = s02.gR ∧
 (0 : Int) = s02.gN ∧
 w74 length now = s02.gU ∧
 length = length ∧
 (0 : Int) = s02.gR ∧
 (0 : Int) = s02.gN ∧
 w74 length now = s02.gU ∧
 bR = bR ∧
 bN = bN) ∧
 ∀ (s2 : M1), inv s2 →
 IntKind.i64.has s2.i →
 (CTy.sl (RTy.cons CTy.boo (RTy.cons (CTy.int IntKind.i64) (RTy.cons (CTy.int IntKind.u64) (RTy.cons (CTy.int IntKind.i64) (RTy.one (CTy.int IntKind.i64))))))).Has steps →
 IntKind.i64.has length →
 IntKind.u64.has s2.gR →
 IntKind.i64.has s2.gN →
 IntKind.i64.has s2.gU →
 IntKind.i64.has length →
 IntKind.u64.has s2.gR →
 IntKind.i64.has s2.gN →
 IntKind.i64.has s2.gU →
 IntKind.u64.has bR →
 IntKind.i64.has bN →
 (w75 steps s2 = true →
 ((0 : Int) ≤ s2.i ∧
 s2.i < w0 steps) ∧
 (w76 steps s2 = true →
 (w79 steps s2 = true →
 w82 steps s2 = true →
 (rowT steps s2.i.toNat).snd.snd.snd.snd = (rowT steps s2.i.toNat).snd.snd.snd.snd ∧
 w83 length steps s2 = w83 length steps s2) ∧
 (w86 steps s2 = false →
 w87 steps s2 = false →
 w97 length steps s2 = false →
 w98 length steps s2 = false →
 w92 length steps s2 = w92 length steps s2)) ∧
 ((w76 steps s2 && w99 length steps s2) = true →
 false = true) ∧
 ((!w76 steps s2 || !w99 length steps s2) = true →
 ∃ s'2, inv s'2 ∧
 steps.length - s'2.i.toNat < steps.length - s2.i.toNat ∧
 steps = steps ∧
 IntKind.i64.wrap (s2.i + (1 : Int)) = s'2.i ∧
 (bif w76 steps s2 then bif w86 steps s2 then w100 length steps s2 else bif w87 steps s2 then w100 length steps s2 else bif w97 length steps s2 then w100 length steps s2 else bif w98 length steps s2 then w100 length steps s2 else w100 length steps s2 else length) = length ∧
 (bif w76 steps s2 then bif w86 steps s2 then w91 steps s2 else bif w87 steps s2 then w91 steps s2 else bif w97 length steps s2 then w91 steps s2 else bif w98 length steps s2 then w91 steps s2 else w91 steps s2 else s2.gR) = s'2.gR ∧
 (bif w76 steps s2 then bif w86 steps s2 then w95 steps s2 else bif w87 steps s2 then w95 steps s2 else bif w97 length steps s2 then w95 steps s2 else bif w98 length steps s2 then w95 steps s2 else w95 steps s2 else s2.gN) = s'2.gN ∧
 (bif w76 steps s2 then bif w86 steps s2 then w89 length steps s2 else bif w87 steps s2 then w89 length steps s2 else bif w97 length steps s2 then w89 length steps s2 else bif w98 length steps s2 then w89 length steps s2 else w89 length steps s2 else s2.gU) = s'2.gU ∧
 (bif w76 steps s2 then bif w86 steps s2 then w101 length steps s2 else bif w87 steps s2 then w101 length steps s2 else bif w97 length steps s2 then w101 length steps s2 else bif w98 length steps s2 then w101 length steps s2 else w101 length steps s2 else length) = length ∧
 (bif w76 steps s2 then bif w86 steps s2 then w94 steps s2 else bif w87 steps s2 then w94 steps s2 else bif w97 length steps s2 then w94 steps s2 else bif w98 length steps s2 then w94 steps s2 else w94 steps s2 else s2.gR) = s'2.gR ∧
 (bif w76 steps s2 then bif w86 steps s2 then w96 steps s2 else bif w87 steps s2 then w96 steps s2 else bif w97 length steps s2 then w96 steps s2 else bif w98 length steps s2 then w96 steps s2 else w96 steps s2 else s2.gN) = s'2.gN ∧
 (bif w76 steps s2 then bif w86 steps s2 then w92 length steps s2 else bif w87 steps s2 then w92 length steps s2 else bif w97 length steps s2 then w92 length steps s2 else bif w98 length steps s2 then w92 length steps s2 else w92 length steps s2 else s2.gU) = s'2.gU ∧
 bR = bR ∧
 bN = bN)) ∧
 ((!w75 steps s2) = true →
 true = true)) ∧
 part3 length bound bR bN n) ∧
 (w12 length bound bR bN n = true →
 part4 length bound bR bN n ∧
 (w12 length bound bR bN n = true →
 part2 length bound bR bN n ∧
 ∃ s03, inv s03 ∧
 (steps = steps ∧
 (0 : Int) = s03.i ∧
 length = length ∧
 (0 : Int) = s03.gR ∧
 (0 : Int) = s03.gN ∧
 w74 length now = s03.gU ∧
 length = length ∧
 (0 : Int) = s03.gR ∧
 (0 : Int) = s03.gN ∧
 w74 length now = s03.gU ∧
 bR = bR ∧
 bN = bN ∧
 n = n ∧
 length = length ∧
 bound = bound ∧
 w29 = s03.m ∧
 [] = s03.bs ∧
 (0 : Nat) = s03.clk ∧
 (List.map (fun x => x.fst) s03.m).Nodup ∧
 bR = bR ∧
 bN = bN ∧
 n = n ∧
 length = length ∧
 bound = bound ∧
 w30 n = s03.has ∧
 w31 n = s03.tk ∧
 bR = bR ∧
 bN = bN) ∧
 ∀ (s3 : M1), inv s3 →
 IntKind.i64.has s3.i →
 (CTy.sl (RTy.cons CTy.boo (RTy.cons (CTy.int IntKind.i64) (RTy.cons (CTy.int IntKind.u64) (RTy.cons (CTy.int IntKind.i64) (RTy.one (CTy.int IntKind.i64))))))).Has steps →
 IntKind.i64.has length →
 IntKind.u64.has s3.gR →
 IntKind.i64.has s3.gN →
 IntKind.i64.has s3.gU →
 IntKind.i64.has length →
 IntKind.u64.has s3.gR →
 IntKind.i64.has s3.gN →
 IntKind.i64.has s3.gU →
 (List.map (fun x => x.fst) s3.m).Nodup →
 (∀ (p1 : Int × Int), p1 ∈ s3.m →
 (RTy.one (CTy.int IntKind.i64)).Has p1.fst ∧
 (RTy.one (CTy.int IntKind.i64)).Has p1.snd) →
 (s3.bs.length = List.length s3.m ∧
 s3.bs.Nodup ∧
 ∀ (b1 : Nat), b1 ∈ s3.bs →
 b1 < s3.clk) →
 IntKind.u64.has bR →
 IntKind.i64.has bN →
 (∀ (row2 : Bool), row2 ∈ s3.has →
 (RTy.one CTy.boo).Has row2) →
 IntKind.u64.has bR →
 IntKind.i64.has bN →
 IntKind.i64.has n →
 IntKind.i64.has length →
 IntKind.i64.has bound →
 IntKind.u64.has bR →
 IntKind.i64.has bN →
 IntKind.i64.has n →
 IntKind.i64.has length →
 IntKind.i64.has bound →
 (∀ (row3 : Int), row3 ∈ s3.tk →
 (RTy.one (CTy.int IntKind.i64)).Has row3) →
 (w102 steps s3 = true →
 ((0 : Int) ≤ s3.i ∧
 s3.i < w0 steps) ∧
 ((rowT steps s3.i.toNat).fst = true →
 (((rowT steps s3.i.toNat).snd.fst = (rowT steps s3.i.toNat).snd.fst ∧
 ((rowT steps s3.i.toNat).snd.snd.fst = (rowT steps s3.i.toNat).snd.snd.fst ∧
 (rowT steps s3.i.toNat).snd.snd.snd.fst = (rowT steps s3.i.toNat).snd.snd.snd.fst) ∧
 (rowT steps s3.i.toNat).snd.snd.snd.snd = (rowT steps s3.i.toNat).snd.snd.snd.snd) ∧
 (w107 n steps s3 = true →
 w108 bR bN steps s3 = true →
 ((part10 steps s3 ∧
 (w110 steps s3 = false →
 part11 steps s3)) ∧
 (w111 steps s3 = true →
 part11 steps s3)) ∧
 part10 steps s3)) ∧
 (w114 n steps s3 = true →
 part12 bR bN n steps s3 ∧
 ((w118 bR bN n steps s3).length = n.toNat ∧
 (w120 bR bN n steps s3).length = n.toNat ∧
 (1 : Int) ≤ n ∧
 n ≤ (7 : Int)) ∧
 (w124 length bound bR bN n steps s3 = false →
 w127 bR bN n steps s3 = false →
 part12 bR bN n steps s3 ∧
 w126 bR bN n steps s3 = w126 bR bN n steps s3 ∧
 (w126 bR bN n steps s3 = true →
 w129 length bound bR bN n steps s3 = false →
 bR = bR ∧
 bN = bN) ∧
 (w126 bR bN n steps s3 = false →
 w130 length bound bR bN n steps s3 = false →
 bR = bR ∧
 bN = bN)))) ∧
 (((rowT steps s3.i.toNat).fst && bif w114 n steps s3 then w131 length bound bR bN n steps s3 else w113 n steps s3) = true →
 false = true) ∧
 ((!(rowT steps s3.i.toNat).fst || w114 n steps s3 && !w131 length bound bR bN n steps s3) = true →
 (w132 length bound bR bN n steps s3 = true →
 (w138 length bound bR bN n steps s3 = true →
 w144 length bound bR bN n steps s3 = true →
 w136 length bound bR bN n steps s3 = w136 length bound bR bN n steps s3 ∧
 w146 length bound bR bN n steps s3 = w146 length bound bR bN n steps s3) ∧
 (w149 length bound bR bN n steps s3 = false →
 w150 length bound bR bN n steps s3 = false →
 w160 length bound bR bN n steps s3 = false →
 w161 length bound bR bN n steps s3 = false →
 w155 length bound bR bN n steps s3 = w155 length bound bR bN n steps s3)) ∧
 ((w132 length bound bR bN n steps s3 && w162 length bound bR bN n steps s3) = true →
 false = true) ∧
 ((!w132 length bound bR bN n steps s3 || !w162 length bound bR bN n steps s3) = true →
 ∃ s'3, inv s'3 ∧
 steps.length - s'3.i.toNat < steps.length - s3.i.toNat ∧
 steps = steps ∧
 IntKind.i64.wrap (s3.i + (1 : Int)) = s'3.i ∧
 (bif w132 length bound bR bN n steps s3 then bif w149 length bound bR bN n steps s3 then w163 length bound bR bN n steps s3 else bif w150 length bound bR bN n steps s3 then w163 length bound bR bN n steps s3 else bif w160 length bound bR bN n steps s3 then w163 length bound bR bN n steps s3 else bif w161 length bound bR bN n steps s3 then w163 length bound bR bN n steps s3 else w163 length bound bR bN n steps s3 else w145 length bound bR bN n steps s3) = length ∧
 (bif w132 length bound bR bN n steps s3 then bif w149 length bound bR bN n steps s3 then w154 length bound bR bN n steps s3 else bif w150 length bound bR bN n steps s3 then w154 length bound bR bN n steps s3 else bif w160 length bound bR bN n steps s3 then w154 length bound bR bN n steps s3 else bif w161 length bound bR bN n steps s3 then w154 length bound bR bN n steps s3 else w154 length bound bR bN n steps s3 else w139 length bound bR bN n steps s3) = s'3.gR ∧
 (bif w132 length bound bR bN n steps s3 then bif w149 length bound bR bN n steps s3 then w158 length bound bR bN n steps s3 else bif w150 length bound bR bN n steps s3 then w158 length bound bR bN n steps s3 else bif w160 length bound bR bN n steps s3 then w158 length bound bR bN n steps s3 else bif w161 length bound bR bN n steps s3 then w158 length bound bR bN n steps s3 else w158 length bound bR bN n steps s3 else w140 length bound bR bN n steps s3) = s'3.gN ∧
 (bif w132 length bound bR bN n steps s3 then bif w149 length bound bR bN n steps s3 then w152 length bound bR bN n steps s3 else bif w150 length bound bR bN n steps s3 then w152 length bound bR bN n steps s3 else bif w160 length bound bR bN n steps s3 then w152 length bound bR bN n steps s3 else bif w161 length bound bR bN n steps s3 then w152 length bound bR bN n steps s3 else w152 length bound bR bN n steps s3 else w143 length bound bR bN n steps s3) = s'3.gU ∧
 (bif w132 length bound bR bN n steps s3 then bif w149 length bound bR bN n steps s3 then w164 length bound bR bN n steps s3 else bif w150 length bound bR bN n steps s3 then w164 length bound bR bN n steps s3 else bif w160 length bound bR bN n steps s3 then w164 length bound bR bN n steps s3 else bif w161 length bound bR bN n steps s3 then w164 length bound bR bN n steps s3 else w164 length bound bR bN n steps s3 else w145 length bound bR bN n steps s3) = length ∧
 (bif w132 length bound bR bN n steps s3 then bif w149 length bound bR bN n steps s3 then w157 length bound bR bN n steps s3 else bif w150 length bound bR bN n steps s3 then w157 length bound bR bN n steps s3 else bif w160 length bound bR bN n steps s3 then w157 length bound bR bN n steps s3 else bif w161 length bound bR bN n steps s3 then w157 length bound bR bN n steps s3 else w157 length bound bR bN n steps s3 else w139 length bound bR bN n steps s3) = s'3.gR ∧
 (bif w132 length bound bR bN n steps s3 then bif w149 length bound bR bN n steps s3 then w159 length bound bR bN n steps s3 else bif w150 length bound bR bN n steps s3 then w159 length bound bR bN n steps s3 else bif w160 length bound bR bN n steps s3 then w159 length bound bR bN n steps s3 else bif w161 length bound bR bN n steps s3 then w159 length bound bR bN n steps s3 else w159 length bound bR bN n steps s3 else w140 length bound bR bN n steps s3) = s'3.gN ∧
 (bif w132 length bound bR bN n steps s3 then bif w149 length bound bR bN n steps s3 then w155 length bound bR bN n steps s3 else bif w150 length bound bR bN n steps s3 then w155 length bound bR bN n steps s3 else bif w160 length bound bR bN n steps s3 then w155 length bound bR bN n steps s3 else bif w161 length bound bR bN n steps s3 then w155 length bound bR bN n steps s3 else w155 length bound bR bN n steps s3 else w143 length bound bR bN n steps s3) = s'3.gU ∧
 w165 length bound bR bN n steps s3 = bR ∧
 w166 length bound bR bN n steps s3 = bN ∧
 w167 length bound bR bN n steps s3 = n ∧
 w145 length bound bR bN n steps s3 = length ∧
 w168 length bound bR bN n steps s3 = bound ∧
 (bif (rowT steps s3.i.toNat).fst then bif w124 length bound bR bN n steps s3 then w116 bR bN n steps s3 else (bif w127 bR bN n steps s3 then w116 bR bN n steps s3 else (bif w126 bR bN n steps s3 then bif w129 length bound bR bN n steps s3 then w116 bR bN n steps s3 else w169 bR bN n steps s3 else (bif w130 length bound bR bN n steps s3 then w116 bR bN n steps s3 else w169 bR bN n steps s3))) else w115 s3) = s'3.m ∧
 (bif (rowT steps s3.i.toNat).fst then bif w124 length bound bR bN n steps s3 then w170 bR bN n steps s3 else bif w127 bR bN n steps s3 then w170 bR bN n steps s3 else bif w126 bR bN n steps s3 then bif w129 length bound bR bN n steps s3 then w170 bR bN n steps s3 else w170 bR bN n steps s3 else bif w130 length bound bR bN n steps s3 then w170 bR bN n steps s3 else w170 bR bN n steps s3 else s3.bs) = s'3.bs ∧
 (bif (rowT steps s3.i.toNat).fst then bif w124 length bound bR bN n steps s3 then w171 bR bN n steps s3 else bif w127 bR bN n steps s3 then w171 bR bN n steps s3 else bif w126 bR bN n steps s3 then bif w129 length bound bR bN n steps s3 then w171 bR bN n steps s3 else w171 bR bN n steps s3 else bif w130 length bound bR bN n steps s3 then w171 bR bN n steps s3 else w171 bR bN n steps s3 else s3.clk) = s'3.clk ∧
 w165 length bound bR bN n steps s3 = bR ∧
 w166 length bound bR bN n steps s3 = bN ∧
 w167 length bound bR bN n steps s3 = n ∧
 w145 length bound bR bN n steps s3 = length ∧
 w168 length bound bR bN n steps s3 = bound ∧
 (bif (rowT steps s3.i.toNat).fst then (bif w124 length bound bR bN n steps s3 then w172 bR bN n steps s3 else (bif w127 bR bN n steps s3 then w172 bR bN n steps s3 else (bif w126 bR bN n steps s3 then (bif w129 length bound bR bN n steps s3 then w172 bR bN n steps s3 else w172 bR bN n steps s3) else (bif w130 length bound bR bN n steps s3 then w172 bR bN n steps s3 else w172 bR bN n steps s3)))) else w117 s3) = s'3.has ∧
 (bif (rowT steps s3.i.toNat).fst then (bif w124 length bound bR bN n steps s3 then w173 bR bN n steps s3 else (bif w127 bR bN n steps s3 then w173 bR bN n steps s3 else (bif w126 bR bN n steps s3 then (bif w129 length bound bR bN n steps s3 then w173 bR bN n steps s3 else w173 bR bN n steps s3) else (bif w130 length bound bR bN n steps s3 then w173 bR bN n steps s3 else w173 bR bN n steps s3)))) else w119 s3) = s'3.tk ∧
 w165 length bound bR bN n steps s3 = bR ∧
 w166 length bound bR bN n steps s3 = bN))) ∧
 ((!w102 steps s3) = true →
 true = true))))))

theorem owed_eq (length now bound bR bN n : Int) (steps : List Stp) (inv : M1 → Prop) : owed length now bound bR bN n steps inv = vTop Try.prog Ref.S3 (L3 length bound bR bN n steps inv) 1000 10 [.sI .i64 length, .sI .i64 now, .sI .i64 bound, .agg [.sI .u64 bR, .sI .i64 bN], .sI .i64 n, .dsl stR steps] H0 (fun v _ => isB v true) := by kernel_rfl
end
end Go.Proofs.Ytdeoahhofhmgfaa.LeasePlays.Main
