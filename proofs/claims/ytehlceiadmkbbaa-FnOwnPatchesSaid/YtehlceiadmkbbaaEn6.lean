/- My texts joined: EvE, EvF, EvG, EvT1, EvT2. No condition. -/
import Derived.Test.YtehlceiadmkbbaaEn3
import Derived.Test.YtehlceiadmkbbaaEn4
import Derived.Test.YtehlceiadmkbbaaEn5
import Derived.Test.YtehlceiadmkbbaaProg
import Derived.KernelRfl
/- The seat's tables for the evaluator: types, what lives behind each region, which operations' order is open, modes. PRINTED by my gen_env.py; every fact here is proved or harmless. -/
set_option linter.unusedVariables false
set_option maxRecDepth 100000
namespace Go.Ev
open Go.Proofs
def live3 : Nat → List Nat
  | 0 => [0]
  | 1 => [0, 16]
  | 2 => [2]
  | 3 => [3, 4, 5]
  | 4 => [3, 4, 5, 6, 7]
  | 5 => [3, 4, 5, 6, 7, 8, 9]
  | 6 => [3, 4, 5, 6, 7, 8, 9, 49]
  | 7 => [2]
  | 8 => [3, 4, 5, 6, 10, 11]
  | 9 => [3, 4, 5, 6, 10, 11, 12]
  | 10 => [3, 4, 5, 6, 10, 11, 12, 69]
  | 12 => [3, 4, 5, 6, 10, 11, 12, 13]
  | 13 => [3, 4, 5, 6, 10, 11, 12, 13, 81]
  | 14 => [3, 4, 5, 6, 10, 11, 12, 13]
  | 15 => [3, 4, 5, 6, 10, 11, 12, 108]
  | 16 => [2]
  | 11 => [3, 4, 5, 6, 10, 11, 12]
  | 17 => [2]
  | _ => []
def live4 : Nat → List Nat
  | 0 => [0, 1]
  | 1 => [0, 1, 28]
  | 2 => [4]
  | 3 => [1, 5, 6]
  | 4 => [5, 6, 8, 9]
  | 5 => [5, 6, 8, 9, 10, 11]
  | 6 => [5, 6, 10, 11, 13]
  | 7 => [5, 6, 10, 11, 13, 60]
  | 8 => [4]
  | 9 => [5, 14]
  | 10 => [5, 14, 75]
  | 11 => [4]
  | 12 => [5, 14, 16]
  | 13 => [5, 14, 16, 80]
  | 15 => [5, 14, 16, 17, 18]
  | 16 => [5, 14, 16, 17, 18, 19, 20]
  | 17 => [5, 14, 16, 113]
  | 18 => [4]
  | 14 => [5, 14, 16]
  | 19 => [4]
  | _ => []
def live5 : Nat → List Nat
  | 0 => [0]
  | 1 => [0, 11]
  | 2 => [2]
  | 3 => [3, 4]
  | 4 => [3, 4, 5, 6]
  | 5 => [3, 4, 5, 6, 7, 8]
  | 6 => [3, 4, 5, 6, 7, 8, 41]
  | 7 => [2]
  | 8 => [2]
  | _ => []
def live6 : Nat → List Nat
  | 0 => [0]
  | 1 => [0, 14]
  | 2 => [2]
  | 3 => [3, 4]
  | 4 => [3, 4, 5, 6]
  | 5 => [3, 4, 5, 6, 7, 8]
  | 6 => [3, 4, 5, 6, 40]
  | 7 => [2]
  | 8 => [3, 4, 5, 42]
  | 9 => [2]
  | 10 => [3, 4, 5, 9]
  | 11 => [3, 4, 5, 9, 56]
  | 13 => [3, 4, 5, 9, 11]
  | 14 => [3, 4, 5, 9, 72]
  | 15 => [2]
  | 12 => [3, 4, 5, 9]
  | 16 => [2]
  | _ => []
def live7 : Nat → List Nat
  | 0 => [0]
  | 1 => [0, 14]
  | 2 => [2]
  | 3 => [3, 4]
  | 4 => [3, 4, 5]
  | 5 => [3, 4, 5, 6]
  | 6 => [3, 4, 5, 6, 30]
  | 7 => [2]
  | 8 => [3, 4, 5, 6, 7]
  | 9 => [3, 4, 5, 6, 7, 34]
  | 11 => [3, 4, 5, 6, 7, 45]
  | 12 => [2]
  | 10 => [3, 4, 5, 6, 7]
  | 13 => [3, 4, 5, 53]
  | 14 => [2]
  | 15 => [3, 4, 8, 9]
  | 16 => [3, 4, 8, 9, 10]
  | 17 => [3, 4, 8, 9, 10, 65]
  | 19 => [3, 4, 8, 9, 10, 11]
  | 20 => [3, 4, 8, 9, 10, 104]
  | 21 => [2]
  | 18 => [3, 4, 8, 9, 10]
  | 22 => [2]
  | _ => []
def live8 : Nat → List Nat
  | 0 => [0, 2, 3]
  | 1 => [2, 3, 5]
  | 2 => [2, 3, 5, 6]
  | 3 => [2, 3, 5, 6, 7]
  | 4 => [2, 3, 5, 6, 7, 23]
  | 5 => [2, 3, 4]
  | 6 => [2, 3, 4]
  | _ => []
def live9 : Nat → List Nat
  | 0 => [3, 4, 5, 6]
  | 1 => [3, 4, 5, 6, 8]
  | 2 => [6, 7]
  | _ => []
def live10 : Nat → List Nat
  | 0 => [2, 3, 4, 6]
  | 1 => [2, 3, 4, 6, 12]
  | 2 => [6, 7]
  | 3 => [2, 3, 4, 6, 31]
  | 4 => [6, 7]
  | 5 => [2, 3, 4, 6, 8]
  | 6 => [2, 3, 4, 6, 8, 9]
  | 7 => [2, 3, 4, 6, 8, 9, 41]
  | 9 => [2, 3, 4, 6, 8, 9, 48]
  | 10 => [2, 3, 4, 6, 8, 9]
  | 8 => [2, 3, 4, 6, 8, 9]
  | 11 => [6, 7]
  | _ => []
def live11 : Nat → List Nat
  | 0 => [2, 3]
  | 1 => [4]
  | _ => []
def live12 : Nat → List Nat
  | 0 => [2, 3]
  | 1 => [2, 3, 15]
  | 2 => [4, 5]
  | 3 => [4, 5]
  | _ => []
def live13 : Nat → List Nat
  | 0 => [0, 1]
  | 1 => [0, 1, 5]
  | 2 => [0, 1, 5, 9]
  | 4 => [0, 1, 5, 27]
  | 5 => [4]
  | 3 => [0, 1, 5]
  | 6 => [4]
  | _ => []
def live14 : Nat → List Nat
  | 0 => [1]
  | 1 => [1, 27]
  | 2 => [2]
  | 3 => [1, 3, 4]
  | 4 => [1, 3, 4, 34]
  | 5 => [1, 3, 4, 34, 35]
  | 6 => [1, 3, 4, 5, 34]
  | 7 => [1, 3, 4, 34, 52]
  | 8 => [2]
  | 9 => [1, 3, 4, 34]
  | 10 => [2]
  | _ => []
def live15 : Nat → List Nat
  | 0 => [3, 4, 5]
  | 1 => [3, 4, 5, 7]
  | 2 => [3, 4, 5, 7, 13]
  | 4 => [3, 4, 5, 7, 25]
  | 5 => [3, 4, 5, 7, 8, 9]
  | 6 => [3, 4, 5, 7, 8, 9, 10, 11]
  | 7 => [3, 4, 5, 7, 58]
  | 8 => [6]
  | 3 => [3, 4, 5, 7]
  | 9 => [6]
  | _ => []
def live16 : Nat → List Nat
  | 0 => [0, 2, 3]
  | 1 => [2, 3]
  | _ => []
def live17 : Nat → List Nat
  | 0 => [2, 3, 4]
  | 1 => [2, 3, 4, 6]
  | 2 => [4, 5]
  | _ => []
def live18 : Nat → List Nat
  | 0 => [0, 1]
  | 1 => [0, 1, 10]
  | 2 => [4]
  | 3 => [0, 1, 5]
  | 4 => [0, 1, 5, 14]
  | 6 => [0, 1, 5, 25]
  | 7 => [4]
  | 5 => [0, 1, 5]
  | 8 => [4]
  | _ => []
def live19 : Nat → List Nat
  | 0 => [2, 3, 4]
  | 1 => [4, 5]
  | _ => []
def live20 : Nat → List Nat
  | 0 => [2, 3, 4]
  | 1 => [2, 3, 4, 8]
  | 2 => [4, 5]
  | 3 => [2, 3, 4, 12]
  | 4 => [4, 5]
  | 5 => [4, 5]
  | _ => []
def live21 : Nat → List Nat
  | 0 => [2, 3]
  | 1 => [2, 3, 17]
  | 2 => [4]
  | 3 => [2, 3, 5]
  | 4 => [2, 3, 5, 20, 21, 22]
  | 5 => [2, 3, 5, 20, 21, 22, 23]
  | 6 => [2, 3, 5, 7, 20, 21, 22]
  | 7 => [2, 3, 5, 8, 9, 20, 21, 22]
  | 8 => [2, 3, 5, 8, 20, 21, 22, 32]
  | 9 => [2, 3, 5, 20, 21, 22]
  | 10 => [2, 3, 5, 20, 21, 22]
  | 11 => [4]
  | _ => []
def live22 : Nat → List Nat
  | 0 => [0, 2, 3]
  | 1 => [2, 3]
  | _ => []
def live23 : Nat → List Nat
  | 0 => [2, 3, 4]
  | 1 => [2, 3, 4, 8]
  | 2 => [4, 5]
  | 3 => [2, 3, 4, 19]
  | 4 => [4, 5]
  | 5 => [4, 5]
  | _ => []
def live24 : Nat → List Nat
  | 0 => [1]
  | 1 => [1, 25]
  | 2 => [2]
  | 3 => [1, 3]
  | 4 => [1, 3, 30]
  | 6 => [1, 3, 50]
  | 7 => [2]
  | 5 => [1, 3]
  | 8 => [2]
  | _ => []
def live25 : Nat → List Nat
  | 0 => [0, 2]
  | 1 => [2]
  | _ => []
def live26 : Nat → List Nat
  | 0 => [0, 2, 3]
  | 1 => [2, 3]
  | _ => []
def live27 : Nat → List Nat
  | 0 => [2, 3]
  | 1 => [2, 3, 12]
  | 2 => [4]
  | 3 => [4]
  | _ => []
def live28 : Nat → List Nat
  | 0 => [1]
  | 1 => [2]
  | _ => []
def live29 : Nat → List Nat
  | 0 => [0, 1]
  | 1 => [0, 1, 13]
  | 2 => [4, 5]
  | 3 => [0, 1, 6]
  | 4 => [0, 6, 15, 16, 17]
  | 5 => [0, 6, 15, 16, 17, 18]
  | 6 => [0, 6, 8, 15, 16, 17]
  | 7 => [0, 9, 10, 15, 16, 17]
  | 8 => [0, 9, 15, 16, 17, 31]
  | 9 => [4, 5]
  | 10 => [0, 6, 15, 16, 17]
  | 11 => [0, 6, 15, 16, 17]
  | 12 => [4, 5]
  | _ => []
def live30 : Nat → List Nat
  | 0 => [0]
  | 1 => [0, 5]
  | 2 => [0]
  | 3 => [2]
  | _ => []
def live31 : Nat → List Nat
  | 0 => [0, 3, 4]
  | 1 => [0, 4, 5]
  | 2 => [0, 4, 5, 9]
  | 3 => [0, 4, 5, 9, 10]
  | 4 => [4, 5]
  | 5 => [0, 4, 5, 9, 15]
  | 6 => [4, 5]
  | 7 => [0, 4, 5, 9, 20]
  | 8 => [4, 5]
  | 9 => [0, 4, 5, 9, 29]
  | 10 => [4, 5]
  | 11 => [0, 4, 5, 34]
  | 12 => [0, 4, 5, 39]
  | 13 => [4, 5]
  | 14 => [4]
  | _ => []
def live32 : Nat → List Nat
  | 0 => [0, 2]
  | 1 => [0, 2, 3]
  | 2 => [0, 2, 3, 4]
  | 3 => [0, 2, 3, 4, 11]
  | 5 => [0, 2, 3, 4, 5]
  | 6 => [0, 2, 3, 4, 5, 17]
  | 8 => [0, 2, 3, 4, 5, 17, 27]
  | 9 => [0, 2, 3, 4]
  | 10 => [0, 2, 3, 4, 5, 17, 35]
  | 11 => [0, 2, 3, 4]
  | 12 => [0, 2, 3, 4, 5, 17, 43]
  | 13 => [0, 2, 3, 4, 5, 43]
  | 14 => [0, 2, 3, 4]
  | 7 => [0, 2, 3, 4]
  | 4 => [0, 2, 3, 4]
  | 15 => [2]
  | _ => []
def live33 : Nat → List Nat
  | 0 => [0, 2]
  | 1 => [0, 2, 3]
  | 2 => [2, 3, 7]
  | 3 => [2, 3, 7, 8]
  | 4 => [2, 3]
  | 5 => [2, 3, 7, 13]
  | 6 => [2, 3]
  | 7 => [2, 3, 7, 16]
  | 8 => [2, 3]
  | 9 => [2, 3, 19]
  | 10 => [2]
  | 11 => [2]
  | _ => []
def live34 : Nat → List Nat
  | 0 => [0, 1]
  | 1 => [0, 1]
  | 2 => [0, 1, 24]
  | 3 => [4]
  | 4 => [0, 1, 5]
  | 5 => [0, 1, 5, 36]
  | 6 => [4]
  | 7 => [1, 6]
  | 8 => [1, 6]
  | 9 => [4]
  | _ => []
def live35 : Nat → List Nat
  | 0 => [0]
  | 1 => [0, 5]
  | 2 => [2]
  | 3 => [2]
  | _ => []
def live36 : Nat → List Nat
  | 0 => [0, 3]
  | 1 => [0, 3, 5]
  | 2 => [0, 3, 5, 13]
  | 3 => [0, 3, 5]
  | 4 => [4]
  | _ => []
def live37 : Nat → List Nat
  | 0 => [1]
  | 1 => [2]
  | _ => []
def live38 : Nat → List Nat
  | 0 => [0]
  | 1 => [0, 6, 7]
  | 2 => [0, 6, 7, 8]
  | 3 => [0, 3, 6, 7]
  | 4 => [0, 4, 6, 7]
  | 5 => [0, 6, 7, 30]
  | 6 => [2]
  | 7 => [0, 6, 7]
  | 8 => [2]
  | _ => []
def live39 : Nat → List Nat
  | 0 => [1, 2, 3, 6]
  | 1 => [1, 2, 3, 6, 14]
  | 2 => [6, 7]
  | 3 => [2, 3, 6, 17]
  | 4 => [6, 7]
  | 5 => [2, 3, 6, 8]
  | 6 => [3, 6, 8, 9, 10]
  | 7 => [3, 6, 11]
  | 8 => [3, 6, 11, 44]
  | 9 => [6, 7]
  | 10 => [6, 7]
  | _ => []
def live40 : Nat → List Nat
  | 0 => [0, 3, 4, 6, 7, 8, 9]
  | 1 => [0, 3, 4, 6, 7, 8, 9, 10]
  | 2 => [0, 3, 4, 6, 7, 8, 9, 10, 16]
  | 4 => [0, 3, 4, 6, 7, 8, 9, 10, 22]
  | 5 => [0, 3, 4, 6, 7, 8, 9, 10]
  | 3 => [0, 3, 4, 6, 7, 8, 9, 10]
  | 6 => [8, 9]
  | _ => []
def live41 : Nat → List Nat
  | 0 => [2, 3, 4, 6]
  | 1 => [2, 3, 6, 9, 10]
  | 2 => [2, 3, 6, 9, 10, 11]
  | 3 => [2, 3, 6, 7, 8, 9, 10]
  | 4 => [2, 3, 6, 7, 9, 10, 14]
  | 5 => [2, 3, 6, 9, 10]
  | 6 => [2, 3, 6, 9, 10]
  | 7 => [6]
  | _ => []
def live42 : Nat → List Nat
  | 0 => [0, 2]
  | 1 => [0, 2, 3]
  | 2 => [2, 3, 7, 8, 9]
  | 3 => [2, 3, 7, 8, 9, 10]
  | 4 => [2, 3, 5, 7, 8, 9]
  | 5 => [2, 3, 5, 6, 7, 8, 9]
  | 6 => [2, 3, 5, 6, 7, 8, 9, 18]
  | 8 => [2, 3, 5, 6, 7, 8, 9]
  | 7 => [2, 3, 5, 6, 7, 8, 9]
  | 9 => [2, 3, 7, 8, 9]
  | 10 => [2]
  | _ => []
def live43 : Nat → List Nat
  | 0 => [0]
  | 1 => [0, 3]
  | 2 => [0, 3, 7]
  | 4 => [0, 3, 14]
  | 5 => [2]
  | 3 => [0, 3]
  | 6 => [2]
  | _ => []
def live44 : Nat → List Nat
  | 0 => [1, 2]
  | 1 => [2]
  | _ => []
def live45 : Nat → List Nat
  | 0 => [0, 1]
  | 1 => [0, 1, 5]
  | 2 => [0, 1, 5, 9]
  | 4 => [0, 1, 5, 27]
  | 5 => [4]
  | 3 => [0, 1, 5]
  | 6 => [4]
  | _ => []
def live46 : Nat → List Nat
  | 0 => [0, 2, 4]
  | 1 => [6]
  | _ => []
def live47 : Nat → List Nat
  | 0 => [2, 3, 4]
  | 1 => [2, 3, 4, 8]
  | 2 => [4, 5]
  | 3 => [4, 5]
  | _ => []
def live48 : Nat → List Nat
  | 0 => [0, 3]
  | 1 => [3, 5]
  | 2 => [3, 5, 6]
  | 3 => [3, 5, 6, 14]
  | 5 => [3, 5, 6]
  | 4 => [3, 5, 6]
  | 6 => [4]
  | _ => []
def live49 : Nat → List Nat
  | 0 => [0, 1]
  | 1 => [0, 1, 10]
  | 2 => [4]
  | 3 => [0, 1, 12, 13]
  | 4 => [0, 1, 12, 13, 14]
  | 5 => [0, 1, 5, 12, 13]
  | 6 => [0, 1, 12, 13, 24]
  | 7 => [4]
  | 8 => [0, 1, 12, 13]
  | 9 => [4]
  | _ => []
def live50 : Nat → List Nat
  | 0 => [0, 3]
  | 1 => [0, 3, 12]
  | 2 => [4]
  | 3 => [4]
  | _ => []
def live51 : Nat → List Nat
  | 0 => [0]
  | 1 => [0, 5, 6, 7]
  | 2 => [0, 5, 6, 7, 8]
  | 3 => [0, 3, 4, 5, 6, 7]
  | 4 => [0, 5, 6, 7, 29]
  | 5 => [2]
  | 6 => [0, 5, 6, 7]
  | 7 => [2]
  | _ => []
def live52 : Nat → List Nat
  | 0 => [0, 2, 3]
  | 1 => [2, 3, 4]
  | 2 => [2, 3, 4, 5]
  | 3 => [2, 3]
  | _ => []
def live53 : Nat → List Nat
  | 0 => [0, 3, 5, 6, 7, 8]
  | 1 => [0, 3, 5, 6, 7, 8, 9]
  | 2 => [0, 3, 5, 6, 7, 8, 9, 15]
  | 4 => [0, 3, 5, 6, 7, 8, 9]
  | 3 => [0, 3, 5, 6, 7, 8, 9]
  | 5 => [7, 8]
  | _ => []
def live54 : Nat → List Nat
  | 0 => [3, 5, 6, 7, 8]
  | 1 => [7, 8]
  | _ => []
def live55 : Nat → List Nat
  | 0 => [0, 3]
  | 1 => [3, 5]
  | 2 => [3, 5, 6]
  | 3 => [3, 5, 6, 14]
  | 5 => [3, 5, 6]
  | 4 => [3, 5, 6]
  | 6 => [4]
  | _ => []
def live56 : Nat → List Nat
  | 0 => [2, 3, 4]
  | 1 => [2, 3, 4, 6]
  | 2 => [4, 6, 30]
  | 3 => [4, 5]
  | 4 => [4, 5]
  | _ => []
def live57 : Nat → List Nat
  | 0 => [2, 3]
  | 1 => [2, 3, 5]
  | 2 => [2, 3, 5, 6]
  | 3 => [2, 3, 5, 6, 14]
  | 5 => [2, 3, 5, 6, 7, 8]
  | 6 => [2, 3, 5, 6, 7, 27]
  | 7 => [2, 3, 5, 6]
  | 4 => [2, 3, 5, 6]
  | 8 => [4]
  | _ => []
def live58 : Nat → List Nat
  | 0 => [0]
  | 1 => [2]
  | _ => []
def live59 : Nat → List Nat
  | 0 => [0]
  | 1 => [0, 3]
  | 2 => [0, 3, 7]
  | 4 => [0, 3, 33]
  | 5 => [2]
  | 3 => [0, 3]
  | 6 => [2]
  | _ => []
def live60 : Nat → List Nat
  | 0 => [0, 1, 2]
  | 1 => [0, 1, 2, 11]
  | 2 => [6, 7]
  | 3 => [0, 1, 2, 33]
  | 4 => [6, 7]
  | 5 => [0, 1, 2, 8]
  | 6 => [6, 7]
  | _ => []
def live61 : Nat → List Nat
  | 0 => [0]
  | 1 => [0, 3]
  | 2 => [3, 10]
  | 3 => [3, 10, 11]
  | 4 => [2]
  | 5 => [3, 10, 15]
  | 6 => [2]
  | 7 => [3, 19]
  | 8 => [2]
  | 9 => [2]
  | _ => []
def live62 : Nat → List Nat
  | 0 => [0]
  | 1 => [0, 3]
  | 2 => [0, 3, 4]
  | 3 => [0, 3, 4, 16]
  | 4 => [2]
  | 5 => [0, 3, 4, 5]
  | 6 => [0, 3, 4, 5, 22]
  | 9 => [0, 3, 4, 5, 22, 34]
  | 10 => [3]
  | 11 => [3, 4, 5, 22, 41]
  | 12 => [3]
  | 13 => [3, 4, 5, 50]
  | 14 => [3]
  | 7 => [3, 4, 25]
  | 8 => [3, 4]
  | 15 => [2]
  | _ => []
def live63 : Nat → List Nat
  | 0 => [0, 2]
  | 1 => [0, 2, 3]
  | 2 => [2]
  | _ => []
def live64 : Nat → List Nat
  | 0 => [0, 1]
  | 1 => [4]
  | _ => []
def live65 : Nat → List Nat
  | 0 => [0]
  | 1 => [0]
  | _ => []
def live66 : Nat → List Nat
  | 0 => [0, 1]
  | 1 => [4]
  | _ => []
def live67 : Nat → List Nat
  | 0 => [1, 2, 3, 6]
  | 1 => [1, 2, 3, 6, 11]
  | 2 => [6, 7]
  | 3 => [1, 2, 3, 6, 34]
  | 4 => [6, 7]
  | 5 => [2, 3, 6, 8]
  | 6 => [6, 7]
  | _ => []
def live68 : Nat → List Nat
  | 0 => [0, 1]
  | 1 => [0, 1, 8]
  | 2 => [0, 1]
  | 3 => [4]
  | _ => []
def live69 : Nat → List Nat
  | 0 => [0, 1]
  | 1 => [0, 1, 5]
  | 2 => [0, 5, 6]
  | 3 => [0, 5, 6, 12]
  | 5 => [0, 5, 6]
  | 4 => [0, 5, 6]
  | 6 => [4]
  | _ => []
def live70 : Nat → List Nat
  | 0 => [1, 2]
  | 1 => [2]
  | _ => []
def live71 : Nat → List Nat
  | 0 => [1]
  | 1 => [1, 3]
  | 2 => [1, 3, 4]
  | 3 => [1, 3, 4, 8]
  | 5 => [1, 3, 4, 14]
  | 6 => [1, 3, 4, 5]
  | 7 => [1, 3, 4, 5, 22]
  | 8 => [1, 3, 4, 5]
  | 9 => [1, 3, 4]
  | 4 => [1, 3, 4]
  | 10 => [2]
  | _ => []
def live72 : Nat → List Nat
  | 0 => [0]
  | 1 => [2]
  | _ => []
def live73 : Nat → List Nat
  | 0 => [0]
  | 1 => [0, 3]
  | 2 => [0, 3, 4]
  | 3 => [0, 3, 4, 7]
  | 5 => [0, 3, 4]
  | 4 => [0, 3, 4]
  | 6 => [2]
  | _ => []
def live74 : Nat → List Nat
  | 0 => [0]
  | 1 => [0, 3]
  | 2 => [0, 3, 4]
  | 3 => [0, 3, 4, 10]
  | 5 => [0, 3, 4, 5]
  | 7 => [0, 3, 4, 5, 22]
  | 8 => [0, 3, 4, 5, 28]
  | 9 => [0, 3, 4]
  | 6 => [0, 3, 4]
  | 4 => [0, 3, 4]
  | 10 => [2]
  | _ => []
def live75 : Nat → List Nat
  | 0 => [2, 3, 4]
  | 1 => [2, 4, 7, 8]
  | 2 => [2, 4, 7, 8, 9]
  | 3 => [2, 4, 5, 6, 7, 8]
  | 4 => [2, 4, 7, 8]
  | 5 => [2, 4, 7, 8]
  | 6 => [4]
  | _ => []
def live76 : Nat → List Nat
  | 0 => [0, 3, 4]
  | 1 => [0, 4, 5]
  | 2 => [0, 4, 5, 21]
  | 3 => [0, 4, 6]
  | 4 => [4]
  | 5 => [4]
  | _ => []
def live77 : Nat → List Nat
  | 0 => [2, 3, 4]
  | 1 => [4, 6]
  | 2 => [4, 6, 22]
  | 3 => [4, 5]
  | 4 => [4, 5]
  | _ => []
def live78 : Nat → List Nat
  | 0 => [0, 1]
  | 1 => [0, 1, 8]
  | 2 => [4]
  | 3 => [4]
  | _ => []
def live79 : Nat → List Nat
  | 0 => [0]
  | 1 => [0, 3]
  | 2 => [0, 3, 4]
  | 3 => [0, 3, 4, 12]
  | 5 => [0, 3, 4, 5]
  | 6 => [0, 3, 4, 5, 21]
  | 7 => [0, 3, 4, 5]
  | 8 => [0, 3, 4, 5, 27]
  | 9 => [0, 3, 4]
  | 4 => [0, 3, 4]
  | 10 => [0, 3, 31]
  | 11 => [0, 3]
  | 12 => [0, 3, 6]
  | 13 => [0, 3, 6, 37]
  | 15 => [0, 3, 6]
  | 14 => [0, 3, 6]
  | 16 => [2]
  | _ => []
def live80 : Nat → List Nat
  | 0 => [0, 1]
  | 1 => [0, 1, 7]
  | 2 => [4]
  | 3 => [4]
  | _ => []
def live81 : Nat → List Nat
  | 0 => [0]
  | 1 => [0, 4]
  | 2 => [2]
  | 3 => [2]
  | _ => []
def live82 : Nat → List Nat
  | 0 => [0, 1]
  | 1 => [0, 1, 7]
  | 2 => [4]
  | 3 => [4]
  | _ => []
def live85 : Nat → List Nat
  | 0 => [0, 1]
  | 1 => [4]
  | _ => []
def live92 : Nat → List Nat
  | 0 => [0, 1]
  | 1 => [4]
  | _ => []
def liveT : Nat → Nat → List Nat
  | 3 => live3
  | 4 => live4
  | 5 => live5
  | 6 => live6
  | 7 => live7
  | 8 => live8
  | 9 => live9
  | 10 => live10
  | 11 => live11
  | 12 => live12
  | 13 => live13
  | 14 => live14
  | 15 => live15
  | 16 => live16
  | 17 => live17
  | 18 => live18
  | 19 => live19
  | 20 => live20
  | 21 => live21
  | 22 => live22
  | 23 => live23
  | 24 => live24
  | 25 => live25
  | 26 => live26
  | 27 => live27
  | 28 => live28
  | 29 => live29
  | 30 => live30
  | 31 => live31
  | 32 => live32
  | 33 => live33
  | 34 => live34
  | 35 => live35
  | 36 => live36
  | 37 => live37
  | 38 => live38
  | 39 => live39
  | 40 => live40
  | 41 => live41
  | 42 => live42
  | 43 => live43
  | 44 => live44
  | 45 => live45
  | 46 => live46
  | 47 => live47
  | 48 => live48
  | 49 => live49
  | 50 => live50
  | 51 => live51
  | 52 => live52
  | 53 => live53
  | 54 => live54
  | 55 => live55
  | 56 => live56
  | 57 => live57
  | 58 => live58
  | 59 => live59
  | 60 => live60
  | 61 => live61
  | 62 => live62
  | 63 => live63
  | 64 => live64
  | 65 => live65
  | 66 => live66
  | 67 => live67
  | 68 => live68
  | 69 => live69
  | 70 => live70
  | 71 => live71
  | 72 => live72
  | 73 => live73
  | 74 => live74
  | 75 => live75
  | 76 => live76
  | 77 => live77
  | 78 => live78
  | 79 => live79
  | 80 => live80
  | 81 => live81
  | 82 => live82
  | 85 => live85
  | 92 => live92
  | _ => fun _ => []
def conf3 : Nat → List (Nat × Nat)
  | 15 => [(16, 17), (16, 18), (16, 19)]
  | _ => []
def anc3 : Nat → List Nat
  | 15 => [0, 1, 3, 7, 7, 7, 39, 119, 255, 7, 1023, 2047, 4095, 8191, 16383, 8191, 65535, 8191, 139263, 8191, 1048575, 2097151, 4194303]
  | _ => []
def conf4 : Nat → List (Nat × Nat)
  | _ => []
def anc4 : Nat → List Nat
  | 15 => [0, 0, 2, 0, 14, 30, 63, 127, 255, 255, 511, 2047]
  | 16 => [0, 0, 2, 0, 14, 30, 63, 127, 255, 255, 511, 2047]
  | _ => []
def conf5 : Nat → List (Nat × Nat)
  | _ => []
def anc5 : Nat → List Nat
  | _ => []
def conf6 : Nat → List (Nat × Nat)
  | 13 => [(0, 2)]
  | _ => []
def anc6 : Nat → List Nat
  | 13 => [0, 0, 2, 7, 15, 31, 31, 63, 255]
  | _ => []
def conf7 : Nat → List (Nat × Nat)
  | _ => []
def anc7 : Nat → List Nat
  | 11 => [0, 0, 3, 7, 0, 0, 48, 112, 255]
  | 20 => [0, 1, 3, 3, 15, 3, 35, 3, 227, 511, 1023, 2047, 4095, 8191, 16383, 32767, 32767, 131071, 262143, 524287, 1048575]
  | _ => []
def conf8 : Nat → List (Nat × Nat)
  | 5 => [(0, 3), (1, 3), (1, 4)]
  | 6 => [(0, 4), (1, 4), (1, 5)]
  | _ => []
def anc8 : Nat → List Nat
  | 5 => [0, 0, 0, 4, 13, 31, 63]
  | 6 => [0, 0, 0, 0, 12, 29, 63, 127]
  | _ => []
def conf9 : Nat → List (Nat × Nat)
  | _ => []
def anc9 : Nat → List Nat
  | _ => []
def conf10 : Nat → List (Nat × Nat)
  | 11 => [(0, 5), (1, 5), (5, 6), (5, 7), (0, 8)]
  | _ => []
def anc10 : Nat → List Nat
  | 11 => [0, 0, 0, 4, 0, 28, 0, 64, 254, 511, 1023, 1023, 4095, 8191]
  | _ => []
def conf11 : Nat → List (Nat × Nat)
  | _ => []
def anc11 : Nat → List Nat
  | _ => []
def conf12 : Nat → List (Nat × Nat)
  | _ => []
def anc12 : Nat → List Nat
  | _ => []
def conf13 : Nat → List (Nat × Nat)
  | _ => []
def anc13 : Nat → List Nat
  | _ => []
def conf14 : Nat → List (Nat × Nat)
  | 3 => [(2, 3), (2, 4), (0, 6), (1, 6), (2, 6), (3, 6), (4, 6), (5, 6), (0, 7), (1, 7), (2, 7), (3, 7), (4, 7), (5, 7), (6, 7)]
  | _ => []
def anc14 : Nat → List Nat
  | 3 => [0, 1, 3, 0, 8, 31, 0, 0, 255, 511]
  | _ => []
def conf15 : Nat → List (Nat × Nat)
  | 5 => [(0, 2)]
  | 6 => [(0, 2)]
  | 7 => [(12, 13), (12, 14), (12, 15)]
  | _ => []
def anc15 : Nat → List Nat
  | 5 => [0, 0, 2, 7, 15, 31, 31, 63, 255]
  | 6 => [0, 0, 2, 7, 15, 31, 31, 63, 255]
  | 7 => [0, 0, 3, 7, 15, 15, 63, 127, 255, 511, 1023, 511, 4095, 511, 8703, 511, 65535, 131071, 262143]
  | _ => []
def conf16 : Nat → List (Nat × Nat)
  | _ => []
def anc16 : Nat → List Nat
  | _ => []
def conf17 : Nat → List (Nat × Nat)
  | _ => []
def anc17 : Nat → List Nat
  | _ => []
def conf18 : Nat → List (Nat × Nat)
  | _ => []
def anc18 : Nat → List Nat
  | 6 => [0, 0, 3, 7, 0, 0, 48, 112, 255]
  | _ => []
def conf19 : Nat → List (Nat × Nat)
  | 1 => [(0, 2), (0, 3), (1, 3), (2, 3)]
  | _ => []
def anc19 : Nat → List Nat
  | 1 => [0, 0, 2, 0, 15, 31, 31, 127, 255]
  | _ => []
def conf20 : Nat → List (Nat × Nat)
  | 5 => [(0, 8), (1, 8), (2, 8), (3, 8), (4, 8), (0, 9)]
  | _ => []
def anc20 : Nat → List Nat
  | 5 => [0, 0, 2, 0, 8, 0, 32, 0, 224, 510, 1023, 2047, 2047, 8191, 16383]
  | _ => []
def conf21 : Nat → List (Nat × Nat)
  | 9 => [(0, 9), (1, 9), (2, 9), (0, 10), (0, 11)]
  | _ => []
def anc21 : Nat → List Nat
  | 9 => [0, 0, 2, 0, 8, 0, 32, 0, 128, 504, 1022, 2046, 4095, 8191]
  | _ => []
def conf22 : Nat → List (Nat × Nat)
  | _ => []
def anc22 : Nat → List Nat
  | _ => []
def conf23 : Nat → List (Nat × Nat)
  | 5 => [(0, 9), (1, 9), (2, 9), (3, 9), (0, 10), (9, 11), (10, 11), (9, 12), (10, 12), (9, 13), (10, 13), (0, 14), (9, 15), (10, 15), (14, 15), (9, 16), (10, 16), (14, 16), (0, 17)]
  | _ => []
def anc23 : Nat → List Nat
  | 5 => [0, 0, 2, 0, 0, 16, 0, 64, 240, 496, 1022, 0, 2048, 0, 16382, 0, 32768, 131070, 262143, 524287, 524287, 2097151, 4194303]
  | _ => []
def conf24 : Nat → List (Nat × Nat)
  | _ => []
def anc24 : Nat → List Nat
  | _ => []
def conf25 : Nat → List (Nat × Nat)
  | _ => []
def anc25 : Nat → List Nat
  | _ => []
def conf26 : Nat → List (Nat × Nat)
  | _ => []
def anc26 : Nat → List Nat
  | _ => []
def conf27 : Nat → List (Nat × Nat)
  | _ => []
def anc27 : Nat → List Nat
  | _ => []
def conf28 : Nat → List (Nat × Nat)
  | _ => []
def anc28 : Nat → List Nat
  | _ => []
def conf29 : Nat → List (Nat × Nat)
  | _ => []
def anc29 : Nat → List Nat
  | _ => []
def conf30 : Nat → List (Nat × Nat)
  | _ => []
def anc30 : Nat → List Nat
  | _ => []
def conf31 : Nat → List (Nat × Nat)
  | 8 => [(0, 3), (1, 3), (0, 4), (1, 4)]
  | 13 => [(0, 2), (1, 2), (2, 3), (0, 4), (1, 4), (2, 4), (3, 4), (0, 5), (1, 5), (2, 5)]
  | _ => []
def anc31 : Nat → List Nat
  | 8 => [0, 1, 0, 4, 12, 31, 63, 127]
  | 13 => [0, 1, 0, 0, 0, 24, 63, 127, 255]
  | _ => []
def conf32 : Nat → List (Nat × Nat)
  | 14 => [(0, 4), (1, 4), (8, 9)]
  | 7 => [(0, 2), (2, 3), (0, 4), (8, 9)]
  | _ => []
def anc32 : Nat → List Nat
  | 14 => [0, 0, 0, 0, 12, 31, 63, 127, 127, 255]
  | 7 => [0, 0, 2, 0, 14, 31, 63, 127, 127, 255]
  | _ => []
def conf33 : Nat → List (Nat × Nat)
  | _ => []
def anc33 : Nat → List Nat
  | _ => []
def conf34 : Nat → List (Nat × Nat)
  | 7 => [(13, 15), (13, 16), (13, 17), (13, 18), (13, 19), (13, 20), (13, 21), (13, 22), (13, 23), (13, 24), (13, 25), (13, 26), (13, 27), (13, 28), (13, 29), (0, 30), (1, 30), (2, 30), (3, 30), (4, 30), (5, 30), (6, 30), (7, 30), (8, 30), (9, 30), (10, 30), (11, 30), (12, 30), (13, 30), (14, 30), (13, 31), (13, 33), (30, 33), (13, 34), (30, 34), (13, 36), (30, 36), (13, 37), (30, 37), (13, 38), (30, 38), (13, 39), (30, 39), (13, 40), (30, 40), (13, 41), (30, 41), (13, 42), (30, 42), (13, 43), (30, 43)]
  | _ => []
def anc34 : Nat → List Nat
  | 7 => [0, 1, 3, 7, 0, 0, 32, 96, 224, 480, 1008, 2047, 4095, 8191, 16383, 0, 32768, 98304, 229376, 0, 524288, 1572864, 0, 4194304, 12582912, 29360128, 62914560, 133693440, 268402688, 536838144, 1073709056, 2147450880, 4294967295, 0, 8589934592, 34359738367, 0, 0, 137438953472, 412316860416, 962072674304, 2061584302080, 4329327034368, 8727373545472, 17592186044415, 35184372088831]
  | _ => []
def conf35 : Nat → List (Nat × Nat)
  | _ => []
def anc35 : Nat → List Nat
  | _ => []
def conf36 : Nat → List (Nat × Nat)
  | _ => []
def anc36 : Nat → List Nat
  | _ => []
def conf37 : Nat → List (Nat × Nat)
  | _ => []
def anc37 : Nat → List Nat
  | _ => []
def conf38 : Nat → List (Nat × Nat)
  | _ => []
def anc38 : Nat → List Nat
  | _ => []
def conf39 : Nat → List (Nat × Nat)
  | 6 => [(0, 4), (1, 4), (4, 5), (4, 6), (0, 7), (1, 7), (0, 12), (1, 12), (2, 12), (3, 12), (4, 12), (5, 12), (6, 12), (7, 12), (8, 12), (9, 12), (10, 12), (11, 12), (0, 13), (1, 13), (2, 13), (3, 13), (4, 13), (5, 13), (6, 13), (7, 13), (8, 13), (9, 13), (10, 13), (11, 13), (12, 13), (11, 14)]
  | 7 => [(1, 2), (0, 3), (1, 3), (1, 4), (3, 4), (0, 5), (1, 5), (0, 7), (1, 7), (2, 7), (3, 7), (4, 7), (5, 7), (6, 7)]
  | _ => []
def anc39 : Nat → List Nat
  | 6 => [0, 0, 0, 4, 12, 0, 32, 124, 255, 511, 1023, 1023, 0, 0, 14335, 32767]
  | 7 => [0, 1, 0, 4, 0, 28, 63, 0, 255]
  | _ => []
def conf40 : Nat → List (Nat × Nat)
  | 6 => [(0, 2), (0, 3), (2, 5), (3, 5), (4, 5), (5, 6)]
  | _ => []
def anc40 : Nat → List Nat
  | 6 => [0, 0, 2, 6, 15, 0, 31, 127]
  | _ => []
def conf41 : Nat → List (Nat × Nat)
  | _ => []
def anc41 : Nat → List Nat
  | _ => []
def conf42 : Nat → List (Nat × Nat)
  | _ => []
def anc42 : Nat → List Nat
  | _ => []
def conf43 : Nat → List (Nat × Nat)
  | _ => []
def anc43 : Nat → List Nat
  | _ => []
def conf44 : Nat → List (Nat × Nat)
  | 1 => [(0, 2), (1, 2), (2, 3), (2, 4), (0, 5), (1, 5), (0, 6), (1, 6), (2, 6), (3, 6), (4, 6), (5, 6), (2, 7), (5, 7), (6, 7), (2, 8), (5, 8), (6, 8), (0, 9), (1, 9)]
  | _ => []
def anc44 : Nat → List Nat
  | 1 => [0, 1, 0, 0, 8, 28, 0, 0, 128, 508, 1023, 2047]
  | _ => []
def conf45 : Nat → List (Nat × Nat)
  | _ => []
def anc45 : Nat → List Nat
  | _ => []
def conf46 : Nat → List (Nat × Nat)
  | 1 => [(3, 4), (3, 6), (3, 7), (3, 8), (0, 9), (1, 9), (2, 9), (3, 9), (4, 9), (5, 9)]
  | _ => []
def anc46 : Nat → List Nat
  | 1 => [0, 0, 2, 7, 0, 31, 0, 0, 128, 448, 1023, 2047]
  | _ => []
def conf47 : Nat → List (Nat × Nat)
  | _ => []
def anc47 : Nat → List Nat
  | _ => []
def conf48 : Nat → List (Nat × Nat)
  | _ => []
def anc48 : Nat → List Nat
  | _ => []
def conf49 : Nat → List (Nat × Nat)
  | _ => []
def anc49 : Nat → List Nat
  | 6 => [0, 0, 3, 7, 0, 0, 48, 112, 255]
  | _ => []
def conf50 : Nat → List (Nat × Nat)
  | 3 => [(1, 2), (0, 3), (1, 3), (1, 6), (3, 6), (4, 6), (5, 6), (0, 7), (1, 7), (2, 7), (3, 7), (4, 7), (5, 7)]
  | _ => []
def anc50 : Nat → List Nat
  | 3 => [0, 1, 0, 4, 15, 31, 0, 64, 255, 511, 1023]
  | _ => []
def conf51 : Nat → List (Nat × Nat)
  | _ => []
def anc51 : Nat → List Nat
  | 4 => [0, 1, 3, 7, 15, 31, 63, 127, 127, 383, 1023, 2047, 4095, 127, 8319, 32767, 65535, 131071]
  | _ => []
def conf52 : Nat → List (Nat × Nat)
  | 3 => [(0, 3)]
  | _ => []
def anc52 : Nat → List Nat
  | 3 => [0, 0, 0, 6, 15, 31]
  | _ => []
def conf53 : Nat → List (Nat × Nat)
  | 5 => [(0, 2), (0, 3), (2, 5), (3, 5), (4, 5), (5, 6)]
  | _ => []
def anc53 : Nat → List Nat
  | 5 => [0, 0, 2, 6, 15, 0, 31, 127]
  | _ => []
def conf54 : Nat → List (Nat × Nat)
  | 1 => [(0, 3), (1, 3), (0, 4), (1, 4), (0, 5)]
  | _ => []
def anc54 : Nat → List Nat
  | 1 => [0, 0, 0, 4, 12, 30, 63, 127]
  | _ => []
def conf55 : Nat → List (Nat × Nat)
  | _ => []
def anc55 : Nat → List Nat
  | _ => []
def conf56 : Nat → List (Nat × Nat)
  | _ => []
def anc56 : Nat → List Nat
  | _ => []
def conf57 : Nat → List (Nat × Nat)
  | 5 => [(0, 10), (1, 10), (2, 10), (3, 10), (4, 10), (5, 10), (6, 10), (7, 10), (8, 10), (9, 10), (9, 11)]
  | 7 => [(0, 9), (1, 9), (2, 9), (0, 10), (0, 11)]
  | _ => []
def anc57 : Nat → List Nat
  | 5 => [0, 1, 0, 7, 15, 0, 63, 127, 255, 255, 0, 1535, 4095]
  | 7 => [0, 0, 2, 0, 8, 0, 32, 0, 128, 504, 1022, 2046, 4095, 8191]
  | _ => []
def conf58 : Nat → List (Nat × Nat)
  | _ => []
def anc58 : Nat → List Nat
  | _ => []
def conf59 : Nat → List (Nat × Nat)
  | _ => []
def anc59 : Nat → List Nat
  | 4 => [0, 0, 3, 7, 15, 31, 63, 127, 255, 511, 1023, 1023, 3071, 8191, 16383, 32767, 1023, 1023, 197631, 459775, 984063, 2097151, 4194303, 8388607]
  | _ => []
def conf60 : Nat → List (Nat × Nat)
  | 6 => [(5, 6), (5, 8), (7, 8), (5, 10), (7, 10), (5, 11), (7, 11), (5, 12), (7, 12), (5, 13), (7, 13), (5, 14), (7, 14), (0, 15), (1, 15), (2, 15), (3, 15), (4, 15), (5, 15), (6, 15), (7, 15), (8, 15), (9, 15)]
  | _ => []
def anc60 : Nat → List Nat
  | 6 => [0, 0, 2, 0, 14, 31, 0, 127, 0, 511, 0, 0, 0, 4096, 14336, 31744, 65535, 131071, 262143]
  | _ => []
def conf61 : Nat → List (Nat × Nat)
  | _ => []
def anc61 : Nat → List Nat
  | _ => []
def conf62 : Nat → List (Nat × Nat)
  | _ => []
def anc62 : Nat → List Nat
  | _ => []
def conf63 : Nat → List (Nat × Nat)
  | _ => []
def anc63 : Nat → List Nat
  | _ => []
def conf64 : Nat → List (Nat × Nat)
  | _ => []
def anc64 : Nat → List Nat
  | _ => []
def conf65 : Nat → List (Nat × Nat)
  | _ => []
def anc65 : Nat → List Nat
  | _ => []
def conf66 : Nat → List (Nat × Nat)
  | _ => []
def anc66 : Nat → List Nat
  | _ => []
def conf67 : Nat → List (Nat × Nat)
  | 6 => [(0, 5), (5, 6), (5, 7), (5, 8), (0, 9), (5, 10), (9, 10), (5, 11), (9, 11), (5, 12), (9, 12), (0, 13), (0, 14)]
  | _ => []
def anc67 : Nat → List Nat
  | 6 => [0, 0, 2, 0, 0, 30, 0, 64, 0, 510, 0, 1024, 0, 8190, 16382, 32767, 65535, 65535, 262143, 524287]
  | _ => []
def conf68 : Nat → List (Nat × Nat)
  | _ => []
def anc68 : Nat → List Nat
  | _ => []
def conf69 : Nat → List (Nat × Nat)
  | _ => []
def anc69 : Nat → List Nat
  | _ => []
def conf70 : Nat → List (Nat × Nat)
  | 1 => [(0, 4), (1, 4), (4, 5), (4, 6), (0, 7), (1, 7)]
  | _ => []
def anc70 : Nat → List Nat
  | 1 => [0, 1, 0, 4, 12, 0, 32, 124, 255, 511]
  | _ => []
def conf71 : Nat → List (Nat × Nat)
  | _ => []
def anc71 : Nat → List Nat
  | _ => []
def conf72 : Nat → List (Nat × Nat)
  | _ => []
def anc72 : Nat → List Nat
  | _ => []
def conf73 : Nat → List (Nat × Nat)
  | _ => []
def anc73 : Nat → List Nat
  | _ => []
def conf74 : Nat → List (Nat × Nat)
  | _ => []
def anc74 : Nat → List Nat
  | _ => []
def conf75 : Nat → List (Nat × Nat)
  | _ => []
def anc75 : Nat → List Nat
  | _ => []
def conf76 : Nat → List (Nat × Nat)
  | 1 => [(0, 1), (0, 2), (0, 4), (3, 4), (0, 5), (3, 5)]
  | 4 => [(0, 8), (1, 8), (2, 8), (3, 8), (4, 8), (5, 8), (6, 8), (0, 10), (1, 10)]
  | _ => []
def anc76 : Nat → List Nat
  | 1 => [0, 0, 2, 7, 0, 16, 63, 127]
  | 4 => [0, 1, 0, 4, 0, 16, 48, 0, 128, 496, 1020, 2047, 4095]
  | _ => []
def conf77 : Nat → List (Nat × Nat)
  | 1 => [(4, 5), (4, 6), (4, 7), (4, 8), (0, 11), (1, 11), (2, 11), (3, 11), (4, 11), (5, 11), (6, 11), (7, 11), (8, 11), (9, 11), (10, 11)]
  | _ => []
def anc77 : Nat → List Nat
  | 1 => [0, 1, 0, 4, 15, 0, 32, 0, 128, 511, 1023, 0, 4095]
  | _ => []
def conf78 : Nat → List (Nat × Nat)
  | _ => []
def anc78 : Nat → List Nat
  | _ => []
def conf79 : Nat → List (Nat × Nat)
  | _ => []
def anc79 : Nat → List Nat
  | _ => []
def conf80 : Nat → List (Nat × Nat)
  | _ => []
def anc80 : Nat → List Nat
  | _ => []
def conf81 : Nat → List (Nat × Nat)
  | _ => []
def anc81 : Nat → List Nat
  | _ => []
def conf82 : Nat → List (Nat × Nat)
  | _ => []
def anc82 : Nat → List Nat
  | _ => []
def conf85 : Nat → List (Nat × Nat)
  | _ => []
def anc85 : Nat → List Nat
  | _ => []
def conf92 : Nat → List (Nat × Nat)
  | _ => []
def anc92 : Nat → List Nat
  | _ => []
def confT : Nat → Nat → List (Nat × Nat)
  | 3 => conf3
  | 4 => conf4
  | 5 => conf5
  | 6 => conf6
  | 7 => conf7
  | 8 => conf8
  | 9 => conf9
  | 10 => conf10
  | 11 => conf11
  | 12 => conf12
  | 13 => conf13
  | 14 => conf14
  | 15 => conf15
  | 16 => conf16
  | 17 => conf17
  | 18 => conf18
  | 19 => conf19
  | 20 => conf20
  | 21 => conf21
  | 22 => conf22
  | 23 => conf23
  | 24 => conf24
  | 25 => conf25
  | 26 => conf26
  | 27 => conf27
  | 28 => conf28
  | 29 => conf29
  | 30 => conf30
  | 31 => conf31
  | 32 => conf32
  | 33 => conf33
  | 34 => conf34
  | 35 => conf35
  | 36 => conf36
  | 37 => conf37
  | 38 => conf38
  | 39 => conf39
  | 40 => conf40
  | 41 => conf41
  | 42 => conf42
  | 43 => conf43
  | 44 => conf44
  | 45 => conf45
  | 46 => conf46
  | 47 => conf47
  | 48 => conf48
  | 49 => conf49
  | 50 => conf50
  | 51 => conf51
  | 52 => conf52
  | 53 => conf53
  | 54 => conf54
  | 55 => conf55
  | 56 => conf56
  | 57 => conf57
  | 58 => conf58
  | 59 => conf59
  | 60 => conf60
  | 61 => conf61
  | 62 => conf62
  | 63 => conf63
  | 64 => conf64
  | 65 => conf65
  | 66 => conf66
  | 67 => conf67
  | 68 => conf68
  | 69 => conf69
  | 70 => conf70
  | 71 => conf71
  | 72 => conf72
  | 73 => conf73
  | 74 => conf74
  | 75 => conf75
  | 76 => conf76
  | 77 => conf77
  | 78 => conf78
  | 79 => conf79
  | 80 => conf80
  | 81 => conf81
  | 82 => conf82
  | 85 => conf85
  | 92 => conf92
  | _ => fun _ => []
def ancT : Nat → Nat → List Nat
  | 3 => anc3
  | 4 => anc4
  | 5 => anc5
  | 6 => anc6
  | 7 => anc7
  | 8 => anc8
  | 9 => anc9
  | 10 => anc10
  | 11 => anc11
  | 12 => anc12
  | 13 => anc13
  | 14 => anc14
  | 15 => anc15
  | 16 => anc16
  | 17 => anc17
  | 18 => anc18
  | 19 => anc19
  | 20 => anc20
  | 21 => anc21
  | 22 => anc22
  | 23 => anc23
  | 24 => anc24
  | 25 => anc25
  | 26 => anc26
  | 27 => anc27
  | 28 => anc28
  | 29 => anc29
  | 30 => anc30
  | 31 => anc31
  | 32 => anc32
  | 33 => anc33
  | 34 => anc34
  | 35 => anc35
  | 36 => anc36
  | 37 => anc37
  | 38 => anc38
  | 39 => anc39
  | 40 => anc40
  | 41 => anc41
  | 42 => anc42
  | 43 => anc43
  | 44 => anc44
  | 45 => anc45
  | 46 => anc46
  | 47 => anc47
  | 48 => anc48
  | 49 => anc49
  | 50 => anc50
  | 51 => anc51
  | 52 => anc52
  | 53 => anc53
  | 54 => anc54
  | 55 => anc55
  | 56 => anc56
  | 57 => anc57
  | 58 => anc58
  | 59 => anc59
  | 60 => anc60
  | 61 => anc61
  | 62 => anc62
  | 63 => anc63
  | 64 => anc64
  | 65 => anc65
  | 66 => anc66
  | 67 => anc67
  | 68 => anc68
  | 69 => anc69
  | 70 => anc70
  | 71 => anc71
  | 72 => anc72
  | 73 => anc73
  | 74 => anc74
  | 75 => anc75
  | 76 => anc76
  | 77 => anc77
  | 78 => anc78
  | 79 => anc79
  | 80 => anc80
  | 81 => anc81
  | 82 => anc82
  | 85 => anc85
  | 92 => anc92
  | _ => fun _ => []
def known : List Nat := [3, 4, 5, 6, 7, 8, 9, 10, 11, 12, 13, 14, 15, 16, 17, 18, 19, 20, 21, 22, 23, 24, 25, 26, 27, 28, 29, 30, 31, 32, 33, 34, 35, 36, 37, 38, 39, 40, 41, 42, 43, 44, 45, 46, 47, 48, 49, 50, 51, 52, 53, 54, 55, 56, 57, 58, 59, 60, 61, 62, 63, 64, 65, 66, 67, 68, 69, 70, 71, 72, 73, 74, 75, 76, 77, 78, 79, 80, 82, 85, 92]
def extT (f : Nat) : Option (List Arg → Option Out) := if f == 81 then some (cloneK 2 16) else if f == 83 then some repK else if known.contains f then none else some fun _ => none
def sigT : Nat → List Mode
  | 31 => [.ptr, .ro]
  | 32 => [.ptr]
  | 33 => [.ptr]
  | 34 => [.ptr, .ro]
  | 35 => [.ptr]
  | 36 => [.ptr, .ro]
  | 40 => [.io, .ro, .ro]
  | 53 => [.io, .ro, .ro]
  | 61 => [.ptr]
  | 62 => [.ptr]
  | 63 => [.ptr]
  | 64 => [.ptr, .ro]
  | 66 => [.ptr, .ro]
  | 69 => [.ptr, .ro]
  | 76 => [.ptr, .ro]
  | 79 => [.ptr]
  | _ => []
def fzT : Nat → List Nat
  | 9 => [4, 5]
  | 17 => [3]
  | 19 => [3]
  | _ => []
@[simp] theorem ti_3 : tiOf Try.prog 3 = some ⟨1, 8, false, [.int .i64 0], .int .i64⟩ := by kernel_rfl
@[simp] theorem ti_4 : tiOf Try.prog 4 = some ⟨1, 1, false, [.bool false], .bool⟩ := by kernel_rfl
@[simp] theorem ti_5 : tiOf Try.prog 5 = some ⟨1, 1, false, [.int .u8 0], .int .u8⟩ := by kernel_rfl
@[simp] theorem ti_9 : tiOf Try.prog 9 = some ⟨1, 16, false, [.str []], .str⟩ := by kernel_rfl
@[simp] theorem ti_22 : tiOf Try.prog 22 = some ⟨1, 24, false, [.sl []], .slice 5⟩ := by kernel_rfl
@[simp] theorem ti_23 : tiOf Try.prog 23 = some ⟨1, 24, false, [.sl []], .slice 27⟩ := by kernel_rfl
@[simp] theorem ti_25 : tiOf Try.prog 25 = some ⟨3, 64, true, [.str [], .sl [], .sl []], .struct [(0, 9), (1, 23), (2, 23)]⟩ := by kernel_rfl
@[simp] theorem ti_27 : tiOf Try.prog 27 = some ⟨2, 16, true, [.int .i64 0, .int .i64 0], .struct [(0, 3), (1, 3)]⟩ := by kernel_rfl
@[simp] theorem ti_44 : tiOf Try.prog 44 = some ⟨1, 24, false, [.sl []], .slice 48⟩ := by kernel_rfl
@[simp] theorem ti_48 : tiOf Try.prog 48 = some ⟨2, 24, true, [.int .i64 0, .str []], .struct [(0, 3), (1, 9)]⟩ := by kernel_rfl
@[simp] theorem ti_62 : tiOf Try.prog 62 = some ⟨48, 48, true, List.replicate 48 (.bool false), .arr 48 4⟩ := by kernel_rfl
@[simp] theorem ti_77 : tiOf Try.prog 77 = some ⟨2, 32, true, [.sl [], .int .i64 0], .struct [(0, 22), (1, 3)]⟩ := by kernel_rfl
@[simp] theorem ti_80 : tiOf Try.prog 80 = some ⟨1, 24, false, [.sl []], .slice 9⟩ := by kernel_rfl
@[simp] theorem ti_83 : tiOf Try.prog 83 = some ⟨1, 24, false, [.sl []], .slice 3⟩ := by kernel_rfl
@[simp] theorem ti_90 : tiOf Try.prog 90 = some ⟨1, 24, false, [.sl []], .slice 4⟩ := by kernel_rfl
noncomputable def E : Env := { P := Try.prog, sig := sigT, glob := fun _ => none, live := liveT, conf := confT, fz := fzT, strict := false, ext := extT }
@[simp] theorem E_P : E.P = Try.prog := rfl
@[simp] theorem E_sig : E.sig = sigT := rfl
@[simp] theorem E_live : E.live = liveT := rfl
@[simp] theorem E_conf : E.conf = confT := rfl
@[simp] theorem E_fz : E.fz = fzT := rfl
@[simp] theorem E_strict : E.strict = false := rfl

@[simp] theorem E_ext83 : E.ext 83 = some repK := rfl
@[simp] theorem E_ext3 : E.ext 3 = none := rfl
@[simp] theorem E_ext4 : E.ext 4 = none := rfl
@[simp] theorem E_ext5 : E.ext 5 = none := rfl
@[simp] theorem E_ext6 : E.ext 6 = none := rfl
@[simp] theorem E_ext7 : E.ext 7 = none := rfl
@[simp] theorem E_ext8 : E.ext 8 = none := rfl
@[simp] theorem E_ext9 : E.ext 9 = none := rfl
@[simp] theorem E_ext10 : E.ext 10 = none := rfl
@[simp] theorem E_ext11 : E.ext 11 = none := rfl
@[simp] theorem E_ext12 : E.ext 12 = none := rfl
@[simp] theorem E_ext13 : E.ext 13 = none := rfl
@[simp] theorem E_ext14 : E.ext 14 = none := rfl
@[simp] theorem E_ext15 : E.ext 15 = none := rfl
@[simp] theorem E_ext16 : E.ext 16 = none := rfl
@[simp] theorem E_ext17 : E.ext 17 = none := rfl
@[simp] theorem E_ext18 : E.ext 18 = none := rfl
@[simp] theorem E_ext19 : E.ext 19 = none := rfl
@[simp] theorem E_ext20 : E.ext 20 = none := rfl
@[simp] theorem E_ext21 : E.ext 21 = none := rfl
@[simp] theorem E_ext22 : E.ext 22 = none := rfl
@[simp] theorem E_ext23 : E.ext 23 = none := rfl
@[simp] theorem E_ext24 : E.ext 24 = none := rfl
@[simp] theorem E_ext25 : E.ext 25 = none := rfl
@[simp] theorem E_ext26 : E.ext 26 = none := rfl
@[simp] theorem E_ext27 : E.ext 27 = none := rfl
@[simp] theorem E_ext28 : E.ext 28 = none := rfl
@[simp] theorem E_ext29 : E.ext 29 = none := rfl
@[simp] theorem E_ext30 : E.ext 30 = none := rfl
@[simp] theorem E_ext31 : E.ext 31 = none := rfl
@[simp] theorem E_ext32 : E.ext 32 = none := rfl
@[simp] theorem E_ext33 : E.ext 33 = none := rfl
@[simp] theorem E_ext34 : E.ext 34 = none := rfl
@[simp] theorem E_ext35 : E.ext 35 = none := rfl
@[simp] theorem E_ext36 : E.ext 36 = none := rfl
@[simp] theorem E_ext37 : E.ext 37 = none := rfl
@[simp] theorem E_ext38 : E.ext 38 = none := rfl
@[simp] theorem E_ext39 : E.ext 39 = none := rfl
@[simp] theorem E_ext40 : E.ext 40 = none := rfl
@[simp] theorem E_ext41 : E.ext 41 = none := rfl
@[simp] theorem E_ext42 : E.ext 42 = none := rfl
@[simp] theorem E_ext43 : E.ext 43 = none := rfl
@[simp] theorem E_ext44 : E.ext 44 = none := rfl
@[simp] theorem E_ext45 : E.ext 45 = none := rfl
@[simp] theorem E_ext46 : E.ext 46 = none := rfl
@[simp] theorem E_ext47 : E.ext 47 = none := rfl
@[simp] theorem E_ext48 : E.ext 48 = none := rfl
@[simp] theorem E_ext49 : E.ext 49 = none := rfl
@[simp] theorem E_ext50 : E.ext 50 = none := rfl
@[simp] theorem E_ext51 : E.ext 51 = none := rfl
@[simp] theorem E_ext52 : E.ext 52 = none := rfl
@[simp] theorem E_ext53 : E.ext 53 = none := rfl
@[simp] theorem E_ext54 : E.ext 54 = none := rfl
@[simp] theorem E_ext55 : E.ext 55 = none := rfl
@[simp] theorem E_ext56 : E.ext 56 = none := rfl
@[simp] theorem E_ext57 : E.ext 57 = none := rfl
@[simp] theorem E_ext58 : E.ext 58 = none := rfl
@[simp] theorem E_ext59 : E.ext 59 = none := rfl
@[simp] theorem E_ext60 : E.ext 60 = none := rfl
@[simp] theorem E_ext61 : E.ext 61 = none := rfl
@[simp] theorem E_ext62 : E.ext 62 = none := rfl
@[simp] theorem E_ext63 : E.ext 63 = none := rfl
@[simp] theorem E_ext64 : E.ext 64 = none := rfl
@[simp] theorem E_ext65 : E.ext 65 = none := rfl
@[simp] theorem E_ext66 : E.ext 66 = none := rfl
@[simp] theorem E_ext67 : E.ext 67 = none := rfl
@[simp] theorem E_ext68 : E.ext 68 = none := rfl
@[simp] theorem E_ext69 : E.ext 69 = none := rfl
@[simp] theorem E_ext70 : E.ext 70 = none := rfl
@[simp] theorem E_ext71 : E.ext 71 = none := rfl
@[simp] theorem E_ext72 : E.ext 72 = none := rfl
@[simp] theorem E_ext73 : E.ext 73 = none := rfl
@[simp] theorem E_ext74 : E.ext 74 = none := rfl
@[simp] theorem E_ext75 : E.ext 75 = none := rfl
@[simp] theorem E_ext76 : E.ext 76 = none := rfl
@[simp] theorem E_ext77 : E.ext 77 = none := rfl
@[simp] theorem E_ext78 : E.ext 78 = none := rfl
@[simp] theorem E_ext79 : E.ext 79 = none := rfl
@[simp] theorem E_ext80 : E.ext 80 = none := rfl
@[simp] theorem E_ext81 : E.ext 81 = some (cloneK 2 16) := rfl
@[simp] theorem E_ext82 : E.ext 82 = none := rfl
@[simp] theorem E_ext85 : E.ext 85 = none := rfl
@[simp] theorem E_ext92 : E.ext 92 = none := rfl
theorem extOk (f : FuncId) (k : List Arg → Option Out) (args : List Arg) (out : Out) (h : E.ext f = some k) (hk : k args = some out) : Con E f args out := by
  have h : extT f = some k := h
  unfold extT at h
  split at h
  · rename_i e
    have e : f = 81 := by simpa using e
    subst e
    cases h
    exact clone_con (E := E) Try.func81 rfl rfl rfl rfl rfl rfl rfl rfl rfl rfl ti_23 rfl ti_27 (by decide) args out hk
  split at h
  · rename_i e
    have e : f = 83 := by simpa using e
    subst e
    cases h
    exact rep_con (E := E) Try.func83 rfl rfl (fun s c w h1 h2 => Try.strings_Repeat s c w h1 h2) args out hk
  split at h
  · cases h
  · cases h; cases hk
attribute [simp] sigT confT fzT liveT live3 conf3 live4 conf4 live5 conf5 live6 conf6 live7 conf7 live8 conf8 live9 conf9 live10 conf10 live11 conf11 live12 conf12 live13 conf13 live14 conf14 live15 conf15 live16 conf16 live17 conf17 live18 conf18 live19 conf19 live20 conf20 live21 conf21 live22 conf22 live23 conf23 live24 conf24 live25 conf25 live26 conf26 live27 conf27 live28 conf28 live29 conf29 live30 conf30 live31 conf31 live32 conf32 live33 conf33 live34 conf34 live35 conf35 live36 conf36 live37 conf37 live38 conf38 live39 conf39 live40 conf40 live41 conf41 live42 conf42 live43 conf43 live44 conf44 live45 conf45 live46 conf46 live47 conf47 live48 conf48 live49 conf49 live50 conf50 live51 conf51 live52 conf52 live53 conf53 live54 conf54 live55 conf55 live56 conf56 live57 conf57 live58 conf58 live59 conf59 live60 conf60 live61 conf61 live62 conf62 live63 conf63 live64 conf64 live65 conf65 live66 conf66 live67 conf67 live68 conf68 live69 conf69 live70 conf70 live71 conf71 live72 conf72 live73 conf73 live74 conf74 live75 conf75 live76 conf76 live77 conf77 live78 conf78 live79 conf79 live80 conf80 live81 conf81 live82 conf82 live85 conf85 live92 conf92
theorem okBodies : known.all (fun f => okBody Try.prog (confT f) (ancT f) f) = true := by kernel_rfl
end Go.Ev

/- The evaluator is sound over this program. -/
namespace Go.Ev
theorem envOk : EnvOk E fun f id ops => drawChk ops (E.conf f id) (ancT f id) :=
  envOk_of (by kernel_rfl) (fun f h => by
    have hk : known.contains f = true := by
      have h : extT f = none := h
      unfold extT at h
      repeat' (split at h)
      all_goals first | assumption | (cases h; done)
    exact List.all_eq_true.1 okBodies f (by simpa using hk)) extOk
theorem sound {f : FuncId} {args : List Arg} {out : Out} (h : ev E f args = some out) : Con E f args out := ev_sound envOk f args out h
end Go.Ev

/- A function's answer, in the form that simp uses. -/
set_option linter.unusedVariables false
namespace Go.Ev
def resK (E : Env) (fz : List Nat) (rs : List ResultVar) (args : List Arg) (r : Option (Ex × St)) : Option Out :=
  match r with
  | some (.normal, s) | some (.ret, s) =>
    match evResults E fz rs s with
    | some (rs, s') => (outsOf s' args 0).map fun outs => { rs, outs }
    | none => none
  | _ => none
def finK (args : List Arg) (r : Option (List RV × St)) : Option Out :=
  match r with
  | some (rs, s') => (outsOf s' args 0).map fun outs => { rs, outs }
  | none => none
@[simp] theorem finK_some (args : List Arg) (rs : List RV) (s : St) : finK args (some (rs, s)) = (outsOf s args 0).map fun outs => { rs, outs } := rfl
@[simp] theorem resK_normal (E : Env) (fz : List Nat) (rs : List ResultVar) (args : List Arg) (s : St) : resK E fz rs args (some (.normal, s)) = finK args (evResults E fz rs s) := rfl
@[simp] theorem resK_ret (E : Env) (fz : List Nat) (rs : List ResultVar) (args : List Arg) (s : St) : resK E fz rs args (some (.ret, s)) = finK args (evResults E fz rs s) := rfl
@[simp] theorem resK_ite (E : Env) (fz : List Nat) (rs : List ResultVar) (args : List Arg) (p : Prop) [Decidable p] (x y : Option (Ex × St)) : resK E fz rs args (if p then x else y) = if p then resK E fz rs args x else resK E fz rs args y := by split <;> rfl
theorem thenK_ite (p : Prop) [Decidable p] (x y : Option (Ex × St)) (k : St → Option (Ex × St)) : thenK (if p then x else y) k = if p then thenK x k else thenK y k := by split <;> rfl
theorem blockK_ite (p : Prop) [Decidable p] (x y : Option (Ex × St)) (i : Nat) : blockK i (if p then x else y) = if p then blockK i x else blockK i y := by split <;> rfl
@[simp] theorem opnd_nilptr (E : Env) (s : St) : opnd E s (.const (.pointer none)) = .dead := rfl
theorem loopC_at {E : Env} {K : Fns} {f : FuncId} {a c : Code} {s : St} {r : Option (Ex × St)} (ha : a = c) (h : loopC E K f c s = r) : loopC E K f a s = r := ha ▸ h
theorem ev_fn {f : FuncId} (fn : Func) {c : Code} {rs : List ResultVar} {args : List Arg} (hx : E.ext f = none) (hf : E.P.funcs[f]? = some fn) (hc : fn.body = some c) (hr : fn.results.toList = rs)
    (h1 : args.length = fn.params.size + fn.nfree) (h2 : args.length ≤ fn.ntmps) : ev E f args = resK E (E.fz f) rs args (evCode E (ev E) f c (enter 0 args)) := by
  rw [ev_eq]
  simp only [hx]
  exact evBody_of E _ f fn c rs args hf hc hr ⟨h1, h2⟩
end Go.Ev

/- Answers of the smallest functions. -/
set_option linter.unusedSimpArgs false
set_option linter.unusedVariables false
set_option maxRecDepth 100000
namespace Go.Ev
open Go.Proofs
abbrev vi (n : Int) : AV := .v .ro false [.int .i64 n]
abbrev vb (b : Bool) : AV := .v .ro false [.bool b]
abbrev vc (b : UInt8) : AV := .v .ro false [.int .u8 b.toNat]
abbrev Sp := Int × Int
abbrev spL (s : Sp) : List L := [.int .i64 s.1, .int .i64 s.2]
abbrev rB (b : Bool) : Out := { rs := [.v .own false [.bool b]], outs := [] }
abbrev rI (n : Int) : Out := { rs := [.v .own false [.int .i64 n]], outs := [] }
theorem wrapN (i : Nat) (h : i < 4611686018427387904) : IntKind.i64.wrap ((i : Int) + 1) = ((i + 1 : Nat) : Int) := by
  rw [wrap64] <;> omega
def okB (b : UInt8) : Bool := !((ltI b.toNat 97 || ltI 122 b.toNat) && (ltI b.toNat 48 || ltI 57 b.toNat) && !eqI b.toNat 46)
def spOk (s : Sp) : Bool := !ltI s.1 0 && ltI s.1 s.2 && !ltI 48 s.2
def minI (a b : Int) : Int := if ltI a b = true then a else b
def maxI (a b : Int) : Int := if ltI b a = true then a else b
theorem ev_impl_SpanOk (m : M) (s : Sp) : ev E 37 [.v m true (spL s)] = some (rB (spOk s)) := by
  rw [ev_fn Try.f37 rfl Try.func37 rfl rfl rfl (Nat.le_of_ble_eq_true rfl)]
  simp
  repeat' (split <;> rename_i hq <;> (try simp only [Bool.not_eq_true] at hq) <;> simp [hq, *])
  all_goals simp [spOk, *]
theorem ev_spec_SpanOk (m : M) (s : Sp) : ev E 28 [.v m true (spL s)] = some (rB (spOk s)) := by
  rw [ev_fn Try.f28 rfl Try.func28 rfl rfl rfl (Nat.le_of_ble_eq_true rfl)]
  simp
  repeat' (split <;> rename_i hq <;> (try simp only [Bool.not_eq_true] at hq) <;> simp [hq, *])
  all_goals simp [spOk, *]
theorem ev_spec_l1Min (m m' : M) (a b : Int) : ev E 80 [.v m false [.int .i64 a], .v m' false [.int .i64 b]] = some (rI (minI a b)) := by
  rw [ev_fn Try.f80 rfl Try.func80 rfl rfl rfl (Nat.le_of_ble_eq_true rfl)]
  simp
  repeat' (split <;> rename_i hq <;> (try simp only [Bool.not_eq_true] at hq) <;> simp [hq, *])
  all_goals simp [minI, *]
theorem ev_spec_l1Max (m m' : M) (a b : Int) : ev E 82 [.v m false [.int .i64 a], .v m' false [.int .i64 b]] = some (rI (maxI a b)) := by
  rw [ev_fn Try.f82 rfl Try.func82 rfl rfl rfl (Nat.le_of_ble_eq_true rfl)]
  simp
  repeat' (split <;> rename_i hq <;> (try simp only [Bool.not_eq_true] at hq) <;> simp [hq, *])
  all_goals simp [maxI, *]
theorem ev_wpAt (m : M) (a : Int) (h : -1000000 ≤ a ∧ a ≤ 1000000) : ev E 25 [.v m false [.int .i64 a]] = some { rs := [.v .own true (spL (a, a + 1))], outs := [] } := by
  rw [ev_fn Try.f25 rfl Try.func25 rfl rfl rfl (Nat.le_of_ble_eq_true rfl)]
  have := wrap64 (n := a + 1) (by omega)
  simp [this]
theorem ev_l2Byte (m : M) (b : UInt8) : ev E 72 [.v m false [.int .u8 b.toNat]] = some (rB (okB b)) := by
  rw [ev_fn Try.f72 rfl Try.func72 rfl rfl rfl (Nat.le_of_ble_eq_true rfl)]
  simp
  repeat' (split <;> rename_i hq <;> (try simp only [Bool.not_eq_true] at hq) <;> simp [hq, *])
  all_goals simp [okB, *]
end Go.Ev

/- Answers: loops over strings and ranges that only read. -/
set_option linter.unusedSimpArgs false
set_option linter.unusedVariables false
set_option maxRecDepth 100000
namespace Go.Ev
open Go.Proofs
/-- The last step of a loop by its rest. -/
theorem all_drop {α : Type} {p : α → Bool} {xs : List α} {i : Nat} (h : i < xs.length) : (xs.drop i).all p = (p xs[i] && (xs.drop (i + 1)).all p) := by
  rw [List.drop_eq_getElem_cons h]; rfl
theorem any_drop {α : Type} {p : α → Bool} {xs : List α} {i : Nat} (h : i < xs.length) : (xs.drop i).any p = (p xs[i] || (xs.drop (i + 1)).any p) := by
  rw [List.drop_eq_getElem_cons h]; rfl
theorem lp_TextOk (m : M) (bs : List UInt8) (hb : bs.length ≤ 1099511627776) (a : Code) (ha : a = lp Try.f38 0) : ∀ (n i : Nat), i + n = bs.length →
    loopC E (ev E) 38 a { V := [(0, .v m false [.str bs]), (6, vi bs.length), (7, vi i)], H := [], ps := [] } =
      if (bs.drop i).all okB then some (.exit 0, { V := [(0, .v m false [.str bs]), (6, vi bs.length), (7, vi bs.length), (8, vb false)], H := [], ps := [] })
      else some (.ret, { V := [(2, vb false)], H := [], ps := [] })
  | 0, i, h => by
    rw [loopC_of _ _ _ _ ha]
    obtain rfl : i = bs.length := by omega
    simp [lp, loopsOf, Try.f38]
  | n + 1, i, h => by
    have hlt : i < bs.length := by omega
    have ih := lp_TextOk m bs hb a ha n (i + 1) (by omega)
    push_cast at ih
    have hw := wrapN i (by omega)
    rw [loopC_of _ _ _ _ ha, all_drop hlt]
    clear ha
    generalize (bs.drop (i + 1)).all okB = r at ih ⊢
    generalize hR : (if (okB bs[i] && r) = true then _ else _) = R
    simp [lp, loopsOf, Try.f38, hlt, hw]
    repeat' (split <;> rename_i hq <;> (try simp only [Bool.not_eq_true] at hq) <;> simp [hq, *])
    all_goals (subst hR; simp [okB, *])
theorem ev_impl_TextOk (m : M) (bs : List UInt8) (hb : bs.length ≤ 1099511627776) : ev E 38 [.v m false [.str bs]] = some (rB (bs.all okB && !ltI 48 bs.length)) := by
  rw [ev_fn Try.f38 rfl Try.func38 rfl rfl rfl (Nat.le_of_ble_eq_true rfl)]
  have hl := fun a ha => lp_TextOk m bs hb a ha bs.length 0 (by omega)
  push_cast at hl
  simp
  rw [hl _ ?_]
  · cases h : bs.all okB <;> simp [h]
  · rfl
theorem lp_sTextOk (m : M) (bs : List UInt8) (hb : bs.length ≤ 1099511627776) (a : Code) (ha : a = lp Try.f43 0) : ∀ (n i : Nat), i + n = bs.length →
    loopC E (ev E) 43 a { V := [(0, .v m false [.str bs]), (3, vi i)], H := [], ps := [] } =
      if (bs.drop i).all okB then some (.exit 0, { V := [(0, .v m false [.str bs]), (3, vi bs.length), (7, vb false)], H := [], ps := [] })
      else some (.ret, { V := [(2, vb false)], H := [], ps := [] })
  | 0, i, h => by
    rw [loopC_of _ _ _ _ ha]
    obtain rfl : i = bs.length := by omega
    simp [lp, loopsOf, Try.f43]
  | n + 1, i, h => by
    have hlt : i < bs.length := by omega
    have ih := lp_sTextOk m bs hb a ha n (i + 1) (by omega)
    push_cast at ih
    have hw := wrapN i (by omega)
    rw [loopC_of _ _ _ _ ha, all_drop hlt]
    clear ha
    generalize (bs.drop (i + 1)).all okB = r at ih ⊢
    generalize hR : (if (okB bs[i] && r) = true then _ else _) = R
    simp [lp, loopsOf, Try.f43, hlt, hw, ev_l2Byte]
    repeat' (split <;> rename_i hq <;> (try simp only [Bool.not_eq_true] at hq) <;> simp [hq, *, ev_l2Byte])
    all_goals (subst hR; simp [*])
theorem ev_spec_TextOk (m : M) (bs : List UInt8) (hb : bs.length ≤ 1099511627776) : ev E 43 [.v m false [.str bs]] = some (rB (bs.all okB && !ltI 48 bs.length)) := by
  rw [ev_fn Try.f43 rfl Try.func43 rfl rfl rfl (Nat.le_of_ble_eq_true rfl)]
  have hl := fun a ha => lp_sTextOk m bs hb a ha bs.length 0 (by omega)
  push_cast at hl
  simp
  rw [hl _ ?_]
  · cases h : bs.all okB <;> simp [h]
  · rfl
def inSp (at' : Int) (s : Sp) : Bool := !ltI at' s.1 && ltI at' s.2
theorem lp_spec_l1In (m m' : M) (xs : List Sp) (k : Int) (hb : xs.length ≤ 1099511627776) (a : Code) (ha : a = lp Try.f45 0) : ∀ (n i : Nat), i + n = xs.length →
    loopC E (ev E) 45 a { V := [(0, .v m false [.sl (xs.map spL)]), (1, .v m' false [.int .i64 k]), (5, vi i)], H := [], ps := [] } =
      if (xs.drop i).any (inSp k) then some (.ret, { V := [(4, vb true)], H := [], ps := [] })
      else some (.exit 0, { V := [(0, .v m false [.sl (xs.map spL)]), (1, .v m' false [.int .i64 k]), (5, vi xs.length), (9, vb false)], H := [], ps := [] })
  | 0, i, h => by
    rw [loopC_of _ _ _ _ ha]
    obtain rfl : i = xs.length := by omega
    simp [lp, loopsOf, Try.f45]
  | n + 1, i, h => by
    have hlt : i < xs.length := by omega
    have ih := lp_spec_l1In m m' xs k hb a ha n (i + 1) (by omega)
    push_cast at ih
    have hw := wrapN i (by omega)
    rw [loopC_of _ _ _ _ ha, any_drop hlt]
    clear ha
    generalize (xs.drop (i + 1)).any (inSp k) = r at ih ⊢
    generalize hR : (if (inSp k xs[i] || r) = true then _ else _) = R
    simp [lp, loopsOf, Try.f45, hlt, hw]
    repeat' (split <;> rename_i hq <;> (try simp only [Bool.not_eq_true] at hq) <;> simp [hq, *])
    all_goals (subst hR; simp [inSp, *])
theorem ev_spec_l1In (m m' : M) (xs : List Sp) (k : Int) (hb : xs.length ≤ 1099511627776) : ev E 45 [.v m false [.sl (xs.map spL)], .v m' false [.int .i64 k]] = some (rB (xs.any (inSp k))) := by
  rw [ev_fn Try.f45 rfl Try.func45 rfl rfl rfl (Nat.le_of_ble_eq_true rfl)]
  have hl := fun a ha => lp_spec_l1In m m' xs k hb a ha xs.length 0 (by omega)
  push_cast at hl
  simp
  rw [hl _ ?_]
  · cases h : xs.any (inSp k) <;> simp [h]
  · rfl
theorem lp_laws_wpIn (m m' : M) (xs : List Sp) (k : Int) (hb : xs.length ≤ 1099511627776) (a : Code) (ha : a = lp Try.f13 0) : ∀ (n i : Nat), i + n = xs.length →
    loopC E (ev E) 13 a { V := [(0, .v m false [.sl (xs.map spL)]), (1, .v m' false [.int .i64 k]), (5, vi i)], H := [], ps := [] } =
      if (xs.drop i).any (inSp k) then some (.ret, { V := [(4, vb true)], H := [], ps := [] })
      else some (.exit 0, { V := [(0, .v m false [.sl (xs.map spL)]), (1, .v m' false [.int .i64 k]), (5, vi xs.length), (9, vb false)], H := [], ps := [] })
  | 0, i, h => by
    rw [loopC_of _ _ _ _ ha]
    obtain rfl : i = xs.length := by omega
    simp [lp, loopsOf, Try.f13]
  | n + 1, i, h => by
    have hlt : i < xs.length := by omega
    have ih := lp_laws_wpIn m m' xs k hb a ha n (i + 1) (by omega)
    push_cast at ih
    have hw := wrapN i (by omega)
    rw [loopC_of _ _ _ _ ha, any_drop hlt]
    clear ha
    generalize (xs.drop (i + 1)).any (inSp k) = r at ih ⊢
    generalize hR : (if (inSp k xs[i] || r) = true then _ else _) = R
    simp [lp, loopsOf, Try.f13, hlt, hw]
    repeat' (split <;> rename_i hq <;> (try simp only [Bool.not_eq_true] at hq) <;> simp [hq, *])
    all_goals (subst hR; simp [inSp, *])
theorem ev_laws_wpIn (m m' : M) (xs : List Sp) (k : Int) (hb : xs.length ≤ 1099511627776) : ev E 13 [.v m false [.sl (xs.map spL)], .v m' false [.int .i64 k]] = some (rB (xs.any (inSp k))) := by
  rw [ev_fn Try.f13 rfl Try.func13 rfl rfl rfl (Nat.le_of_ble_eq_true rfl)]
  have hl := fun a ha => lp_laws_wpIn m m' xs k hb a ha xs.length 0 (by omega)
  push_cast at hl
  simp
  rw [hl _ ?_]
  · cases h : xs.any (inSp k) <;> simp [h]
  · rfl
end Go.Ev
