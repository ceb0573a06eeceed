/- The plain model of a stand: when it is valid. -/
import Derived.Test.YtojbkpnkcpcioaaStM3
set_option linter.all false
namespace Go.Sh.Stand
def inR (a b c : Int) : Bool := decide (b ≤ a) && decide (a ≤ c)
def minB (p : Int × Int) : Bool := ((decide (1 ≤ p.1) && decide (p.1 ≤ p.2)) && decide (p.2 ≤ 40)) && decide (p.2 - p.1 ≤ 4)
def runsB : List (Int × Int) → Int → Bool
  | [], _ => true
  | (st, be) :: r, bell => (inR st bell 600 && inR be (st + 1) 600) && runsB r be
def lookB (x : Int × Int × Int) : Bool := inR x.1 0 600 && ((decide (0 ≤ x.2.1) && decide (x.2.1 ≤ x.2.2)) && decide (x.2.2 ≤ 16))
def lensB (s : Stand) : Bool := (inR s.runs.length 1 4 && decide ((s.sheep.length : Int) ≤ 16)) && decide ((s.looks.length : Int) ≤ 4)
def validB (s : Stand) : Bool := s.mins.all minB && (lensB s && (runsB s.runs 0 && (s.sheep.all (fun k => inR k 0 2) && s.looks.all lookB)))
end Go.Sh.Stand
