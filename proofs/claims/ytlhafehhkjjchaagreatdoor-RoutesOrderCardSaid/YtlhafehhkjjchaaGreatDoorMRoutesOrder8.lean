/-
  Joined texts: Filt.
-/
import Derived.Test.YtlhafehhkjjchaaGreatDoorMRoutesOrder7
/-
  Walks over the filter's layer: what a rule may be, and which headers fit it; the program's and the reference's (written by wip/gen/genfilter.py).
-/
namespace Go.Proofs.YtlhafehhkjjchaaGreatDoor
open Go Go.RowKit

/-- A rule, its numbers within their kinds. -/
structure RuleV where
  permit : Bool
  proto : Int
  sa : Int
  sn : Int
  da : Int
  dn : Int
  sl : Int
  sh : Int
  dl : Int
  dh : Int
  hpr : -9223372036854775808 ≤ proto ∧ proto ≤ 9223372036854775807
  hsa : 0 ≤ sa ∧ sa < 4294967296
  hda : 0 ≤ da ∧ da < 4294967296
  hsl : 0 ≤ sl ∧ sl < 4294967296
  hsh : 0 ≤ sh ∧ sh < 4294967296
  hdl : 0 ≤ dl ∧ dl < 4294967296
  hdh : 0 ≤ dh ∧ dh < 4294967296
/-- A header, its numbers within their kinds. -/
structure HeaderV where
  src : Int
  dst : Int
  proto : Int
  sp : Int
  dp : Int
  hsrc : 0 ≤ src ∧ src < 4294967296
  hdst : 0 ≤ dst ∧ dst < 4294967296
  hproto : 0 ≤ proto ∧ proto ≤ 255
  hsp : 0 ≤ sp ∧ sp ≤ 65535
  hdp : 0 ≤ dp ∧ dp ≤ 65535

def portsB (lo hi : Int) : Bool := decide (lo ≤ hi) && decide (hi ≤ 65535)
def mayB (r : RuleV) : Bool := decide (-1 ≤ r.proto) && decide (r.proto ≤ 255) && decide (chk r.sa r.sn = 0) && decide (chk r.da r.dn = 0) && portsB r.sl r.sh && portsB r.dl r.dh
def inP (lo hi x : Int) : Bool := decide (lo ≤ x) && decide (x ≤ hi)
def fitsB (r : RuleV) (h : HeaderV) : Bool := decide (chk r.sa r.sn = 0) && decide (chk r.da r.dn = 0) && inB h.src r.sa r.sn && inB h.dst r.da r.dn && (decide (r.proto = -1) || decide (r.proto = h.proto)) && inP r.sl r.sh h.sp && inP r.dl r.dh h.dp

end Go.Proofs.YtlhafehhkjjchaaGreatDoor
