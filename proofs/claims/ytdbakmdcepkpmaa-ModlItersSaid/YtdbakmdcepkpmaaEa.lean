/- The model of one hand: values and their form in memory. -/
import Derived.Test.YtdbakmdcepkpmaaECode
import Derived.Test.YtdbakmdcepkpmaaLx
set_option linter.unusedSimpArgs false
set_option linter.unusedVariables false
namespace Go.Proofs.Ytdbakmdcepkpmaa
open Go.E3
structure Sample where
  t : Int
  v : Int
  deriving DecidableEq
structure Series where
  id : Int
  sealed_ : Bool
  any : Bool
  last : Int
  list : List Sample
  deriving DecidableEq
structure Iter where
  id : Int
  rest : List Sample
  deriving DecidableEq
structure Model where
  series : List Series
  iters : List Iter
  next : Int
  deriving DecidableEq
structure Op where
  kind : Int
  series : Int
  iter : Int
  t : Int
  v : Int
  frm : Int
  to : Int
  n : Int
  deriving DecidableEq
structure Res where
  err : Int
  iter : Int
  list : List Sample
  deriving DecidableEq
def slA (xs : List AV) : AV := .isl none false xs
def smA (s : Sample) : AV := .agg [.int .i64 s.t, .int .u64 s.v]
def serA (s : Series) : AV := .agg [.int .i64 s.id, .bool s.sealed_, .bool s.any, .int .i64 s.last, slA (s.list.map smA)]
def itA (i : Iter) : AV := .agg [.int .i64 i.id, slA (i.rest.map smA)]
def modA (m : Model) : AV := .agg [slA (m.series.map serA), slA (m.iters.map itA), .int .i64 m.next]
def opA (o : Op) : AV := .agg [.int .i64 o.kind, .int .i64 o.series, .int .i64 o.iter, .int .i64 o.t, .int .u64 o.v, .int .i64 o.frm, .int .i64 o.to, .int .i64 o.n]
def resA (r : Res) : AV := .agg [.int .i64 r.err, .int .i64 r.iter, slA (r.list.map smA)]
def bad (o : Op) : Bool := if o.kind = 1 ∨ o.kind = 2 ∨ o.kind = 3 ∨ o.kind = 4 ∨ o.kind = 5 then decide (o.series < 0) || decide (o.series ≥ 16) else decide (o.kind ≠ 6) && decide (o.kind ≠ 7)
end Go.Proofs.Ytdbakmdcepkpmaa
