/-
  RunByMarkov, RunByRewrites: both contracts as the law's walk wants them.
-/
import Derived.Test.YtcbcjhfeidkeaaaC16s
import Derived.Test.YtcbcjhfeidkeaaaC16n
namespace Go.Proofs.Ytcbcjhfeidkeaaa
open Go.RowKit

theorem sRunByMarkov_c (sy st : Int) (A : Option Addr) (n c : Nat) (rs : List Rule3) (q : Int) (XA : Option Addr) (xn xc : Nat) (xs : List Int) (YA : Option Addr) (yn yc : Nat) (ys : List Int) (bu : Int) (w : World) (h : RdS w [sgX enc3 3 A n rs]) (h' : RdS w ([sgI XA xn xs] ++ [sgI YA yn ys])) (hn : n ≤ 1000000000) (hn' : xn ≤ 1000000000) (hna : yn ≤ 1000000000) {RR : RbT} (hRR : rbwR sy st rs q xs ys bu = RR) :
    Calls Try.prog 8 #[.agg #[.int .i64 sy, .int .i64 st, .slice A n c], .agg #[.int .i64 q, .slice XA xn xc, .slice YA yn yc], .int .i64 bu] w (RbOut RR w) :=
  sRunByMarkov0_c sy st A n c rs q XA xn xc xs YA yn yc ys bu RR w h.head h'.left.head h'.right.head hn hn' hna hRR
theorem iRunByMarkov_c (sy st : Int) (A : Option Addr) (n c : Nat) (rs : List Rule3) (q : Int) (XA : Option Addr) (xn xc : Nat) (xs : List Int) (YA : Option Addr) (yn yc : Nat) (ys : List Int) (bu : Int) (w : World) (h : RdS w [sgX enc3 3 A n rs]) (h' : RdS w ([sgI XA xn xs] ++ [sgI YA yn ys])) (hn : n ≤ 1000000000) (hn' : xn ≤ 1000000000) (hna : yn ≤ 1000000000) {RR : RbT} (hRR : rbwR sy st rs q xs ys bu = RR) :
    Calls Try.prog 11 #[.agg #[.int .i64 sy, .int .i64 st, .slice A n c], .agg #[.int .i64 q, .slice XA xn xc, .slice YA yn yc], .int .i64 bu] w (RbOut RR w) :=
  iRunByMarkov0_c sy st A n c rs q XA xn xc xs YA yn yc ys bu RR w h.head h'.left.head h'.right.head hn hn' hna hRR
theorem sRunByRewrites_c (sy st : Int) (A : Option Addr) (n c : Nat) (rs : List Rule3) (q : Int) (XA : Option Addr) (xn xc : Nat) (xs : List Int) (YA : Option Addr) (yn yc : Nat) (ys : List Int) (bu : Int) (w : World) (h : RdS w [sgX enc3 3 A n rs]) (h' : RdS w ([sgI XA xn xs] ++ [sgI YA yn ys])) (hn : n ≤ 1000000000) (hn' : xn ≤ 1000000000) (hna : yn ≤ 1000000000) {RR : RbT} (hRR : rbwR sy st rs q xs ys bu = RR) :
    Calls Try.prog 17 #[.agg #[.int .i64 sy, .int .i64 st, .slice A n c], .agg #[.int .i64 q, .slice XA xn xc, .slice YA yn yc], .int .i64 bu] w (RbOut RR w) :=
  sRunByRewrites0_c sy st A n c rs q XA xn xc xs YA yn yc ys bu RR w h.head h'.left.head h'.right.head hn hn' hna hRR
theorem iRunByRewrites_c (sy st : Int) (A : Option Addr) (n c : Nat) (rs : List Rule3) (q : Int) (XA : Option Addr) (xn xc : Nat) (xs : List Int) (YA : Option Addr) (yn yc : Nat) (ys : List Int) (bu : Int) (w : World) (h : RdS w [sgX enc3 3 A n rs]) (h' : RdS w ([sgI XA xn xs] ++ [sgI YA yn ys])) (hn : n ≤ 1000000000) (hn' : xn ≤ 1000000000) (hna : yn ≤ 1000000000) {RR : RbT} (hRR : rbwR sy st rs q xs ys bu = RR) :
    Calls Try.prog 18 #[.agg #[.int .i64 sy, .int .i64 st, .slice A n c], .agg #[.int .i64 q, .slice XA xn xc, .slice YA yn yc], .int .i64 bu] w (RbOut RR w) :=
  iRunByRewrites0_c sy st A n c rs q XA xn xc xs YA yn yc ys bu RR w h.head h'.left.head h'.right.head hn hn' hna hRR
end Go.Proofs.Ytcbcjhfeidkeaaa
