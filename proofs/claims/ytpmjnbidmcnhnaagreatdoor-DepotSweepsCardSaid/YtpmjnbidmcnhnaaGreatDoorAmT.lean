/- part -/
import Derived.Test.YtpmjnbidmcnhnaaGreatDoorAm19
namespace Go.Nest
open Go Go.AM
structure Ent where
 name : List UInt8
 mode : Int
 id : Int
 repo : Int
 deriving DecidableEq
structure Ob where
 kind : Int
 bytes : List UInt8
 entries : List Ent
 tree : Int
 parents : List Int
 text : List UInt8
 deriving DecidableEq
structure Fi where
 path : List UInt8
 mode : Int
 id : Int
 repo : Int
 deriving DecidableEq
structure Ch where
 path : List UInt8
 old : Fi
 new : Fi
 deriving DecidableEq
structure Dc where
 path : List UInt8
 bytes : List UInt8
 deriving DecidableEq
structure Rf where
 name : List UInt8
 id : Int
 deriving DecidableEq
structure Mv where
 name : List UInt8
 old : Int
 new : Int
 deriving DecidableEq
structure It where
 path : List UInt8
 bytes : List UInt8
 link : Bool
 id : Int
 repo : Int
 deriving DecidableEq
def encEn (e : Ent) : List C := [.str e.name, .int .i64 e.mode, .int .i64 e.id, .int .i64 e.repo]
def encOb (o : Ob) : List C := [.int .i64 o.kind, .ls 1 UInt8 bytesC o.bytes, .ls 4 Ent encEn o.entries, .int .i64 o.tree, .ls 1 Int encI o.parents, .str o.text]
def bOb (o : Ob) : List C := [.int .i64 o.kind, .bs 1 UInt8 bytesC o.bytes, .bs 4 Ent encEn o.entries, .int .i64 o.tree, .bs 1 Int encI o.parents, .str o.text]
def encFi (f : Fi) : List C := [.str f.path, .int .i64 f.mode, .int .i64 f.id, .int .i64 f.repo]
def encDc (d : Dc) : List C := [.str d.path, .ls 1 UInt8 bytesC d.bytes]
def encPr (p : Int × Int) : List C := [.int .i64 p.1, .int .i64 p.2]
def encTr (p : Int × Int × Int) : List C := [.int .i64 p.1, .int .i64 p.2.1, .int .i64 p.2.2]
structure Sn where
 docs : List Dc
 parents : List Int
 text : List UInt8
 deriving DecidableEq
def encSn (s : Sn) : List C := [.ls 2 Dc encDc s.docs, .ls 1 Int encI s.parents, .str s.text]
def nl (sz : Nat) (α : Type) (enc : α → List C) : List α → C
 | [] => .nil
 | x :: l => .ls sz α enc (x :: l)
def encDcN (d : Dc) : List C := [.str d.path, nl 1 UInt8 bytesC d.bytes]
def encSnN (s : Sn) : List C := [nl 2 Dc encDcN s.docs, nl 1 Int encI s.parents, .str s.text]
structure Dt where
 what : Int
 a : Int
 b : Int
 k : Int
 odd : Bool
 r0 : List Int
 r1 : List Int
 r2 : List Int
 r3 : List Int
def encDt (x : Dt) : List C := [.int .i64 x.what, .int .i64 x.a, .int .i64 x.b, .int .i64 x.k, .bool x.odd, .ls 1 Int encI x.r0, .ls 1 Int encI x.r1, .ls 1 Int encI x.r2, .ls 1 Int encI x.r3]
structure Mt where
 k : Int
 to : Int
 repo : Int
 path : List UInt8
def encMt (x : Mt) : List C := [.int .i64 x.k, .int .i64 x.to, .int .i64 x.repo, .str x.path]
end Go.Nest
