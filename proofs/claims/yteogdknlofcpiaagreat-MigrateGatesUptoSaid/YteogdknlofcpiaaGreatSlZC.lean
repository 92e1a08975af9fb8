import Derived.Test.YteogdknlofcpiaaGreatSlZB
import Derived.Test.YteogdknlofcpiaaGreatSlDL
namespace Sl
open _root_.Go _root_.Go.RowKit
set_option linter.all false
abbrev itc (x : ItemD) : Array Value := #[.int .i64 x.op.v, .int .i64 x.inp.v, .int .i64 x.ep.v, .int .i64 x.kind.v, .slice x.p x.bs.length x.c, .int .i64 x.t.v]
abbrev itl (x : ItemD) : List Value := [.int .i64 x.op.v, .int .i64 x.inp.v, .int .i64 x.ep.v, .int .i64 x.kind.v, .slice x.p x.bs.length x.c, .int .i64 x.t.v]
abbrev bnc (b : BoundD) : Array Value := #[.string b.var.v, .int .i64 b.ev.ev.src.v, .int .i64 b.ev.ev.seq.v, .int .i64 b.ev.ev.time.v, .string b.ev.ev.typ.v, .slice b.ev.p b.ev.ev.attrs.length b.ev.c]
abbrev bnl (b : BoundD) : List Value := [.string b.var.v, .int .i64 b.ev.ev.src.v, .int .i64 b.ev.ev.seq.v, .int .i64 b.ev.ev.time.v, .string b.ev.ev.typ.v, .slice b.ev.p b.ev.ev.attrs.length b.ev.c]
abbrev evc (e : EvM) (p : Option Addr) (c : Nat) : Array Value := #[.int .i64 e.src.v, .int .i64 e.seq.v, .int .i64 e.time.v, .string e.typ.v, .slice p e.attrs.length c]
abbrev evl (e : EvM) (p : Option Addr) (c : Nat) : List Value := [.int .i64 e.src.v, .int .i64 e.seq.v, .int .i64 e.time.v, .string e.typ.v, .slice p e.attrs.length c]
end Sl
