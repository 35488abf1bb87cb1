/- ShardOk of the program and of the reference. -/
import Derived.Test.YtifaekkbdmcehaaShardOkI
import Derived.Test.YtifaekkbdmcehaaShardOkS
